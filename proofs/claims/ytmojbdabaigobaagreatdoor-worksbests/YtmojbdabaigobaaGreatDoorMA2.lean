/- Arrays of two integers compared. Conditions: none. -/
import Derived.Test.YtmojbdabaigobaaGreatDoorLBF
import Derived.Test.YtmojbdabaigobaaGreatDoorPLQ
set_option linter.all false
set_option maxRecDepth 10000
namespace Go.Proofs.YtmojbdabaigobaaGreatDoor
open Go Go.Idl Go.Sv Go.Proofs
theorem du3:z8 Tryz.prog (underlying 3)=some (.int .i64):=by kernel_rfl
theorem duA:z8 Tryz.prog (underlying 75)=some (.array 2 3):=by kernel_rfl
theorem ds3:z8 Tryz.prog (sizeOf 3)=some 1:=by kernel_rfl
theorem dp0 (a b:Value):z8 Tryz.prog (part 3 #[a,b] 0)=some a:=by kernel_rfl
theorem dp1 (a b:Value):z8 Tryz.prog (part 3 #[a,b] 1)=some b:=by kernel_rfl
theorem qWR {α:Type}(a:α):z8 Tryz.prog (pure a:Sem α)=some a:=rfl
theorem dB {α β:Type}(s:Sem α)(g:α->Sem β):z8 Tryz.prog (s >>= g)=(z8 Tryz.prog s).bind fun a=>z8 Tryz.prog (g a):=kF g s
theorem eqI (e:Nat)(a c:Int):z8 Tryz.prog (Op.equalIn (e+1) 3 (.int .i64 a) (.int .i64 c))=some (a==c):=by
 simp[Op.equalIn,dB,du3,qWR]
theorem r2:List.range' 0 2=[0,1]:=rfl
theorem eqA (e:Nat)(a b c d:Int):z8 Tryz.prog (Op.equalIn (e+2) 75 (.agg #[.int .i64 a,.int .i64 b]) (.agg #[.int .i64 c,.int .i64 d]))=some (a==c&&b==d):=by
 rw[Op.equalIn];simp only[dB,duA,zO2,ds3];simp only[r2,List.forIn_cons,List.forIn_nil,dB,dp0,dp1,eqI,qWR,Std.Legacy.Range.forIn_eq_forIn_range',Std.Legacy.Range.size,zO2,zRV,Nat.mul_one,Nat.one_mul,Nat.sub_zero,Nat.add_sub_cancel,Nat.div_one];cases h1:(a==c) <;> cases h2:(b==d) <;> simp[dB,dp0,dp1,eqI,qWR,h1,h2]
theorem boA (a b c d:Int)(x y:Operand):z8 Tryz.prog (do eqGuard .eql 75 x y (.agg #[.int .i64 a,.int .i64 b]) (.agg #[.int .i64 c,.int .i64 d]);binOp .eql 75 (.agg #[.int .i64 a,.int .i64 b]) (.agg #[.int .i64 c,.int .i64 d]))=some (.bool (a==c&&b==d)):=by
 have h0:z8 Tryz.prog (eqGuard .eql 75 x y (.agg #[.int .i64 a,.int .i64 b]) (.agg #[.int .i64 c,.int .i64 d]))=some ():=by kernel_rfl
 have h1:binOp .eql 75 (.agg #[.int .i64 a,.int .i64 b]) (.agg #[.int .i64 c,.int .i64 d])=(do pure (.bool (<- Op.equal 75 (.agg #[.int .i64 a,.int .i64 b]) (.agg #[.int .i64 c,.int .i64 d])))):=rfl;rw[dB,h0,zO2,h1,dB];unfold Op.equal;rw[show Op.maxDepth=9998+2 from rfl,eqA];rfl
theorem zEJ (a b c d:Int)(x y:Operand):z8 Tryz.prog (do eqGuard .neq 75 x y (.agg #[.int .i64 a,.int .i64 b]) (.agg #[.int .i64 c,.int .i64 d]);binOp .neq 75 (.agg #[.int .i64 a,.int .i64 b]) (.agg #[.int .i64 c,.int .i64 d]))=some (.bool (!(a==c&&b==d))):=by
 have h0:z8 Tryz.prog (eqGuard .neq 75 x y (.agg #[.int .i64 a,.int .i64 b]) (.agg #[.int .i64 c,.int .i64 d]))=some ():=by kernel_rfl
 have h1:binOp .neq 75 (.agg #[.int .i64 a,.int .i64 b]) (.agg #[.int .i64 c,.int .i64 d])=(do pure (.bool !(<- Op.equal 75 (.agg #[.int .i64 a,.int .i64 b]) (.agg #[.int .i64 c,.int .i64 d])))):=rfl;rw[dB,h0,zO2,h1,dB];unfold Op.equal;rw[show Op.maxDepth=9998+2 from rfl,eqA];rfl
theorem qQT {v:Array Value}:pl (fvv (.agg v))=some (.agg v):=rfl
theorem pq (a b c d:Int):Ty.bool.zGT (jT Tryz.prog .eql 75 75 (fvv (.agg #[.int .i64 a,.int .i64 b])) (fvv (.agg #[.int .i64 c,.int .i64 d])) [])=some (a==c&&b==d):=by
 have e0:jT Tryz.prog .eql 75 75 (fvv (.agg #[.int .i64 a,.int .i64 b])) (fvv (.agg #[.int .i64 c,.int .i64 d])) []=qRR (kL Tryz.prog (cop (.binOp .eql 75 (.const (.agg #[.int .i64 a,.int .i64 b])) (.const (.agg #[.int .i64 c,.int .i64 d])) 75)) [] H00):=by
  unfold jT;rw[qQT,qQT];simp only;rw[show q8O (.agg #[.int .i64 a,.int .i64 b])=false from rfl,cond_false];rfl
 have h1:execOp (Env.val []) (cop (.binOp .eql 75 (.const (.agg #[.int .i64 a,.int .i64 b])) (.const (.agg #[.int .i64 c,.int .i64 d])) 75))=(do pure (.value (<- (do eqGuard .eql 75 (.const (.agg #[.int .i64 a,.int .i64 b])) (.const (.agg #[.int .i64 c,.int .i64 d])) (.agg #[.int .i64 a,.int .i64 b]) (.agg #[.int .i64 c,.int .i64 d]);binOp .eql 75 (.agg #[.int .i64 a,.int .i64 b]) (.agg #[.int .i64 c,.int .i64 d]))))):=rfl;rw[e0];unfold kL;rw[h1,dB,boA];rfl
theorem pqn (a b c d:Int):Ty.bool.zGT (jT Tryz.prog .neq 75 75 (fvv (.agg #[.int .i64 a,.int .i64 b])) (fvv (.agg #[.int .i64 c,.int .i64 d])) [])=some (!(a==c&&b==d)):=by
 have e0:jT Tryz.prog .neq 75 75 (fvv (.agg #[.int .i64 a,.int .i64 b])) (fvv (.agg #[.int .i64 c,.int .i64 d])) []=qRR (kL Tryz.prog (cop (.binOp .neq 75 (.const (.agg #[.int .i64 a,.int .i64 b])) (.const (.agg #[.int .i64 c,.int .i64 d])) 75)) [] H00):=by
  unfold jT;rw[qQT,qQT];simp only;rw[show q8O (.agg #[.int .i64 a,.int .i64 b])=false from rfl,cond_false];rfl
 have h1:execOp (Env.val []) (cop (.binOp .neq 75 (.const (.agg #[.int .i64 a,.int .i64 b])) (.const (.agg #[.int .i64 c,.int .i64 d])) 75))=(do pure (.value (<- (do eqGuard .neq 75 (.const (.agg #[.int .i64 a,.int .i64 b])) (.const (.agg #[.int .i64 c,.int .i64 d])) (.agg #[.int .i64 a,.int .i64 b]) (.agg #[.int .i64 c,.int .i64 d]);binOp .neq 75 (.agg #[.int .i64 a,.int .i64 b]) (.agg #[.int .i64 c,.int .i64 d]))))):=rfl;rw[e0];unfold kL;rw[h1,dB,zEJ];rfl
end Go.Proofs.YtmojbdabaigobaaGreatDoor
