/- Arrays of two integers compared. Conditions: none. -/
import Derived.Test.YtkmfigmiehpcpaaGreatDoorLBF
import Derived.Test.YtkmfigmiehpcpaaGreatDoorPLQ
set_option linter.all false
set_option maxRecDepth 10000
namespace Go.Proofs.YtkmfigmiehpcpaaGreatDoor
open Go Go.Idl Go.Sv Go.Proofs
theorem du3:yE Tryz.prog (underlying 3)=some (.int .i64):=by kernel_rfl
theorem duA:yE Tryz.prog (underlying 79)=some (.array 2 3):=by kernel_rfl
theorem ds3:yE Tryz.prog (sizeOf 3)=some 1:=by kernel_rfl
theorem dp0 (a b:Value):yE Tryz.prog (part 3 #[a,b] 0)=some a:=by kernel_rfl
theorem dp1 (a b:Value):yE Tryz.prog (part 3 #[a,b] 1)=some b:=by kernel_rfl
theorem qUT {α:Type}(a:α):yE Tryz.prog (pure a:Sem α)=some a:=rfl
theorem dB {α β:Type}(s:Sem α)(g:α->Sem β):yE Tryz.prog (s >>= g)=(yE Tryz.prog s).bind fun a=>yE Tryz.prog (g a):=kG g s
theorem eqI (e:Nat)(a c:Int):yE Tryz.prog (Op.equalIn (e+1) 3 (.int .i64 a) (.int .i64 c))=some (a==c):=by
 simp[Op.equalIn,dB,du3,qUT]
theorem r2:List.range' 0 2=[0,1]:=rfl
theorem eqA (e:Nat)(a b c d:Int):yE Tryz.prog (Op.equalIn (e+2) 79 (.agg #[.int .i64 a,.int .i64 b]) (.agg #[.int .i64 c,.int .i64 d]))=some (a==c&&b==d):=by
 rw[Op.equalIn];simp only[dB,duA,zOD,ds3];simp only[r2,List.forIn_cons,List.forIn_nil,dB,dp0,dp1,eqI,qUT,Std.Legacy.Range.forIn_eq_forIn_range',Std.Legacy.Range.size,zOD,zQ5,Nat.mul_one,Nat.one_mul,Nat.sub_zero,Nat.add_sub_cancel,Nat.div_one];cases h1:(a==c) <;> cases h2:(b==d) <;> simp[dB,dp0,dp1,eqI,qUT,h1,h2]
theorem boA (a b c d:Int)(x y:Operand):yE Tryz.prog (do eqGuard .eql 79 x y (.agg #[.int .i64 a,.int .i64 b]) (.agg #[.int .i64 c,.int .i64 d]);binOp .eql 79 (.agg #[.int .i64 a,.int .i64 b]) (.agg #[.int .i64 c,.int .i64 d]))=some (.bool (a==c&&b==d)):=by
 have h0:yE Tryz.prog (eqGuard .eql 79 x y (.agg #[.int .i64 a,.int .i64 b]) (.agg #[.int .i64 c,.int .i64 d]))=some ():=by kernel_rfl
 have h1:binOp .eql 79 (.agg #[.int .i64 a,.int .i64 b]) (.agg #[.int .i64 c,.int .i64 d])=(do pure (.bool (<- Op.equal 79 (.agg #[.int .i64 a,.int .i64 b]) (.agg #[.int .i64 c,.int .i64 d])))):=rfl;rw[dB,h0,zOD,h1,dB];unfold Op.equal;rw[show Op.maxDepth=9998+2 from rfl,eqA];rfl
theorem zDW (a b c d:Int)(x y:Operand):yE Tryz.prog (do eqGuard .neq 79 x y (.agg #[.int .i64 a,.int .i64 b]) (.agg #[.int .i64 c,.int .i64 d]);binOp .neq 79 (.agg #[.int .i64 a,.int .i64 b]) (.agg #[.int .i64 c,.int .i64 d]))=some (.bool (!(a==c&&b==d))):=by
 have h0:yE Tryz.prog (eqGuard .neq 79 x y (.agg #[.int .i64 a,.int .i64 b]) (.agg #[.int .i64 c,.int .i64 d]))=some ():=by kernel_rfl
 have h1:binOp .neq 79 (.agg #[.int .i64 a,.int .i64 b]) (.agg #[.int .i64 c,.int .i64 d])=(do pure (.bool !(<- Op.equal 79 (.agg #[.int .i64 a,.int .i64 b]) (.agg #[.int .i64 c,.int .i64 d])))):=rfl;rw[dB,h0,zOD,h1,dB];unfold Op.equal;rw[show Op.maxDepth=9998+2 from rfl,eqA];rfl
theorem qP5 {v:Array Value}:pl (fvv (.agg v))=some (.agg v):=rfl
theorem pq (a b c d:Int):Ty.bool.zF8 (jJ Tryz.prog .eql 79 79 (fvv (.agg #[.int .i64 a,.int .i64 b])) (fvv (.agg #[.int .i64 c,.int .i64 d])) [])=some (a==c&&b==d):=by
 have e0:jJ Tryz.prog .eql 79 79 (fvv (.agg #[.int .i64 a,.int .i64 b])) (fvv (.agg #[.int .i64 c,.int .i64 d])) []=qRI (kL Tryz.prog (cop (.binOp .eql 79 (.const (.agg #[.int .i64 a,.int .i64 b])) (.const (.agg #[.int .i64 c,.int .i64 d])) 79)) [] H00):=by
  unfold jJ;rw[qP5,qP5];simp only;rw[show q7N (.agg #[.int .i64 a,.int .i64 b])=false from rfl,cond_false];rfl
 have h1:execOp (Env.val []) (cop (.binOp .eql 79 (.const (.agg #[.int .i64 a,.int .i64 b])) (.const (.agg #[.int .i64 c,.int .i64 d])) 79))=(do pure (.value (<- (do eqGuard .eql 79 (.const (.agg #[.int .i64 a,.int .i64 b])) (.const (.agg #[.int .i64 c,.int .i64 d])) (.agg #[.int .i64 a,.int .i64 b]) (.agg #[.int .i64 c,.int .i64 d]);binOp .eql 79 (.agg #[.int .i64 a,.int .i64 b]) (.agg #[.int .i64 c,.int .i64 d]))))):=rfl;rw[e0];unfold kL;rw[h1,dB,boA];rfl
theorem pqn (a b c d:Int):Ty.bool.zF8 (jJ Tryz.prog .neq 79 79 (fvv (.agg #[.int .i64 a,.int .i64 b])) (fvv (.agg #[.int .i64 c,.int .i64 d])) [])=some (!(a==c&&b==d)):=by
 have e0:jJ Tryz.prog .neq 79 79 (fvv (.agg #[.int .i64 a,.int .i64 b])) (fvv (.agg #[.int .i64 c,.int .i64 d])) []=qRI (kL Tryz.prog (cop (.binOp .neq 79 (.const (.agg #[.int .i64 a,.int .i64 b])) (.const (.agg #[.int .i64 c,.int .i64 d])) 79)) [] H00):=by
  unfold jJ;rw[qP5,qP5];simp only;rw[show q7N (.agg #[.int .i64 a,.int .i64 b])=false from rfl,cond_false];rfl
 have h1:execOp (Env.val []) (cop (.binOp .neq 79 (.const (.agg #[.int .i64 a,.int .i64 b])) (.const (.agg #[.int .i64 c,.int .i64 d])) 79))=(do pure (.value (<- (do eqGuard .neq 79 (.const (.agg #[.int .i64 a,.int .i64 b])) (.const (.agg #[.int .i64 c,.int .i64 d])) (.agg #[.int .i64 a,.int .i64 b]) (.agg #[.int .i64 c,.int .i64 d]);binOp .neq 79 (.agg #[.int .i64 a,.int .i64 b]) (.agg #[.int .i64 c,.int .i64 d]))))):=rfl;rw[e0];unfold kL;rw[h1,dB,zDW];rfl
end Go.Proofs.YtkmfigmiehpcpaaGreatDoor
