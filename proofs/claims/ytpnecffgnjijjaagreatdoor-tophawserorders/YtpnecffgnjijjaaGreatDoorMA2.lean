/- Arrays of two integers compared. Conditions: none. -/
import Derived.Test.YtpnecffgnjijjaaGreatDoorLBF
import Derived.Test.YtpnecffgnjijjaaGreatDoorPLQ
set_option linter.all false
set_option maxRecDepth 10000
namespace Go.Proofs.YtpnecffgnjijjaaGreatDoor
open Go Go.Idl Go.Sv Go.Proofs
theorem du3:yB Tryz.prog (underlying 3)=some (.int .i64):=by kernel_rfl
theorem duA:yB Tryz.prog (underlying 64)=some (.array 2 3):=by kernel_rfl
theorem ds3:yB Tryz.prog (sizeOf 3)=some 1:=by kernel_rfl
theorem dp0 (a b:Value):yB Tryz.prog (part 3 #[a,b] 0)=some a:=by kernel_rfl
theorem dp1 (a b:Value):yB Tryz.prog (part 3 #[a,b] 1)=some b:=by kernel_rfl
theorem qV1 {α:Type}(a:α):yB Tryz.prog (pure a:Sem α)=some a:=rfl
theorem dB {α β:Type}(s:Sem α)(g:α->Sem β):yB Tryz.prog (s >>= g)=(yB Tryz.prog s).bind fun a=>yB Tryz.prog (g a):=xY g s
theorem eqI (e:Nat)(a c:Int):yB Tryz.prog (Op.equalIn (e+1) 3 (.int .i64 a) (.int .i64 c))=some (a==c):=by
 simp[Op.equalIn,dB,du3,qV1]
theorem r2:List.range' 0 2=[0,1]:=rfl
theorem eqA (e:Nat)(a b c d:Int):yB Tryz.prog (Op.equalIn (e+2) 64 (.agg #[.int .i64 a,.int .i64 b]) (.agg #[.int .i64 c,.int .i64 d]))=some (a==c&&b==d):=by
 rw[Op.equalIn];simp only[dB,duA,zNI,ds3];simp only[r2,List.forIn_cons,List.forIn_nil,dB,dp0,dp1,eqI,qV1,Std.Legacy.Range.forIn_eq_forIn_range',Std.Legacy.Range.size,zNI,zQE,Nat.mul_one,Nat.one_mul,Nat.sub_zero,Nat.add_sub_cancel,Nat.div_one];cases h1:(a==c) <;> cases h2:(b==d) <;> simp[dB,dp0,dp1,eqI,qV1,h1,h2]
theorem boA (a b c d:Int)(x y:Operand):yB Tryz.prog (do eqGuard .eql 64 x y (.agg #[.int .i64 a,.int .i64 b]) (.agg #[.int .i64 c,.int .i64 d]);binOp .eql 64 (.agg #[.int .i64 a,.int .i64 b]) (.agg #[.int .i64 c,.int .i64 d]))=some (.bool (a==c&&b==d)):=by
 have h0:yB Tryz.prog (eqGuard .eql 64 x y (.agg #[.int .i64 a,.int .i64 b]) (.agg #[.int .i64 c,.int .i64 d]))=some ():=by kernel_rfl
 have h1:binOp .eql 64 (.agg #[.int .i64 a,.int .i64 b]) (.agg #[.int .i64 c,.int .i64 d])=(do pure (.bool (<- Op.equal 64 (.agg #[.int .i64 a,.int .i64 b]) (.agg #[.int .i64 c,.int .i64 d])))):=rfl;rw[dB,h0,zNI,h1,dB];unfold Op.equal;rw[show Op.maxDepth=9998+2 from rfl,eqA];rfl
theorem zE7 (a b c d:Int)(x y:Operand):yB Tryz.prog (do eqGuard .neq 64 x y (.agg #[.int .i64 a,.int .i64 b]) (.agg #[.int .i64 c,.int .i64 d]);binOp .neq 64 (.agg #[.int .i64 a,.int .i64 b]) (.agg #[.int .i64 c,.int .i64 d]))=some (.bool (!(a==c&&b==d))):=by
 have h0:yB Tryz.prog (eqGuard .neq 64 x y (.agg #[.int .i64 a,.int .i64 b]) (.agg #[.int .i64 c,.int .i64 d]))=some ():=by kernel_rfl
 have h1:binOp .neq 64 (.agg #[.int .i64 a,.int .i64 b]) (.agg #[.int .i64 c,.int .i64 d])=(do pure (.bool !(<- Op.equal 64 (.agg #[.int .i64 a,.int .i64 b]) (.agg #[.int .i64 c,.int .i64 d])))):=rfl;rw[dB,h0,zNI,h1,dB];unfold Op.equal;rw[show Op.maxDepth=9998+2 from rfl,eqA];rfl
theorem qOL {v:Array Value}:pl (fvv (.agg v))=some (.agg v):=rfl
theorem pq (a b c d:Int):Ty.bool.zG2 (jP Tryz.prog .eql 64 64 (fvv (.agg #[.int .i64 a,.int .i64 b])) (fvv (.agg #[.int .i64 c,.int .i64 d])) [])=some (a==c&&b==d):=by
 have e0:jP Tryz.prog .eql 64 64 (fvv (.agg #[.int .i64 a,.int .i64 b])) (fvv (.agg #[.int .i64 c,.int .i64 d])) []=qSH (kG Tryz.prog (cop (.binOp .eql 64 (.const (.agg #[.int .i64 a,.int .i64 b])) (.const (.agg #[.int .i64 c,.int .i64 d])) 64)) [] H00):=by
  unfold jP;rw[qOL,qOL];simp only;rw[show q8U (.agg #[.int .i64 a,.int .i64 b])=false from rfl,cond_false];rfl
 have h1:execOp (Env.val []) (cop (.binOp .eql 64 (.const (.agg #[.int .i64 a,.int .i64 b])) (.const (.agg #[.int .i64 c,.int .i64 d])) 64))=(do pure (.value (<- (do eqGuard .eql 64 (.const (.agg #[.int .i64 a,.int .i64 b])) (.const (.agg #[.int .i64 c,.int .i64 d])) (.agg #[.int .i64 a,.int .i64 b]) (.agg #[.int .i64 c,.int .i64 d]);binOp .eql 64 (.agg #[.int .i64 a,.int .i64 b]) (.agg #[.int .i64 c,.int .i64 d]))))):=rfl;rw[e0];unfold kG;rw[h1,dB,boA];rfl
theorem pqn (a b c d:Int):Ty.bool.zG2 (jP Tryz.prog .neq 64 64 (fvv (.agg #[.int .i64 a,.int .i64 b])) (fvv (.agg #[.int .i64 c,.int .i64 d])) [])=some (!(a==c&&b==d)):=by
 have e0:jP Tryz.prog .neq 64 64 (fvv (.agg #[.int .i64 a,.int .i64 b])) (fvv (.agg #[.int .i64 c,.int .i64 d])) []=qSH (kG Tryz.prog (cop (.binOp .neq 64 (.const (.agg #[.int .i64 a,.int .i64 b])) (.const (.agg #[.int .i64 c,.int .i64 d])) 64)) [] H00):=by
  unfold jP;rw[qOL,qOL];simp only;rw[show q8U (.agg #[.int .i64 a,.int .i64 b])=false from rfl,cond_false];rfl
 have h1:execOp (Env.val []) (cop (.binOp .neq 64 (.const (.agg #[.int .i64 a,.int .i64 b])) (.const (.agg #[.int .i64 c,.int .i64 d])) 64))=(do pure (.value (<- (do eqGuard .neq 64 (.const (.agg #[.int .i64 a,.int .i64 b])) (.const (.agg #[.int .i64 c,.int .i64 d])) (.agg #[.int .i64 a,.int .i64 b]) (.agg #[.int .i64 c,.int .i64 d]);binOp .neq 64 (.agg #[.int .i64 a,.int .i64 b]) (.agg #[.int .i64 c,.int .i64 d]))))):=rfl;rw[e0];unfold kG;rw[h1,dB,zE7];rfl
end Go.Proofs.YtpnecffgnjijjaaGreatDoor
