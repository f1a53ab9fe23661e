/- Plain laws of chapter 9: CheckPieces, CheckCut, FirstFit, Coils and Cut return what the reference returns. Conditions: none. -/
import Derived.Test.YtdohendjiddokaaGreatDoorCU4
import Derived.Test.YtdohendjiddokaaGreatDoorAW9
set_option linter.all false
set_option maxRecDepth 10000
set_option maxHeartbeats 100000000
namespace Go.Proofs.YtdohendjiddokaaGreatDoor
open Go Go.Idl Go.Sv Go.Proofs
theorem h15 {c:Int}{ps:List Int}(v:Vc c ps)(hl:ps.length<=8):H15 (c,ps)=some ((cu c ps ps.length []).2,0):=by
 have hpl:=v.len;refine OkT.eq ?_;show OkT (G15 (qFF S70 20) c ps) _;unfold G15;refine zR (h14 (by omega)) (zR (h59 _ _) (zR (h58 _ (by simp)) ?_));rw[q3S,v.bad,show decide (8 < (ps.length:Int))=false from decide_eq_false (by omega)];refine qD1 rfl ?_;obtain⟨cl',ll',q1,_⟩:=s70 v ps.length 20 [] [] [] [] (ps.length+1) (by omega) (by simp) rfl (zTC _) rfl (zP0 _) (by simp) rfl (zP0 _) (by simp);have hw:IntKind.i64.wrap ((ps.length:Int)+1)=(ps.length:Int)+1:=aP (by omega) (by omega)
 have hu:qIW ([],(ps.length:Int)+1) (cu c ps ps.length [])=((cu c ps ps.length []).2,(cu c ps ps.length []).1):=if_pos (by
  have:=(qCK v.ps).1;show (cu c ps ps.length []).1 < (ps.length:Int)+1
  omega)
 rw[hu] at q1;generalize qFF S70 20=R at q1 ⊢;rw[hw];exact zR q1 (qM rfl)
end Go.Proofs.YtdohendjiddokaaGreatDoor
