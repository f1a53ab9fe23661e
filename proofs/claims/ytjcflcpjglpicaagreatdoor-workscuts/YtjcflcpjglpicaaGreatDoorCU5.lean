/- Plain laws of chapter 9: CheckPieces, CheckCut, FirstFit, Coils and Cut return what the reference returns. Conditions: none. -/
import Derived.Test.YtjcflcpjglpicaaGreatDoorCU4
import Derived.Test.YtjcflcpjglpicaaGreatDoorAW9
set_option linter.all false
set_option maxRecDepth 10000
set_option maxHeartbeats 100000000
namespace Go.Proofs.YtjcflcpjglpicaaGreatDoor
open Go Go.Idl Go.Sv Go.Proofs
theorem zFQ {c:Int}{ps:List Int}(hl:ps.length<=67)(hb:qL5 c ps≠0):H15 (c,ps)=some ([],qL5 c ps):=by
 refine OkT.eq ?_;show OkT (G15 (qDQ S70 20) c ps) _;unfold G15;refine qU (h14 (by omega)) (qU (h59 _ _) (qU (h58 _ (by simp)) ?_));rw[qOC,bne_iff_ne.2 hb];exact jR (bne_iff_ne.2 hb) (qG rfl)
theorem zFY {c:Int}{ps:List Int}(v:Vc c ps)(hl:8 < ps.length):H15 (c,ps)=some ([],22):=by
 have hpl:=v.len;refine OkT.eq ?_;show OkT (G15 (qDQ S70 20) c ps) _;unfold G15;refine qU (h14 (by omega)) (qU (h59 _ _) (qU (h58 _ (by simp)) ?_));rw[qOC,v.bad,show decide (8 < (ps.length:Int))=true from decide_eq_true (by omega)];exact jR rfl (qG rfl)
theorem h15 {c:Int}{ps:List Int}(v:Vc c ps)(hl:ps.length<=8):H15 (c,ps)=some ((cu c ps ps.length []).2,0):=by
 have hpl:=v.len;refine OkT.eq ?_;show OkT (G15 (qDQ S70 20) c ps) _;unfold G15;refine qU (h14 (by omega)) (qU (h59 _ _) (qU (h58 _ (by simp)) ?_));rw[qOC,v.bad,show decide (8 < (ps.length:Int))=false from decide_eq_false (by omega)];refine aR rfl ?_;obtain⟨cl',ll',q1,_⟩:=s70 v ps.length 20 [] [] [] [] (ps.length+1) (by omega) (by simp) rfl (zS4 _) rfl (zPM _) (by simp) rfl (zPM _) (by simp);have hw:IntKind.i64.wrap ((ps.length:Int)+1)=(ps.length:Int)+1:=uI (by omega) (by omega)
 have hu:qIO ([],(ps.length:Int)+1) (cu c ps ps.length [])=((cu c ps ps.length []).2,(cu c ps ps.length []).1):=if_pos (by
  have:=(qWR v.ps).1;show (cu c ps ps.length []).1 < (ps.length:Int)+1
  omega)
 rw[hu] at q1;generalize qDQ S70 20=R at q1 ⊢;rw[hw];exact qU q1 (qG rfl)
theorem h21 {c:Int}{ps:List Int}(v:Vc c ps)(hl:ps.length<=8):H21 (c,ps,[])=some (cu c ps ps.length []):=by
 have:=r21 v ps.length 14 [] (by omega) (by simp);show R21 14 (c,ps,[])=_;exact this
theorem zFR (c:Int)(ps a:List Int):H16 ((csC c ps a).1,(csC c ps a).2,(csC c ps a).2,(csC c ps a).1)=some true:=by
 unfold csC;split
 ·exact zC7 0 (by decide)
 ·split
  ·rename_i h;exact zC7 0 h
  ·exact zE9 _
theorem zFU (c:Int)(ps a:List Int):H3 (c,ps,a)=some true:=by
 refine OkT.eq ?_;have aw:=awake;unfold H3 G3
 revert aw
 generalize H9 ()=o9;intro aw;unfold zF6.run;dsimp only;refine qU aw (jR rfl (yV (fun c1=>yV (fun c2=>qU aw (qG rfl)) fun c2=>?_) fun c1=>qU aw (qG rfl)));rw[zB2,zQH] at c1;have c1:=of_decide_eq_false c1;have c2:=of_decide_eq_false c2;have hl:ps.length<=67:=by omega
 have ha:a.length<=67:=by omega
 by_cases hb:qL5 c ps=0
 ·have v:=zET hb;have hlen:=v.len;refine qU (h10 (by omega)) (qU (h11 v ha) (qU (h12 v) (qU (h13 v) (qU (h14 (by omega)) (aR (by simp) (aR (by rw[hb];rfl) (qU (h18 v ha) (qU (zFR c ps a) (jR rfl (qU (h19 v) (qU (zFC (by rw[sJ];omega)) (jR rfl (qU (h20 v) (qU (zE9 _) (aR rfl ?_)))))))))))))));have zNB:=qWR v.ps
  have hfin:ps.length<=8->OkT (zF6.bind (H15 (c,ps)) fun (x15:List Int×Int)=>zF6.ite (decide (8 < (↑ps.length:Int))) (zF6.bind (H17 (x15.fst,x15.snd,22,[])) fun (x16:Bool)=>zF6.ret x16) (zF6.bind (H21 (c,ps,[])) fun (x16:Int×List Int)=>zF6.bind (H17 (x15.fst,x15.snd,0,x16.snd)) fun (x17:Bool)=>zF6.ret x17)) fun x=>x=true:=fun h8 =>
   qU (h15 v h8) (aR (decide_eq_false (by omega)) (qU (h21 v h8) (qU (zFC (by rw[zNB.2.1];omega)) (qG rfl))))
  refine yV (fun c3=>yV (fun c4=>qG rfl) fun c4=>?_) fun c3=>?_
  ·have c4:=of_decide_eq_false c4;exact qU (zFY v (by omega)) (jR (decide_eq_true (by omega)) (qU (zDS _ (by decide)) (qG rfl)))
  ·rw[zEB] at c3;have c3:=of_decide_eq_false c3;exact hfin (by omega)
 ·refine qU (h10 (by omega)) (qU (zF2 hl hb) (qU (zF1 hl hb) (qU (zFV hl hb) (qU (h14 (by omega)) (aR (by simp) (jR (bne_iff_ne.2 hb) (qU (zFQ hl hb) (qU (zC7 _ hb) (jR rfl (qU (zDS _ hb) (jR rfl (qU (zC7 _ hb) (jR rfl (qU (zDS _ hb) (qG rfl)))))))))))))))
end Go.Proofs.YtjcflcpjglpicaaGreatDoor
