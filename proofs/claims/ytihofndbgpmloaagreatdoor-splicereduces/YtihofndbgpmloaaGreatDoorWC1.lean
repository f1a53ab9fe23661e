/- Further functions of the reference by their values. Conditions: none. -/
import Derived.Test.YtihofndbgpmloaaGreatDoorNB
import Derived.Test.YtihofndbgpmloaaGreatDoorWV2
set_option linter.all false
set_option maxRecDepth 10000
set_option maxHeartbeats 100000000
namespace Go.Proofs.YtihofndbgpmloaaGreatDoor
open Go Go.Idl Go.Sv Go.Proofs
noncomputable section
theorem CX{q:Rat}(h:Sm q):(sg (decide (q.num<0)) (dec q.num.natAbs)).length<=9001:=by have l1:=uW (yk h.n);cases decide (q.num<0)<;>simp[sg]<;>omega
theorem qAi{q:Rat}(h:Sm q):Y2 (rt q)=some (rt (q.num:Rat)):=by refine OkT.eq ?_;show OkT (UL (rt q)) _;unfold UL;have sl:=CX h;rw[ah,y5];by_cases hd:q.den=1;{rw[dH hd];refine qK (n8 (g_ (yO _)) (by omega)) (zX rfl (by rw[qc];omega) (qC ?_));rw[vA,qHt]};rw[dE hd];refine qK (dT (g_ (yO _)) (by omega)) (zX rfl (by simp[qc]) (qC ?_));rw[vA,qIa]
theorem qA9{q:Rat}(h:Sm q):Y3 (rt q)=some (rt (q.den:Int)):=by refine OkT.eq ?_;show OkT (UM (rt q)) _;unfold UM;have sl:=CX h;by_cases hd:q.den=1;{rw[dH hd,hd,ah];refine qK (n8 (g_ (yO _)) (by omega)) (qa (by simp[qc]) (qC ?_));rw[wK (by decide)];show _=tx (dec 1);rw[dec_lt (by decide)];rfl};rw[dE hd,ah,wK (by omega)];refine qK (dT (g_ (yO _)) (by omega)) (qZ (by simp[qc];omega) (zX (i:=(sg (decide (q.num<0)) (dec q.num.natAbs)).length+1) (by rw[wI (by omega) (by omega)];omega) (by simp[qc]) (qC ?_)));rw[vZ,oZ];rfl
theorem qAc(q:Rat):Y4 (rt q)=some (rt (abR q)):=by refine OkT.eq ?_;show OkT (UN (rt q)) _;unfold UN abR;have OR:=Cv (q:=q);refine qK (nU q) ?_;by_cases h1:q.num<0;{(have h0:q≠0:=λe=>by rw[e]at h1;exact absurd h1 (by decide));rw[if_neg h0,if_pos h1]at OR⊢;rw[if_pos h1];(have Ut:1<=(rqL q).length:=by have:=tj.2 h1;cases hr:rqL q with|nil=>rw[hr]at this;cases this|cons=>simp);refine qa rfl (zX (i:=1) rfl Ut (qC ?_));show(tx (rqL q)).extract 1 (tx (rqL q)).size=tx _;rw[vZ,OR]};rw[if_neg h1,if_neg h1];refine qZ ?_ (qC rfl);split<;>decide
theorem ES{a b:Rat}(ha:Sm a)(hb:Sm b):oH (rt a,rt b)=some (sgR (a-b)):=by refine OkT.eq ?_;show OkT (UP (rt a) (rt b)) _;unfold UP;exact qK (h48 ha hb) (qK (nU _) (qC rfl))
end
end Go.Proofs.YtihofndbgpmloaaGreatDoor
