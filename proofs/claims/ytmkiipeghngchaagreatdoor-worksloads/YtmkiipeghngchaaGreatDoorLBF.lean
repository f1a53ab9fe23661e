/- slices.Clone hands back a copy. Conditions: none. -/
import Derived.Test.YtmkiipeghngchaaGreatDoorLB0
set_option linter.all false
set_option maxRecDepth 10000
namespace Go.Proofs.YtmkiipeghngchaaGreatDoor
open Go Go.Idl Go.Sv Go.Proofs
noncomputable section
abbrev LZ:Ty:=.list 3 (.int .i64)
def qKR (x:List Int):Option (List Int):=(zEP.ite x.isEmpty
 (zEP.bind
   (qNN (zEP.ret [])
     (zEP.ite (x.length.beq 0) (zEP.ret [])
       (zEP.ite ((0+x.length).ble 1048576) (zEP.ret ([]++x)) zEP.fail)))
   fun (x1:List Int)=>zEP.ret x1)
 (zEP.ite (x.length.beq 0) (zEP.ret []) (zEP.ite ((0+x.length).ble 1048576) (zEP.ret ([]++x)) zEP.fail)):zEP (List Int)).run
theorem LBc:Lib Tryz.prog good (qG 10) [(71,⟨[LZ],[LZ],qKR⟩)] []:=by
 letI:Frs:=zIG
 exact Lib.zJD LB0 71 [] ⟨[],[],[],[],[]⟩ [LZ] [LZ] Tryz.f71 qKR (by kernel_rfl) Tryz.func71 (by kernel_rfl) (by kernel_rfl)
def ANc:Ans:=[(71,(⟨[],[],[],[],[]⟩,[LZ]))]
theorem q1O:(fun (y:Yl) (T:zQ) (R:Type) (K:SV->SH->zEP R) (x:Int) (xs:List Int)=>@ciN _ zIG y zKB Tryz.prog (qG 10) T [] ANc 1 R nm0 71 [.d LZ (x::xs)] ⟨0,[]⟩ K)=fun y T R K x xs =>
 zEP.ite (Nat.ble (0+(x::xs).length) 1048576) (K (.own 7 1 (0+(x::xs).length)) ⟨2,[(7,.list 3 true 1 1 (.int .i64) ([]++(x::xs))),(5,.list 3 false 0 0 (.int .i64) [])]⟩) .fail:=by kernel_rfl
theorem q5N:qKR []=some []:=by
 show (zEP.bind (qNN (some []) (some [])) fun (x1:List Int)=>zEP.ret x1)=some [];rw[qS8];rfl
instance frs8:zFC Tryz.prog (qG 10):=by
 obtain⟨nat,tab,s,ht,hit⟩:=LBc;refine q9P s fun g el hg=>?_
 have hg:cond (Nat.beq g 71) (some 3) none=some el:=hg
 cases hb:Nat.beq g 71 with
 | false=>rw[hb] at hg;cases hg
 | true =>
   rw[hb] at hg;have h1:=zN9 hb;subst h1;cases hg
   letI:Yl:=⟨0⟩
   refine⟨by kernel_rfl,by kernel_rfl,by kernel_rfl,?_,fun xs hx hn=>?_⟩
   ·have:=ht 71 ⟨[LZ],[LZ],qKR⟩ rfl [];simp only[q5N] at this;exact this
   ·cases xs with
    | nil=>exact absurd rfl hx
    | cons x xs =>
      have he:=congrFun (congrFun (congrFun (congrFun (congrFun (congrFun q1O ⟨0⟩) [(71,⟨[LZ],[LZ],qKR⟩)]) (SV×SH)) fun v h=>.ret (v,h)) x) xs
      have hc:qDK Tryz.prog (qG 10) nm0 71 (qB [.d LZ (x::xs)]) (qC ([]:List (Nat×SO))) fun v p=>∃ v' h',v=v'.enc∧p=qC h'.l∧Post Tryz.prog ⟨0,[]⟩ h' v'∧((fun v h=>.ret (v,h):SV->SH->zEP (SV×SH)) v' h').run=some (.own 7 1 (0+(x::xs).length),⟨2,[(7,.list 3 true 1 1 (.int .i64) ([]++(x::xs))),(5,.list 3 false 0 0 (.int .i64) [])]⟩):=by
       letI:Frs:=zIG
       refine qEB s ht hit ANc 1 (R:=SV×SH) nm0 71 [.d LZ (x::xs)] ⟨0,[]⟩ _ _ sI (by simp[okL,SV.ok]) ?_;refine Eq.trans (congrArg zEP.run he) ?_;rw[show Nat.ble (0+(x::xs).length) 1048576=true by rw[zOV];exact hn];rfl
      rcases hc with ⟨e,_⟩ | ⟨he1,hc⟩
      ·have:qOD Tryz.prog 71=false:=by kernel_rfl
       rw[this] at e;cases e
      ·refine .inr ⟨he1,fun Z H m zE3 a b c=>(hc Z H m zE3 a b c).mono ?_⟩;rintro r ⟨Z',m',pv,ph',a1,a2,a3,a4,v',h',rfl,rfl,_,q⟩;cases q;refine⟨Z',m',_,_,a1,a2,a3,a4,7,?_,?_⟩
       ·rw[zOV];simp[SV.enc]
       ·rfl
end
end Go.Proofs.YtmkiipeghngchaaGreatDoor
