/- slices.Clone hands back a copy. Conditions: none. -/
import Derived.Test.YtdohendjiddokaaGreatDoorLB0
set_option linter.all false
set_option maxRecDepth 10000
namespace Go.Proofs.YtdohendjiddokaaGreatDoor
open Go Go.Idl Go.Sv Go.Proofs
noncomputable section
abbrev LZ:Ty:=.list 3 (.int .i64)
def qJF (x:List Int):Option (List Int):=(zGM.ite x.isEmpty
 (zGM.bind
   (qOL (zGM.ret [])
     (zGM.ite (x.length.beq 0) (zGM.ret [])
       (zGM.ite ((0+x.length).ble 1048576) (zGM.ret ([]++x)) zGM.fail)))
   fun (x1:List Int)=>zGM.ret x1)
 (zGM.ite (x.length.beq 0) (zGM.ret []) (zGM.ite ((0+x.length).ble 1048576) (zGM.ret ([]++x)) zGM.fail)):zGM (List Int)).run
theorem LBc:Lib Tryz.prog good (qG 10) [(33,⟨[LZ],[LZ],qJF⟩)] []:=by
 letI:Frs:=zKE
 exact Lib.zLA LB0 33 [] ⟨[],[],[],[],[]⟩ [LZ] [LZ] Tryz.f33 qJF (by kernel_rfl) Tryz.func33 (by kernel_rfl) (by kernel_rfl)
def ANc:Ans:=[(33,(⟨[],[],[],[],[]⟩,[LZ]))]
theorem q4E:(fun (y:Yl) (T:zX) (R:Type) (K:SV->SH->zGM R) (x:Int) (xs:List Int)=>@ciN _ zKE y zL6 Tryz.prog (qG 10) T [] ANc 1 R nm0 33 [.d LZ (x::xs)] ⟨0,[]⟩ K)=fun y T R K x xs =>
 zGM.ite (Nat.ble (0+(x::xs).length) 1048576) (K (.own 7 1 (0+(x::xs).length)) ⟨2,[(7,.list 3 true 1 1 (.int .i64) ([]++(x::xs))),(5,.list 3 false 0 0 (.int .i64) [])]⟩) .fail:=by kernel_rfl
theorem q9P:qJF []=some []:=by
 show (zGM.bind (qOL (some []) (some [])) fun (x1:List Int)=>zGM.ret x1)=some [];rw[qTK];rfl
instance frs8:zG8 Tryz.prog (qG 10):=by
 obtain⟨nat,tab,s,ht,hit⟩:=LBc;refine zCZ s fun g el hg=>?_
 have hg:cond (Nat.beq g 33) (some 3) none=some el:=hg
 cases hb:Nat.beq g 33 with
 | false=>rw[hb] at hg;cases hg
 | true =>
   rw[hb] at hg;have h1:=zPZ hb;subst h1;cases hg
   letI:Yl:=⟨0⟩
   refine⟨by kernel_rfl,by kernel_rfl,by kernel_rfl,?_,fun xs hx hn=>?_⟩
   ·have:=ht 33 ⟨[LZ],[LZ],qJF⟩ rfl [];simp only[q9P] at this;exact this
   ·cases xs with
    | nil=>exact absurd rfl hx
    | cons x xs =>
      have he:=congrFun (congrFun (congrFun (congrFun (congrFun (congrFun q4E ⟨0⟩) [(33,⟨[LZ],[LZ],qJF⟩)]) (SV×SH)) fun v h=>.ret (v,h)) x) xs
      have hc:qEA Tryz.prog (qG 10) nm0 33 (qB [.d LZ (x::xs)]) (qC ([]:List (Nat×SO))) fun v p=>∃ v' h',v=v'.enc∧p=qC h'.l∧Post Tryz.prog ⟨0,[]⟩ h' v'∧((fun v h=>.ret (v,h):SV->SH->zGM (SV×SH)) v' h').run=some (.own 7 1 (0+(x::xs).length),⟨2,[(7,.list 3 true 1 1 (.int .i64) ([]++(x::xs))),(5,.list 3 false 0 0 (.int .i64) [])]⟩):=by
       letI:Frs:=zKE
       refine qEW s ht hit ANc 1 (R:=SV×SH) nm0 33 [.d LZ (x::xs)] ⟨0,[]⟩ _ _ sQ (by simp[okL,SV.ok]) ?_;refine Eq.trans (congrArg zGM.run he) ?_;rw[show Nat.ble (0+(x::xs).length) 1048576=true by rw[zQI];exact hn];rfl
      rcases hc with ⟨e,_⟩ | ⟨he1,hc⟩
      ·have:qOI Tryz.prog 33=false:=by kernel_rfl
       rw[this] at e;cases e
      ·refine .inr ⟨he1,fun Z H m zG0 a b c=>(hc Z H m zG0 a b c).mono ?_⟩;rintro r ⟨Z',m',pv,ph',a1,a2,a3,a4,v',h',rfl,rfl,_,q⟩;cases q;refine⟨Z',m',_,_,a1,a2,a3,a4,7,?_,?_⟩
       ·rw[zQI];simp[SV.enc]
       ·rfl
end
end Go.Proofs.YtdohendjiddokaaGreatDoor
