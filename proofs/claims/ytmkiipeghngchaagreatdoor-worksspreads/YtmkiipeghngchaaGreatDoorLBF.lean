/- slices.Clone hands back a copy. Conditions: none. -/
import Derived.Test.YtmkiipeghngchaaGreatDoorLB0
set_option linter.all false
set_option maxRecDepth 10000
namespace Go.Proofs.YtmkiipeghngchaaGreatDoor
open Go Go.Idl Go.Sv Go.Proofs
noncomputable section
abbrev LZ:Ty:=.list 3 (.int .i64)
def qLH (x:List Int):Option (List Int):=(zFC.ite x.isEmpty
 (zFC.bind
   (qMG (zFC.ret [])
     (zFC.ite (x.length.beq 0) (zFC.ret [])
       (zFC.ite ((0+x.length).ble 1048576) (zFC.ret ([]++x)) zFC.fail)))
   fun (x1:List Int)=>zFC.ret x1)
 (zFC.ite (x.length.beq 0) (zFC.ret []) (zFC.ite ((0+x.length).ble 1048576) (zFC.ret ([]++x)) zFC.fail)):zFC (List Int)).run
theorem LBc:Lib Tryz.prog good (qG 10) [(71,⟨[LZ],[LZ],qLH⟩)] []:=by
 letI:Frs:=zI3
 exact Lib.zJ0 LB0 71 [] ⟨[],[],[],[],[]⟩ [LZ] [LZ] Tryz.f71 qLH (by kernel_rfl) Tryz.func71 (by kernel_rfl) (by kernel_rfl)
def ANc:Ans:=[(71,(⟨[],[],[],[],[]⟩,[LZ]))]
theorem q28:(fun (y:Yl) (T:zV) (R:Type) (K:SV->SH->zFC R) (x:Int) (xs:List Int)=>@ciN _ zI3 y zKX Tryz.prog (qG 10) T [] ANc 1 R nm0 71 [.d LZ (x::xs)] ⟨0,[]⟩ K)=fun y T R K x xs =>
 zFC.ite (Nat.ble (0+(x::xs).length) 1048576) (K (.own 7 1 (0+(x::xs).length)) ⟨2,[(7,.list 3 true 1 1 (.int .i64) ([]++(x::xs))),(5,.list 3 false 0 0 (.int .i64) [])]⟩) .fail:=by kernel_rfl
theorem q5R:qLH []=some []:=by
 show (zFC.bind (qMG (some []) (some [])) fun (x1:List Int)=>zFC.ret x1)=some [];rw[qS2];rfl
instance frs8:zFY Tryz.prog (qG 10):=by
 obtain⟨nat,tab,s,ht,hit⟩:=LBc;refine q93 s fun g el hg=>?_
 have hg:cond (Nat.beq g 71) (some 3) none=some el:=hg
 cases hb:Nat.beq g 71 with
 | false=>rw[hb] at hg;cases hg
 | true =>
   rw[hb] at hg;have h1:=zOU hb;subst h1;cases hg
   letI:Yl:=⟨0⟩
   refine⟨by kernel_rfl,by kernel_rfl,by kernel_rfl,?_,fun xs hx hn=>?_⟩
   ·have:=ht 71 ⟨[LZ],[LZ],qLH⟩ rfl [];simp only[q5R] at this;exact this
   ·cases xs with
    | nil=>exact absurd rfl hx
    | cons x xs =>
      have he:=congrFun (congrFun (congrFun (congrFun (congrFun (congrFun q28 ⟨0⟩) [(71,⟨[LZ],[LZ],qLH⟩)]) (SV×SH)) fun v h=>.ret (v,h)) x) xs
      have hc:qD2 Tryz.prog (qG 10) nm0 71 (qB [.d LZ (x::xs)]) (qC ([]:List (Nat×SO))) fun v p=>∃ v' h',v=v'.enc∧p=qC h'.l∧Post Tryz.prog ⟨0,[]⟩ h' v'∧((fun v h=>.ret (v,h):SV->SH->zFC (SV×SH)) v' h').run=some (.own 7 1 (0+(x::xs).length),⟨2,[(7,.list 3 true 1 1 (.int .i64) ([]++(x::xs))),(5,.list 3 false 0 0 (.int .i64) [])]⟩):=by
       letI:Frs:=zI3
       refine qEK s ht hit ANc 1 (R:=SV×SH) nm0 71 [.d LZ (x::xs)] ⟨0,[]⟩ _ _ sK (by simp[okL,SV.ok]) ?_;refine Eq.trans (congrArg zFC.run he) ?_;rw[show Nat.ble (0+(x::xs).length) 1048576=true by rw[zPH];exact hn];rfl
      rcases hc with ⟨e,_⟩ | ⟨he1,hc⟩
      ·have:qMJ Tryz.prog 71=false:=by kernel_rfl
       rw[this] at e;cases e
      ·refine .inr ⟨he1,fun Z H m zFQ a b c=>(hc Z H m zFQ a b c).mono ?_⟩;rintro r ⟨Z',m',pv,ph',a1,a2,a3,a4,v',h',rfl,rfl,_,q⟩;cases q;refine⟨Z',m',_,_,a1,a2,a3,a4,7,?_,?_⟩
       ·rw[zPH];simp[SV.enc]
       ·rfl
end
end Go.Proofs.YtmkiipeghngchaaGreatDoor
