/- slices.Clone hands back a copy. Conditions: none. -/
import Derived.Test.YtpnecffgnjijjaaGreatDoorLB0
set_option linter.all false
set_option maxRecDepth 10000
namespace Go.Proofs.YtpnecffgnjijjaaGreatDoor
open Go Go.Idl Go.Sv Go.Proofs
noncomputable section
abbrev LZ:Ty:=.list 3 (.int .i64)
def qJP (x:List Int):Option (List Int):=(zE9.ite x.isEmpty
 (zE9.bind
   (qIC (zE9.ret [])
     (zE9.ite (x.length.beq 0) (zE9.ret [])
       (zE9.ite ((0+x.length).ble 1048576) (zE9.ret ([]++x)) zE9.fail)))
   fun (x1:List Int)=>zE9.ret x1)
 (zE9.ite (x.length.beq 0) (zE9.ret []) (zE9.ite ((0+x.length).ble 1048576) (zE9.ret ([]++x)) zE9.fail)):zE9 (List Int)).run
theorem LBc:Lib Tryz.prog good (qW 10) [(25,⟨[LZ],[LZ],qJP⟩)] []:=by
 letI:Frs:=zIV
 exact Lib.zLA LB0 25 [] ⟨[],[],[],[],[]⟩ [LZ] [LZ] Tryz.f25 qJP (by kernel_rfl) Tryz.func25 (by kernel_rfl) (by kernel_rfl)
def ANc:Ans:=[(25,(⟨[],[],[],[],[]⟩,[LZ]))]
theorem qZ2:(fun (y:Yl) (T:yY) (R:Type) (K:SV->SH->zE9 R) (x:Int) (xs:List Int)=>@ciN _ zIV y zKE Tryz.prog (qW 10) T [] ANc 1 R nm0 25 [.d LZ (x::xs)] ⟨0,[]⟩ K)=fun y T R K x xs =>
 zE9.ite (Nat.ble (0+(x::xs).length) 1048576) (K (.own 7 1 (0+(x::xs).length)) ⟨2,[(7,.list 3 true 1 1 (.int .i64) ([]++(x::xs))),(5,.list 3 false 0 0 (.int .i64) [])]⟩) .fail:=by kernel_rfl
theorem q66:qJP []=some []:=by
 show (zE9.bind (qIC (some []) (some [])) fun (x1:List Int)=>zE9.ret x1)=some [];rw[qSL];rfl
instance frs8:zFW Tryz.prog (qW 10):=by
 obtain⟨nat,tab,s,ht,hit⟩:=LBc;refine q9C s fun g el hg=>?_
 have hg:cond (Nat.beq g 25) (some 3) none=some el:=hg
 cases hb:Nat.beq g 25 with
 | false=>rw[hb] at hg;cases hg
 | true =>
   rw[hb] at hg;have h1:=zMZ hb;subst h1;cases hg
   letI:Yl:=⟨0⟩
   refine⟨by kernel_rfl,by kernel_rfl,by kernel_rfl,?_,fun xs hx hn=>?_⟩
   ·have:=ht 25 ⟨[LZ],[LZ],qJP⟩ rfl [];simp only[q66] at this;exact this
   ·cases xs with
    | nil=>exact absurd rfl hx
    | cons x xs =>
      have he:=congrFun (congrFun (congrFun (congrFun (congrFun (congrFun qZ2 ⟨0⟩) [(25,⟨[LZ],[LZ],qJP⟩)]) (SV×SH)) fun v h=>.ret (v,h)) x) xs
      have hc:qDE Tryz.prog (qW 10) nm0 25 (qB [.d LZ (x::xs)]) (qD ([]:List (Nat×SO))) fun v p=>∃ v' h',v=v'.enc∧p=qD h'.l∧Post Tryz.prog ⟨0,[]⟩ h' v'∧((fun v h=>.ret (v,h):SV->SH->zE9 (SV×SH)) v' h').run=some (.own 7 1 (0+(x::xs).length),⟨2,[(7,.list 3 true 1 1 (.int .i64) ([]++(x::xs))),(5,.list 3 false 0 0 (.int .i64) [])]⟩):=by
       letI:Frs:=zIV
       refine qKP s ht hit ANc 1 (R:=SV×SH) nm0 25 [.d LZ (x::xs)] ⟨0,[]⟩ _ _ qE9 (by simp[okL,SV.ok]) ?_;refine Eq.trans (congrArg zE9.run he) ?_;rw[show Nat.ble (0+(x::xs).length) 1048576=true by rw[zNY];exact hn];rfl
      rcases hc with ⟨e,_⟩ | ⟨he1,hc⟩
      ·have:qNH Tryz.prog 25=false:=by kernel_rfl
       rw[this] at e;cases e
      ·refine .inr ⟨he1,fun Z H m zFN a b c=>(hc Z H m zFN a b c).mono ?_⟩;rintro r ⟨Z',m',pv,ph',a1,a2,a3,a4,v',h',rfl,rfl,_,q⟩;cases q;refine⟨Z',m',_,_,a1,a2,a3,a4,7,?_,?_⟩
       ·rw[zNY];simp[SV.enc]
       ·rfl
end
end Go.Proofs.YtpnecffgnjijjaaGreatDoor
