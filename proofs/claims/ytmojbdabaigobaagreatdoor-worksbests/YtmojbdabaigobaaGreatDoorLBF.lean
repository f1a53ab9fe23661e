/- slices.Clone hands back a copy. Conditions: none. -/
import Derived.Test.YtmojbdabaigobaaGreatDoorLB0
set_option linter.all false
set_option maxRecDepth 10000
namespace Go.Proofs.YtmojbdabaigobaaGreatDoor
open Go Go.Idl Go.Sv Go.Proofs
noncomputable section
abbrev LZ:Ty:=.list 3 (.int .i64)
def qK8 (x:List Int):Option (List Int):=(zEY.ite x.isEmpty
 (zEY.bind
   (qKT (zEY.ret [])
     (zEY.ite (x.length.beq 0) (zEY.ret [])
       (zEY.ite ((0+x.length).ble 1048576) (zEY.ret ([]++x)) zEY.fail)))
   fun (x1:List Int)=>zEY.ret x1)
 (zEY.ite (x.length.beq 0) (zEY.ret []) (zEY.ite ((0+x.length).ble 1048576) (zEY.ret ([]++x)) zEY.fail)):zEY (List Int)).run
theorem LBc:Lib Tryz.prog good (qJ 10) [(39,⟨[LZ],[LZ],qK8⟩)] []:=by
 letI:Frs:=zIK
 exact Lib.zJH LB0 39 [] ⟨[],[],[],[],[]⟩ [LZ] [LZ] Tryz.f39 qK8 (by kernel_rfl) Tryz.func39 (by kernel_rfl) (by kernel_rfl)
def ANc:Ans:=[(39,(⟨[],[],[],[],[]⟩,[LZ]))]
theorem q1D:(fun (y:Yl) (T:yE) (R:Type) (K:SV->SH->zEY R) (x:Int) (xs:List Int)=>@ciN _ zIK y zKD Tryz.prog (qJ 10) T [] ANc 1 R nm0 39 [.d LZ (x::xs)] ⟨0,[]⟩ K)=fun y T R K x xs =>
 zEY.ite (Nat.ble (0+(x::xs).length) 1048576) (K (.own 7 1 (0+(x::xs).length)) ⟨2,[(7,.list 3 true 1 1 (.int .i64) ([]++(x::xs))),(5,.list 3 false 0 0 (.int .i64) [])]⟩) .fail:=by kernel_rfl
theorem q6O:qK8 []=some []:=by
 show (zEY.bind (qKT (some []) (some [])) fun (x1:List Int)=>zEY.ret x1)=some [];rw[qSX];rfl
instance frs8:zFJ Tryz.prog (qJ 10):=by
 obtain⟨nat,tab,s,ht,hit⟩:=LBc;refine zBC s fun g el hg=>?_
 have hg:cond (Nat.beq g 39) (some 3) none=some el:=hg
 cases hb:Nat.beq g 39 with
 | false=>rw[hb] at hg;cases hg
 | true =>
   rw[hb] at hg;have h1:=zOH hb;subst h1;cases hg
   letI:Yl:=⟨0⟩
   refine⟨by kernel_rfl,by kernel_rfl,by kernel_rfl,?_,fun xs hx hn=>?_⟩
   ·have:=ht 39 ⟨[LZ],[LZ],qK8⟩ rfl [];simp only[q6O] at this;exact this
   ·cases xs with
    | nil=>exact absurd rfl hx
    | cons x xs =>
      have he:=congrFun (congrFun (congrFun (congrFun (congrFun (congrFun q1D ⟨0⟩) [(39,⟨[LZ],[LZ],qK8⟩)]) (SV×SH)) fun v h=>.ret (v,h)) x) xs
      have hc:qDE Tryz.prog (qJ 10) nm0 39 (qB [.d LZ (x::xs)]) (qD ([]:List (Nat×SO))) fun v p=>∃ v' h',v=v'.enc∧p=qD h'.l∧Post Tryz.prog ⟨0,[]⟩ h' v'∧((fun v h=>.ret (v,h):SV->SH->zEY (SV×SH)) v' h').run=some (.own 7 1 (0+(x::xs).length),⟨2,[(7,.list 3 true 1 1 (.int .i64) ([]++(x::xs))),(5,.list 3 false 0 0 (.int .i64) [])]⟩):=by
       letI:Frs:=zIK
       refine qD8 s ht hit ANc 1 (R:=SV×SH) nm0 39 [.d LZ (x::xs)] ⟨0,[]⟩ _ _ rO (by simp[okL,SV.ok]) ?_;refine Eq.trans (congrArg zEY.run he) ?_;rw[show Nat.ble (0+(x::xs).length) 1048576=true by rw[zPF];exact hn];rfl
      rcases hc with ⟨e,_⟩ | ⟨he1,hc⟩
      ·have:qNX Tryz.prog 39=false:=by kernel_rfl
       rw[this] at e;cases e
      ·refine .inr ⟨he1,fun Z H m zFC a b c=>(hc Z H m zFC a b c).mono ?_⟩;rintro r ⟨Z',m',pv,ph',a1,a2,a3,a4,v',h',rfl,rfl,_,q⟩;cases q;refine⟨Z',m',_,_,a1,a2,a3,a4,7,?_,?_⟩
       ·rw[zPF];simp[SV.enc]
       ·rfl
end
end Go.Proofs.YtmojbdabaigobaaGreatDoor
