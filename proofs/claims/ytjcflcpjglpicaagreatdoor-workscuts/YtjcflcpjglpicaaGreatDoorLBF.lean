/- slices.Clone hands back a copy. Conditions: none. -/
import Derived.Test.YtjcflcpjglpicaaGreatDoorLB0
set_option linter.all false
set_option maxRecDepth 10000
namespace Go.Proofs.YtjcflcpjglpicaaGreatDoor
open Go Go.Idl Go.Sv Go.Proofs
noncomputable section
abbrev LZ:Ty:=.list 3 (.int .i64)
def qK5 (x:List Int):Option (List Int):=(zF6.ite x.isEmpty
 (zF6.bind
   (qMY (zF6.ret [])
     (zF6.ite (x.length.beq 0) (zF6.ret [])
       (zF6.ite ((0+x.length).ble 1048576) (zF6.ret ([]++x)) zF6.fail)))
   fun (x1:List Int)=>zF6.ret x1)
 (zF6.ite (x.length.beq 0) (zF6.ret []) (zF6.ite ((0+x.length).ble 1048576) (zF6.ret ([]++x)) zF6.fail)):zF6 (List Int)).run
theorem LBc:Lib Tryz.prog good (qH 10) [(49,⟨[LZ],[LZ],qK5⟩)] []:=by
 letI:Frs:=zJX
 exact Lib.zKT LB0 49 [] ⟨[],[],[],[],[]⟩ [LZ] [LZ] Tryz.f49 qK5 (by kernel_rfl) Tryz.func49 (by kernel_rfl) (by kernel_rfl)
def ANc:Ans:=[(49,(⟨[],[],[],[],[]⟩,[LZ]))]
theorem q0C:(fun (y:Yl) (T:zT) (R:Type) (K:SV->SH->zF6 R) (x:Int) (xs:List Int)=>@ciN _ zJX y zLQ Tryz.prog (qH 10) T [] ANc 1 R nm0 49 [.d LZ (x::xs)] ⟨0,[]⟩ K)=fun y T R K x xs =>
 zF6.ite (Nat.ble (0+(x::xs).length) 1048576) (K (.own 7 1 (0+(x::xs).length)) ⟨2,[(7,.list 3 true 1 1 (.int .i64) ([]++(x::xs))),(5,.list 3 false 0 0 (.int .i64) [])]⟩) .fail:=by kernel_rfl
theorem q7U:qK5 []=some []:=by
 show (zF6.bind (qMY (some []) (some [])) fun (x1:List Int)=>zF6.ret x1)=some [];rw[qS3];rfl
instance frs8:zGT Tryz.prog (qH 10):=by
 obtain⟨nat,tab,s,ht,hit⟩:=LBc;refine zBC s fun g el hg=>?_
 have hg:cond (Nat.beq g 49) (some 3) none=some el:=hg
 cases hb:Nat.beq g 49 with
 | false=>rw[hb] at hg;cases hg
 | true =>
   rw[hb] at hg;have h1:=zPL hb;subst h1;cases hg
   letI:Yl:=⟨0⟩
   refine⟨by kernel_rfl,by kernel_rfl,by kernel_rfl,?_,fun xs hx hn=>?_⟩
   ·have:=ht 49 ⟨[LZ],[LZ],qK5⟩ rfl [];simp only[q7U] at this;exact this
   ·cases xs with
    | nil=>exact absurd rfl hx
    | cons x xs =>
      have he:=congrFun (congrFun (congrFun (congrFun (congrFun (congrFun q0C ⟨0⟩) [(49,⟨[LZ],[LZ],qK5⟩)]) (SV×SH)) fun v h=>.ret (v,h)) x) xs
      have hc:qD0 Tryz.prog (qH 10) nm0 49 (qB [.d LZ (x::xs)]) (qC ([]:List (Nat×SO))) fun v p=>∃ v' h',v=v'.enc∧p=qC h'.l∧Post Tryz.prog ⟨0,[]⟩ h' v'∧((fun v h=>.ret (v,h):SV->SH->zF6 (SV×SH)) v' h').run=some (.own 7 1 (0+(x::xs).length),⟨2,[(7,.list 3 true 1 1 (.int .i64) ([]++(x::xs))),(5,.list 3 false 0 0 (.int .i64) [])]⟩):=by
       letI:Frs:=zJX
       refine qFO s ht hit ANc 1 (R:=SV×SH) nm0 49 [.d LZ (x::xs)] ⟨0,[]⟩ _ _ tC (by simp[okL,SV.ok]) ?_;refine Eq.trans (congrArg zF6.run he) ?_;rw[show Nat.ble (0+(x::xs).length) 1048576=true by rw[zP4];exact hn];rfl
      rcases hc with ⟨e,_⟩ | ⟨he1,hc⟩
      ·have:qMK Tryz.prog 49=false:=by kernel_rfl
       rw[this] at e;cases e
      ·refine .inr ⟨he1,fun Z H m zGK a b c=>(hc Z H m zGK a b c).mono ?_⟩;rintro r ⟨Z',m',pv,ph',a1,a2,a3,a4,v',h',rfl,rfl,_,q⟩;cases q;refine⟨Z',m',_,_,a1,a2,a3,a4,7,?_,?_⟩
       ·rw[zP4];simp[SV.enc]
       ·rfl
end
end Go.Proofs.YtjcflcpjglpicaaGreatDoor
