/- slices.Clone hands back a copy. Conditions: none. -/
import Derived.Test.YtkmfigmiehpcpaaGreatDoorLB0
set_option linter.all false
set_option maxRecDepth 10000
namespace Go.Proofs.YtkmfigmiehpcpaaGreatDoor
open Go Go.Idl Go.Sv Go.Proofs
noncomputable section
abbrev LZ:Ty:=.list 3 (.int .i64)
def qKA (x:List Int):Option (List Int):=(zED.ite x.isEmpty
 (zED.bind
   (qH6 (zED.ret [])
     (zED.ite (x.length.beq 0) (zED.ret [])
       (zED.ite ((0+x.length).ble 1048576) (zED.ret ([]++x)) zED.fail)))
   fun (x1:List Int)=>zED.ret x1)
 (zED.ite (x.length.beq 0) (zED.ret []) (zED.ite ((0+x.length).ble 1048576) (zED.ret ([]++x)) zED.fail)):zED (List Int)).run
theorem LBc:Lib Tryz.prog good (qJ 10) [(48,⟨[LZ],[LZ],qKA⟩)] []:=by
 letI:Frs:=zHZ
 exact Lib.zIW LB0 48 [] ⟨[],[],[],[],[]⟩ [LZ] [LZ] Tryz.f48 qKA (by kernel_rfl) Tryz.func48 (by kernel_rfl) (by kernel_rfl)
def ANc:Ans:=[(48,(⟨[],[],[],[],[]⟩,[LZ]))]
theorem qZY:(fun (y:Yl) (T:z8) (R:Type) (K:SV->SH->zED R) (x:Int) (xs:List Int)=>@ciN _ zHZ y zJS Tryz.prog (qJ 10) T [] ANc 1 R nm0 48 [.d LZ (x::xs)] ⟨0,[]⟩ K)=fun y T R K x xs =>
 zED.ite (Nat.ble (0+(x::xs).length) 1048576) (K (.own 7 1 (0+(x::xs).length)) ⟨2,[(7,.list 3 true 1 1 (.int .i64) ([]++(x::xs))),(5,.list 3 false 0 0 (.int .i64) [])]⟩) .fail:=by kernel_rfl
theorem q53:qKA []=some []:=by
 show (zED.bind (qH6 (some []) (some [])) fun (x1:List Int)=>zED.ret x1)=some [];rw[qRW];rfl
instance frs8:zEZ Tryz.prog (qJ 10):=by
 obtain⟨nat,tab,s,ht,hit⟩:=LBc;refine q8R s fun g el hg=>?_
 have hg:cond (Nat.beq g 48) (some 3) none=some el:=hg
 cases hb:Nat.beq g 48 with
 | false=>rw[hb] at hg;cases hg
 | true =>
   rw[hb] at hg;have h1:=zNU hb;subst h1;cases hg
   letI:Yl:=⟨0⟩
   refine⟨by kernel_rfl,by kernel_rfl,by kernel_rfl,?_,fun xs hx hn=>?_⟩
   ·have:=ht 48 ⟨[LZ],[LZ],qKA⟩ rfl [];simp only[q53] at this;exact this
   ·cases xs with
    | nil=>exact absurd rfl hx
    | cons x xs =>
      have he:=congrFun (congrFun (congrFun (congrFun (congrFun (congrFun qZY ⟨0⟩) [(48,⟨[LZ],[LZ],qKA⟩)]) (SV×SH)) fun v h=>.ret (v,h)) x) xs
      have hc:qCX Tryz.prog (qJ 10) nm0 48 (qC [.d LZ (x::xs)]) (qD ([]:List (Nat×SO))) fun v p=>∃ v' h',v=v'.enc∧p=qD h'.l∧Post Tryz.prog ⟨0,[]⟩ h' v'∧((fun v h=>.ret (v,h):SV->SH->zED (SV×SH)) v' h').run=some (.own 7 1 (0+(x::xs).length),⟨2,[(7,.list 3 true 1 1 (.int .i64) ([]++(x::xs))),(5,.list 3 false 0 0 (.int .i64) [])]⟩):=by
       letI:Frs:=zHZ
       refine qDJ s ht hit ANc 1 (R:=SV×SH) nm0 48 [.d LZ (x::xs)] ⟨0,[]⟩ _ _ rR (by simp[okL,SV.ok]) ?_;refine Eq.trans (congrArg zED.run he) ?_;rw[show Nat.ble (0+(x::xs).length) 1048576=true by rw[zOR];exact hn];rfl
      rcases hc with ⟨e,_⟩ | ⟨he1,hc⟩
      ·have:qMR Tryz.prog 48=false:=by kernel_rfl
       rw[this] at e;cases e
      ·refine .inr ⟨he1,fun Z H m zER a b c=>(hc Z H m zER a b c).mono ?_⟩;rintro r ⟨Z',m',pv,ph',a1,a2,a3,a4,v',h',rfl,rfl,_,q⟩;cases q;refine⟨Z',m',_,_,a1,a2,a3,a4,7,?_,?_⟩
       ·rw[zOR];simp[SV.enc]
       ·rfl
end
end Go.Proofs.YtkmfigmiehpcpaaGreatDoor
