/- slices.Clone hands back a copy. Conditions: none. -/
import Derived.Test.YtfcipnpcakejoaaGreatDoorLB0
set_option linter.all false
set_option maxRecDepth 10000
namespace Go.Proofs.YtfcipnpcakejoaaGreatDoor
open Go Go.Idl Go.Sv Go.Proofs
noncomputable section
abbrev LZ:Ty:=.list 3 (.int .i64)
def rB(x):=(qA.ite x.isEmpty (qA.bind (eM (qA.ret []) (qA.ite (x.length.beq 0) (qA.ret []) (qA.ite ((0+x.length).ble 1048576) (qA.ret ([]++x)) qA.fail))) fun(a:List Int)=>qA.ret a) (qA.ite (x.length.beq 0) (qA.ret []) (qA.ite ((0+x.length).ble 1048576) (qA.ret ([]++x)) qA.fail)):qA (List Int)).run
theorem LBc:Lib Tryz.prog good (qV 10) [(76,⟨[LZ],[LZ],rB⟩)] []:=by letI:Frs:=sI;exact Lib.Yp LB0 76 [] ⟨[],[],[],[],[]⟩ [LZ] [LZ] Tryz.f76 rB (by kernel_rfl) Tryz.func76 (by kernel_rfl) (by kernel_rfl)
def ANc:Ans:=[(76,(⟨[],[],[],[],[]⟩,[LZ]))]
theorem T3:(λy T(R)K(x:Int)(a:List Int)=>@ciN _ sI y UJ Tryz.prog (qV 10) T [] ANc 1 R nm0 76 [.d LZ (x::a)] ⟨0,[]⟩ K)=λy T R K x a=>qA.ite (Nat.ble (0+(x::a).length) 1048576) (K (.own 7 1 (0+(x::a).length)) ⟨2,[(7,.list 3 true 1 1 (.int .i64) ([]++(x::a))),(5,.list 3 false 0 0 (.int .i64) [])]⟩) .fail:=by kernel_rfl
theorem Lz:rB []=some []:=by show(qA.bind (eM (some []) (some [])) λa=>qA.ret a)=some [];rw[SN];rfl
instance frs8:xC Tryz.prog (qV 10):=by obtain⟨nat,qF,s,ht,hit⟩:=LBc;refine iP s λg el hg=>?_;have hg:cond (Nat.beq g 76) (some 3) none=some el:=hg;cases hb:Nat.beq g 76 with|false=>rw[hb]at hg;cases hg|true=>rw[hb]at hg;have h1:=qG2 hb;subst h1;cases hg;letI:Yl:=⟨0⟩;refine⟨by kernel_rfl,by kernel_rfl,by kernel_rfl,?_,λxs hx hn=>?_⟩;{have:=ht 76 ⟨[LZ],[LZ],rB⟩ rfl [];simp only[Lz]at this;exact this};cases xs with|nil=>exact absurd rfl hx|cons x xs=>have he:=congrFun (congrFun (congrFun (congrFun (congrFun (congrFun T3 ⟨0⟩) [(76,⟨[LZ],[LZ],rB⟩)]) (SV×SH)) λv h=>.ret (v,h)) x) xs;(have hc:wC Tryz.prog (qV 10) nm0 76 (qB [.d LZ (x::xs)]) (qD ([]:List (Nat×SO))) λv p=>∃v' h',v=v'.enc/\p=qD h'.l/\Post Tryz.prog ⟨0,[]⟩ h' v'/\((λv h=>.ret (v,h):SV->SH->qA (SV×SH)) v' h').run=some (.own 7 1 (0+(x::xs).length),⟨2,[(7,.list 3 true 1 1 (.int .i64) ([]++(x::xs))),(5,.list 3 false 0 0 (.int .i64) [])]⟩):=by letI:Frs:=sI;refine nM s ht hit ANc 1 (R:=SV×SH) nm0 76 [.d LZ (x::xs)] ⟨0,[]⟩ _ _ oS (by simp[qG,SV.ok]) ?_;refine Eq.trans (congrArg qA.run he) ?_;rw[show Nat.ble (0+(x::xs).length) 1048576=true by rw[qH4];exact hn];rfl);rcases hc with⟨e,_⟩|⟨uX,hc⟩;{(have:jP Tryz.prog 76=false:=by kernel_rfl);rw[this]at e;cases e};refine .inr ⟨uX,λZ H m Ya a b c=>(hc Z H m Ya a b c).mono ?_⟩;rintro r⟨Z',m',pv,xE,a1,a2,a3,a4,v',h',rfl,rfl,_,q⟩;cases q;refine⟨Z',m',_,_,a1,a2,a3,a4,7,?_,?_⟩;{rw[qH4];simp[SV.enc]};rfl
end
end Go.Proofs.YtfcipnpcakejoaaGreatDoor
