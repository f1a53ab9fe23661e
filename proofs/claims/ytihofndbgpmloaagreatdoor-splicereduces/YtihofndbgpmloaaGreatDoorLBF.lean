/- slices.Clone hands back a copy. Conditions: none. -/
import Derived.Test.YtihofndbgpmloaaGreatDoorLB0
set_option linter.all false
set_option maxRecDepth 10000
namespace Go.Proofs.YtihofndbgpmloaaGreatDoor
open Go Go.Idl Go.Sv Go.Proofs
noncomputable section
abbrev LZ:Ty:=.list 3 (.int .i64)
def p0(x):=(qA.ite x.isEmpty (qA.bind (bp (qA.ret []) (qA.ite (x.length.beq 0) (qA.ret []) (qA.ite ((0+x.length).ble 1048576) (qA.ret ([]++x)) qA.fail))) fun(a:List Int)=>qA.ret a) (qA.ite (x.length.beq 0) (qA.ret []) (qA.ite ((0+x.length).ble 1048576) (qA.ret ([]++x)) qA.fail)):qA (List Int)).run
theorem LBc:Lib Tryz.prog good (qo 10) [(207,⟨[LZ],[LZ],p0⟩)] []:=by letI:Frs:=r9;exact Lib.qBr LB0 207 [] ⟨[],[],[],[],[]⟩ [LZ] [LZ] Tryz.f207 p0 (by kernel_rfl) Tryz.func207 (by kernel_rfl) (by kernel_rfl)
def ANc:Ans:=[(207,(⟨[],[],[],[],[]⟩,[LZ]))]
theorem lF:(λy T(R)K(x:Int)(a:List Int)=>@ciN _ r9 y W9 Tryz.prog (qo 10) T [] ANc 1 R nm0 207 [.d LZ (x::a)] ⟨0,[]⟩ K)=λy T R K x a=>qA.ite (Nat.ble (0+(x::a).length) 1048576) (K (.own 7 1 (0+(x::a).length)) ⟨2,[(7,.list 3 true 1 1 (.int .i64) ([]++(x::a))),(5,.list 3 false 0 0 (.int .i64) [])]⟩) .fail:=by kernel_rfl
theorem L3:p0 []=some []:=by show(qA.bind (bp (some []) (some [])) λa=>qA.ret a)=some [];rw[R3];rfl
instance frs8:xR Tryz.prog (qo 10):=by obtain⟨nat,qF,s,ht,hit⟩:=LBc;refine Ik s λg el hg=>?_;have hg:cond (Nat.beq g 207) (some 3) none=some el:=hg;cases hb:Nat.beq g 207 with|false=>rw[hb]at hg;cases hg|true=>rw[hb]at hg;have h1:=qGo hb;subst h1;cases hg;letI:Yl:=⟨0⟩;refine⟨by kernel_rfl,by kernel_rfl,by kernel_rfl,?_,λxs hx hn=>?_⟩;{have:=ht 207 ⟨[LZ],[LZ],p0⟩ rfl [];simp only[L3]at this;exact this};cases xs with|nil=>exact absurd rfl hx|cons x xs=>have he:=congrFun (congrFun (congrFun (congrFun (congrFun (congrFun lF ⟨0⟩) [(207,⟨[LZ],[LZ],p0⟩)]) (SV×SH)) λv h=>.ret (v,h)) x) xs;(have hc:vt Tryz.prog (qo 10) nm0 207 (qB [.d LZ (x::xs)]) (qD ([]:List (Nat×SO))) λv p=>∃v' h',v=v'.enc/\p=qD h'.l/\Post Tryz.prog ⟨0,[]⟩ h' v'/\((λv h=>.ret (v,h):SV->SH->qA (SV×SH)) v' h').run=some (.own 7 1 (0+(x::xs).length),⟨2,[(7,.list 3 true 1 1 (.int .i64) ([]++(x::xs))),(5,.list 3 false 0 0 (.int .i64) [])]⟩):=by letI:Frs:=r9;refine pS s ht hit ANc 1 (R:=SV×SH) nm0 207 [.d LZ (x::xs)] ⟨0,[]⟩ _ _ rb (by simp[qG,SV.ok]) ?_;refine Eq.trans (congrArg qA.run he) ?_;rw[show Nat.ble (0+(x::xs).length) 1048576=true by rw[qHo];exact hn];rfl);rcases hc with⟨e,_⟩|⟨uE,hc⟩;{(have:jF Tryz.prog 207=false:=by kernel_rfl);rw[this]at e;cases e};refine .inr ⟨uE,λZ H m Zy a b c=>(hc Z H m Zy a b c).mono ?_⟩;rintro r⟨Z',m',pv,yu,a1,a2,a3,a4,v',h',rfl,rfl,_,q⟩;cases q;refine⟨Z',m',_,_,a1,a2,a3,a4,7,?_,?_⟩;{rw[qHo];simp[SV.enc]};rfl
end
end Go.Proofs.YtihofndbgpmloaaGreatDoor
