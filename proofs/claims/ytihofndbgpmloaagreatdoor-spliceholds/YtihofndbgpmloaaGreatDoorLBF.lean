/- slices.Clone hands back a copy. Conditions: none. -/
import Derived.Test.YtihofndbgpmloaaGreatDoorLB0
set_option linter.all false
set_option maxRecDepth 10000
namespace Go.Proofs.YtihofndbgpmloaaGreatDoor
open Go Go.Idl Go.Sv Go.Proofs
noncomputable section
abbrev LZ:Ty:=.list 3 (.int .i64)
def rn(x):=(qA.ite x.isEmpty (qA.bind (c8 (qA.ret []) (qA.ite (x.length.beq 0) (qA.ret []) (qA.ite ((0+x.length).ble 1048576) (qA.ret ([]++x)) qA.fail))) fun(a:List Int)=>qA.ret a) (qA.ite (x.length.beq 0) (qA.ret []) (qA.ite ((0+x.length).ble 1048576) (qA.ret ([]++x)) qA.fail)):qA (List Int)).run
theorem LBc:Lib Tryz.prog good (qn 10) [(207,⟨[LZ],[LZ],rn⟩)] []:=by letI:Frs:=tF;exact Lib.qE7 LB0 207 [] ⟨[],[],[],[],[]⟩ [LZ] [LZ] Tryz.f207 rn (by kernel_rfl) Tryz.func207 (by kernel_rfl) (by kernel_rfl)
def ANc:Ans:=[(207,(⟨[],[],[],[],[]⟩,[LZ]))]
theorem Lo:(λy T(R)K(x:Int)(a:List Int)=>@ciN _ tF y HG Tryz.prog (qn 10) T [] ANc 1 R nm0 207 [.d LZ (x::a)] ⟨0,[]⟩ K)=λy T R K x a=>qA.ite (Nat.ble (0+(x::a).length) 1048576) (K (.own 7 1 (0+(x::a).length)) ⟨2,[(7,.list 3 true 1 1 (.int .i64) ([]++(x::a))),(5,.list 3 false 0 0 (.int .i64) [])]⟩) .fail:=by kernel_rfl
theorem qBC:rn []=some []:=by show(qA.bind (c8 (some []) (some [])) λa=>qA.ret a)=some [];rw[To];rfl
instance frs8:xZ Tryz.prog (qn 10):=by obtain⟨nat,qG,s,ht,hit⟩:=LBc;refine qBW s λg el hg=>?_;have hg:cond (Nat.beq g 207) (some 3) none=some el:=hg;cases hb:Nat.beq g 207 with|false=>rw[hb]at hg;cases hg|true=>rw[hb]at hg;have h1:=qJ9 hb;subst h1;cases hg;letI:Yl:=⟨0⟩;refine⟨by kernel_rfl,by kernel_rfl,by kernel_rfl,?_,λxs hx hn=>?_⟩;{have:=ht 207 ⟨[LZ],[LZ],rn⟩ rfl [];simp only[qBC]at this;exact this};cases xs with|nil=>exact absurd rfl hx|cons x xs=>have he:=congrFun (congrFun (congrFun (congrFun (congrFun (congrFun Lo ⟨0⟩) [(207,⟨[LZ],[LZ],rn⟩)]) (SV×SH)) λv h=>.ret (v,h)) x) xs;(have hc:wL Tryz.prog (qn 10) nm0 207 (qC [.d LZ (x::xs)]) (qD ([]:List (Nat×SO))) λv p=>∃v' h',v=v'.enc/\p=qD h'.l/\Post Tryz.prog ⟨0,[]⟩ h' v'/\((λv h=>.ret (v,h):SV->SH->qA (SV×SH)) v' h').run=some (.own 7 1 (0+(x::xs).length),⟨2,[(7,.list 3 true 1 1 (.int .i64) ([]++(x::xs))),(5,.list 3 false 0 0 (.int .i64) [])]⟩):=by letI:Frs:=tF;refine rk s ht hit ANc 1 (R:=SV×SH) nm0 207 [.d LZ (x::xs)] ⟨0,[]⟩ _ _ tH (by simp[qH,SV.ok]) ?_;refine Eq.trans (congrArg qA.run he) ?_;rw[show Nat.ble (0+(x::xs).length) 1048576=true by rw[qKb];exact hn];rfl);rcases hc with⟨e,_⟩|⟨u7,hc⟩;{(have:jQ Tryz.prog 207=false:=by kernel_rfl);rw[this]at e;cases e};refine .inr ⟨u7,λZ H m XU a b c=>(hc Z H m XU a b c).mono ?_⟩;rintro r⟨Z',m',pv,xE,a1,a2,a3,a4,v',h',rfl,rfl,_,q⟩;cases q;refine⟨Z',m',_,_,a1,a2,a3,a4,7,?_,?_⟩;{rw[qKb];simp[SV.enc]};rfl
end
end Go.Proofs.YtihofndbgpmloaaGreatDoor
