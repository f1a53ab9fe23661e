/- slices.Clone hands back a copy. Conditions: none. -/
import Derived.Test.YtbegpnhghineiaaGreatDoorLB0
set_option linter.all false
set_option maxRecDepth 10000
namespace Go.Proofs.YtbegpnhghineiaaGreatDoor
open Go Go.Idl Go.Sv Go.Proofs
noncomputable section
abbrev LZ:Ty:=.list 3 (.int .i64)
def pK(x):=(qA.ite x.isEmpty (qA.bind (dc (qA.ret []) (qA.ite (x.length.beq 0) (qA.ret []) (qA.ite ((0+x.length).ble 1048576) (qA.ret ([]++x)) qA.fail))) fun(a:List Int)=>qA.ret a) (qA.ite (x.length.beq 0) (qA.ret []) (qA.ite ((0+x.length).ble 1048576) (qA.ret ([]++x)) qA.fail)):qA (List Int)).run
theorem LBc:Lib Tryz.prog good (qT 10) [(58,⟨[LZ],[LZ],pK⟩)] []:=by letI:Frs:=rT;exact Lib.YM LB0 58 [] ⟨[],[],[],[],[]⟩ [LZ] [LZ] Tryz.f58 pK (by kernel_rfl) Tryz.func58 (by kernel_rfl) (by kernel_rfl)
def ANc:Ans:=[(58,(⟨[],[],[],[],[]⟩,[LZ]))]
theorem TT:(λy T(R)K(x:Int)(a:List Int)=>@ciN _ rT y WZ Tryz.prog (qT 10) T [] ANc 1 R nm0 58 [.d LZ (x::a)] ⟨0,[]⟩ K)=λy T R K x a=>qA.ite (Nat.ble (0+(x::a).length) 1048576) (K (.own 7 1 (0+(x::a).length)) ⟨2,[(7,.list 3 true 1 1 (.int .i64) ([]++(x::a))),(5,.list 3 false 0 0 (.int .i64) [])]⟩) .fail:=by kernel_rfl
theorem LS:pK []=some []:=by show(qA.bind (dc (some []) (some [])) λa=>qA.ret a)=some [];rw[P0];rfl
instance frs8:yw Tryz.prog (qT 10):=by obtain⟨nat,qF,s,ht,hit⟩:=LBc;refine I3 s λg el hg=>?_;have hg:cond (Nat.beq g 58) (some 3) none=some el:=hg;cases hb:Nat.beq g 58 with|false=>rw[hb]at hg;cases hg|true=>rw[hb]at hg;have h1:=qEu hb;subst h1;cases hg;letI:Yl:=⟨0⟩;refine⟨by kernel_rfl,by kernel_rfl,by kernel_rfl,?_,λxs hx hn=>?_⟩;{have:=ht 58 ⟨[LZ],[LZ],pK⟩ rfl [];simp only[LS]at this;exact this};cases xs with|nil=>exact absurd rfl hx|cons x xs=>have he:=congrFun (congrFun (congrFun (congrFun (congrFun (congrFun TT ⟨0⟩) [(58,⟨[LZ],[LZ],pK⟩)]) (SV×SH)) λv h=>.ret (v,h)) x) xs;(have hc:vt Tryz.prog (qT 10) nm0 58 (qB [.d LZ (x::xs)]) (qC ([]:List (Nat×SO))) λv p=>∃v' h',v=v'.enc/\p=qC h'.l/\Post Tryz.prog ⟨0,[]⟩ h' v'/\((λv h=>.ret (v,h):SV->SH->qA (SV×SH)) v' h').run=some (.own 7 1 (0+(x::xs).length),⟨2,[(7,.list 3 true 1 1 (.int .i64) ([]++(x::xs))),(5,.list 3 false 0 0 (.int .i64) [])]⟩):=by letI:Frs:=rT;refine mU s ht hit ANc 1 (R:=SV×SH) nm0 58 [.d LZ (x::xs)] ⟨0,[]⟩ _ _ nd (by simp[qG,SV.ok]) ?_;refine Eq.trans (congrArg qA.run he) ?_;rw[show Nat.ble (0+(x::xs).length) 1048576=true by rw[qFw];exact hn];rfl);rcases hc with⟨e,_⟩|⟨uM,hc⟩;{(have:jL Tryz.prog 58=false:=by kernel_rfl);rw[this]at e;cases e};refine .inr ⟨uM,λZ H m Zy a b c=>(hc Z H m Zy a b c).mono ?_⟩;rintro r⟨Z',m',pv,yz,a1,a2,a3,a4,v',h',rfl,rfl,_,q⟩;cases q;refine⟨Z',m',_,_,a1,a2,a3,a4,7,?_,?_⟩;{rw[qFw];simp[SV.enc]};rfl
end
end Go.Proofs.YtbegpnhghineiaaGreatDoor
