/- More rules by which a region is run. Conditions: none. -/
import Derived.Test.YtihofndbgpmloaaGreatDoorPur17
import Derived.KernelRfl
set_option linter.all false
namespace Go.Idl
variable[Gc]
variable{P:T'}{G:Nat->Bool}{nat:qh}{qG:zj}{inl:C'->Bool}{nm:Nm}{good:C'->Bool}{rd:Bool}
section
variable{ds:List (Option Tmp)}{o:I'}{l:List I'}{env:List PV}{ph:PHp}{b:DB}{qX:List PV}{i:Nat}{E F:List (Nat×List Nat)}{N:List (Nat×Nat)}{V:List (Nat×PV)}
noncomputable def YB(P:T')(qG:zj)(nm:Nm)(ds:List (Option Tmp))(b:DB)(qX:List PV)(i:Nat)(o:I')(l:List I')(env:List PV)(ph:PHp)(E F:List (Nat×List Nat))(N:List (Nat×Nat))(V:List (Nat×PV)):PE->PT|.ok v a=>uH (needs o.op) (inP nm (qV nm o.dst)&&zm (qV nm o.dst) ph) (jh P qG nm ds b qX (i+1) l (zg env o.dst v) a (cond (z7 o) ((i,wlT nm o env)::E) E) (cond (z7 o) F ((i,dlT o env)::F)) (cond (needs o.op) ((i,qV nm o.dst)::N) N) ((i,v)::V))|_=>.fail
noncomputable def UF(P qG nm ds b qX i o l env ph E F N V c):=xT c (YB P qG nm ds b qX i o l env ph E F N V (zp P qG (qV nm o.dst) o env ph)) (jh P qG nm ds b qX (i+1) l (zg env o.dst (.tup [])) ph E F N ((i,.tup [])::V)) .fail
theorem lL:jh P qG nm ds b qX i (o::l) env ph E F N V=UF P qG nm ds b qX i o l env ph E F N V (yn ds o env):=by grind[jh,UF,YB]
theorem LC:UF P qG nm ds b qX i o l env ph E F N V (some true)=YB P qG nm ds b qX i o l env ph E F N V (zp P qG (qV nm o.dst) o env ph):=Eq.trans rfl rfl
theorem LW{v a}:YB P qG nm ds b qX i o l env ph E F N V (.ok v a)=uH (needs o.op) (inP nm (qV nm o.dst)&&zm (qV nm o.dst) ph) (jh P qG nm ds b qX (i+1) l (zg env o.dst v) a (cond (z7 o) ((i,wlT nm o env)::E) E) (cond (z7 o) F ((i,dlT o env)::F)) (cond (needs o.op) ((i,qV nm o.dst)::N) N) ((i,v)::V)):=Eq.trans rfl rfl
end
theorem yV.qDq(s:yV P good nat G qG){id a b i Q g t}(d:yZ G a=true)(j:j7 a=true)(f:uA a=true)(c:a.toList.map (·.dst)=g)(k:jh P qG nm g (dBo a) b 0 a.toList b i [] [] [] []=t)(h:t.holds P G λe p=>Q .normal e p):Runs P G rd nm (.region id a true) b i Q:=s.drw d j f c (k▸h)
theorem Cl{c a x y}(h:fzP P c x=some (y,a)):jS y=true:=by unfold fzP at h;split at h;{split at h;{rename_i d f e;cases h;show((d.map PV.f).all uP)=true;rw[qJc];intro z b;obtain⟨w,_,rfl⟩:=qKL.1 b;rfl};grind};split at h;{cases h;rfl};grind
theorem VRL.slot{Z H M b}{a:Env}(d:VRL P Z H M b a){i v y}(f:a[i]?=some v)(c:VR P Z H M y v):VRL P Z H M (qZ b i y) a:=by rw[ze];have:=d.set c i;(have e:a.set i v=a:=by apply qKY;grind);grind
end Go.Idl
