/- More rules by which a region is run. Conditions: none. -/
import Derived.Test.YtihofndbgpmloaaGreatDoorPur17
import Derived.KernelRfl
set_option linter.all false
namespace Go.Idl
variable[Gc]
variable{P:T'}{G:Nat->Bool}{nat:qi}{qF:zi}{inl:C'->Bool}{nm:Nm}{good:C'->Bool}{rd:Bool}
section
variable{ds:List (Option Tmp)}{o:I'}{l:List I'}{env:List PV}{ph:PHp}{b:DB}{qV:List PV}{i:Nat}{E F:List (Nat×List Nat)}{N:List (Nat×Nat)}{V:List (Nat×PV)}
noncomputable def Z_(P:T')(qF:zi)(nm:Nm)(ds:List (Option Tmp))(b:DB)(qV:List PV)(i:Nat)(o:I')(l:List I')(env:List PV)(ph:PHp)(E F:List (Nat×List Nat))(N:List (Nat×Nat))(V:List (Nat×PV)):PE->PT|.ok v a=>uI (needs o.op) (inP nm (qT nm o.dst)&&zg (qT nm o.dst) ph) (jl P qF nm ds b qV (i+1) l (zd env o.dst v) a (cond (z6 o) ((i,wlT nm o env)::E) E) (cond (z6 o) F ((i,dlT o env)::F)) (cond (needs o.op) ((i,qT nm o.dst)::N) N) ((i,v)::V))|_=>.fail
noncomputable def UB(P qF nm ds b qV i o l env ph E F N V c):=xS c (Z_ P qF nm ds b qV i o l env ph E F N V (zm P qF (qT nm o.dst) o env ph)) (jl P qF nm ds b qV (i+1) l (zd env o.dst (.tup [])) ph E F N ((i,.tup [])::V)) .fail
theorem lL:jl P qF nm ds b qV i (o::l) env ph E F N V=UB P qF nm ds b qV i o l env ph E F N V (yj ds o env):=by grind[jl,UB,Z_]
theorem lx:UB P qF nm ds b qV i o l env ph E F N V (some true)=Z_ P qF nm ds b qV i o l env ph E F N V (zm P qF (qT nm o.dst) o env ph):=Eq.trans rfl rfl
theorem LD{v a}:Z_ P qF nm ds b qV i o l env ph E F N V (.ok v a)=uI (needs o.op) (inP nm (qT nm o.dst)&&zg (qT nm o.dst) ph) (jl P qF nm ds b qV (i+1) l (zd env o.dst v) a (cond (z6 o) ((i,wlT nm o env)::E) E) (cond (z6 o) F ((i,dlT o env)::F)) (cond (needs o.op) ((i,qT nm o.dst)::N) N) ((i,v)::V)):=Eq.trans rfl rfl
end
theorem yR.qDO(s:yR P good nat G qF){id a b i Q g t}(d:yX G a=true)(j:jb a=true)(f:uA a=true)(c:a.toList.map (·.dst)=g)(k:jl P qF nm g (dBo a) b 0 a.toList b i [] [] [] []=t)(h:t.holds P G λe p=>Q .normal e p):Runs P G rd nm (.region id a true) b i Q:=s.drw d j f c (k▸h)
theorem C5{c a x y}(h:fzP P c x=some (y,a)):jW y=true:=by unfold fzP at h;split at h;{split at h;{rename_i d f e;cases h;show((d.map PV.f).all uN)=true;rw[qJK];intro z b;obtain⟨w,_,rfl⟩:=qJg.1 b;rfl};grind};split at h;{cases h;rfl};grind
theorem VRL.slot{Z H M b}{a:Env}(d:VRL P Z H M b a){i v y}(f:a[i]?=some v)(c:VR P Z H M y v):VRL P Z H M (qY b i y) a:=by rw[za];have:=d.set c i;(have e:a.set i v=a:=by apply qJ_;grind);grind
end Go.Idl
