/- More rules by which a region is run. Conditions: none. -/
import Derived.Test.YtihofndbgpmloaaGreatDoorPur17
import Derived.KernelRfl
set_option linter.all false
namespace Go.Idl
variable[Gc]
variable{P:T'}{G:Nat->Bool}{nat:qg}{qF:zh}{inl:C'->Bool}{nm:Nm}{good:C'->Bool}{rd:Bool}
section
variable{ds:List (Option Tmp)}{o:I'}{l:List I'}{env:List PV}{ph:PHp}{b:DB}{qV:List PV}{i:Nat}{E F:List (Nat×List Nat)}{N:List (Nat×Nat)}{V:List (Nat×PV)}
noncomputable def Qj(P:T')(qF:zh)(nm:Nm)(ds:List (Option Tmp))(b:DB)(qV:List PV)(i:Nat)(o:I')(l:List I')(env:List PV)(ph:PHp)(E F:List (Nat×List Nat))(N:List (Nat×Nat))(V:List (Nat×PV)):PE->PT|.ok v a=>wT (needs o.op) (inP nm (qQ nm o.dst)&&zg (qQ nm o.dst) ph) (jZ P qF nm ds b qV (i+1) l (z8 env o.dst v) a (cond (zX o) ((i,wlT nm o env)::E) E) (cond (zX o) F ((i,dlT o env)::F)) (cond (needs o.op) ((i,qQ nm o.dst)::N) N) ((i,v)::V))|_=>.fail
noncomputable def Vs(P qF nm ds b qV i o l env ph E F N V c):=xL c (Qj P qF nm ds b qV i o l env ph E F N V (zl P qF (qQ nm o.dst) o env ph)) (jZ P qF nm ds b qV (i+1) l (z8 env o.dst (.tup [])) ph E F N ((i,.tup [])::V)) .fail
theorem S0:jZ P qF nm ds b qV i (o::l) env ph E F N V=Vs P qF nm ds b qV i o l env ph E F N V (yc ds o env):=by grind[jZ,Vs,Qj]
theorem SA:Vs P qF nm ds b qV i o l env ph E F N V (some true)=Qj P qF nm ds b qV i o l env ph E F N V (zl P qF (qQ nm o.dst) o env ph):=Eq.trans rfl rfl
theorem Sl{v a}:Qj P qF nm ds b qV i o l env ph E F N V (.ok v a)=wT (needs o.op) (inP nm (qQ nm o.dst)&&zg (qQ nm o.dst) ph) (jZ P qF nm ds b qV (i+1) l (z8 env o.dst v) a (cond (zX o) ((i,wlT nm o env)::E) E) (cond (zX o) F ((i,dlT o env)::F)) (cond (needs o.op) ((i,qQ nm o.dst)::N) N) ((i,v)::V)):=Eq.trans rfl rfl
end
theorem yO.qBD(s:yO P good nat G qF){id a b i Q g t}(d:yT G a=true)(j:jT a=true)(f:wP a=true)(c:a.toList.map (·.dst)=g)(k:jZ P qF nm g (dBo a) b 0 a.toList b i [] [] [] []=t)(h:t.holds P G λe p=>Q .normal e p):Runs P G rd nm (.region id a true) b i Q:=s.drw d j f c (k▸h)
theorem A7{c a x y}(h:fzP P c x=some (y,a)):jD y=true:=by unfold fzP at h;split at h;{split at h;{rename_i d f e;cases h;show((d.map PV.f).all w8)=true;rw[qGm];intro z b;obtain⟨w,_,rfl⟩:=qHU.1 b;rfl};grind};split at h;{cases h;rfl};grind
theorem VRL.slot{Z H M b}{a:Env}(d:VRL P Z H M b a){i v y}(f:a[i]?=some v)(c:VR P Z H M y v):VRL P Z H M (qY b i y) a:=by rw[z6];have:=d.set c i;(have e:a.set i v=a:=by apply qHd;grind);grind
end Go.Idl
