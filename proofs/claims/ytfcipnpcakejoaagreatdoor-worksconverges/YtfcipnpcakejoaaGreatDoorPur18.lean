/- More rules by which a region is run. Conditions: none. -/
import Derived.Test.YtfcipnpcakejoaaGreatDoorPur17
import Derived.KernelRfl
set_option linter.all false
namespace Go.Idl
variable[Gc]
variable{P:T'}{G:Nat->Bool}{nat:qk}{qF:zl}{inl:C'->Bool}{nm:Nm}{good:C'->Bool}{rd:Bool}
section
variable{ds:List (Option Tmp)}{o:I'}{l:List I'}{env:List PV}{ph:PHp}{b:DB}{qW:List PV}{i:Nat}{E F:List (Nat×List Nat)}{N:List (Nat×Nat)}{V:List (Nat×PV)}
noncomputable def ZU(P:T')(qF:zl)(nm:Nm)(ds:List (Option Tmp))(b:DB)(qW:List PV)(i:Nat)(o:I')(l:List I')(env:List PV)(ph:PHp)(E F:List (Nat×List Nat))(N:List (Nat×Nat))(V:List (Nat×PV)):PE->PT|.ok v a=>uC (needs o.op) (inP nm (qS nm o.dst)&&zj (qS nm o.dst) ph) (jg P qF nm ds b qW (i+1) l (zg env o.dst v) a (cond (z8 o) ((i,wlT nm o env)::E) E) (cond (z8 o) F ((i,dlT o env)::F)) (cond (needs o.op) ((i,qS nm o.dst)::N) N) ((i,v)::V))|_=>.fail
noncomputable def WB(P qF nm ds b qW i o l env ph E F N V c):=xT c (ZU P qF nm ds b qW i o l env ph E F N V (zr P qF (qS nm o.dst) o env ph)) (jg P qF nm ds b qW (i+1) l (zg env o.dst (.tup [])) ph E F N ((i,.tup [])::V)) .fail
theorem T0:jg P qF nm ds b qW i (o::l) env ph E F N V=WB P qF nm ds b qW i o l env ph E F N V (yn ds o env):=by grind[jg,WB,ZU]
theorem TP:WB P qF nm ds b qW i o l env ph E F N V (some true)=ZU P qF nm ds b qW i o l env ph E F N V (zr P qF (qS nm o.dst) o env ph):=Eq.trans rfl rfl
theorem TT{v a}:ZU P qF nm ds b qW i o l env ph E F N V (.ok v a)=uC (needs o.op) (inP nm (qS nm o.dst)&&zj (qS nm o.dst) ph) (jg P qF nm ds b qW (i+1) l (zg env o.dst v) a (cond (z8 o) ((i,wlT nm o env)::E) E) (cond (z8 o) F ((i,dlT o env)::F)) (cond (needs o.op) ((i,qS nm o.dst)::N) N) ((i,v)::V)):=Eq.trans rfl rfl
end
theorem yP.qBp(s:yP P good nat G qF){id a b i Q g t}(d:y9 G a=true)(j:j5 a=true)(f:wg a=true)(c:a.toList.map (·.dst)=g)(k:jg P qF nm g (dBo a) b 0 a.toList b i [] [] [] []=t)(h:t.holds P G λe p=>Q .normal e p):Runs P G rd nm (.region id a true) b i Q:=s.drw d j f c (k▸h)
theorem A5{c a x y}(h:fzP P c x=some (y,a)):jQ y=true:=by unfold fzP at h;split at h;{split at h;{rename_i d f e;cases h;show((d.map PV.f).all uL)=true;rw[qG7];intro z b;obtain⟨w,_,rfl⟩:=qHC.1 b;rfl};grind};split at h;{cases h;rfl};grind
theorem VRL.slot{Z H M b}{a:Env}(d:VRL P Z H M b a){i v y}(f:a[i]?=some v)(c:VR P Z H M y v):VRL P Z H M (qc b i y) a:=by rw[zd];have:=d.set c i;(have e:a.set i v=a:=by apply qHR;grind);grind
end Go.Idl
