/- More rules by which a region is run. Conditions: none. -/
import Derived.Test.YtbegpnhghineiaaGreatDoorPur17
import Derived.KernelRfl
set_option linter.all false
namespace Go.Idl
variable[Gc]
variable{P:T'}{G:Nat->Bool}{nat:qj}{qF:zj}{inl:C'->Bool}{nm:Nm}{good:C'->Bool}{rd:Bool}
section
variable{ds:List (Option Tmp)}{o:I'}{l:List I'}{env:List PV}{ph:PHp}{b:DB}{qU:List PV}{i:Nat}{E F:List (Nat×List Nat)}{N:List (Nat×Nat)}{V:List (Nat×PV)}
noncomputable def QR(P:T')(qF:zj)(nm:Nm)(ds:List (Option Tmp))(b:DB)(qU:List PV)(i:Nat)(o:I')(l:List I')(env:List PV)(ph:PHp)(E F:List (Nat×List Nat))(N:List (Nat×Nat))(V:List (Nat×PV)):PE->PT|.ok v a=>w8 (needs o.op) (inP nm (qQ nm o.dst)&&zh (qQ nm o.dst) ph) (j9 P qF nm ds b qU (i+1) l (zd env o.dst v) a (cond (zY o) ((i,wlT nm o env)::E) E) (cond (zY o) F ((i,dlT o env)::F)) (cond (needs o.op) ((i,qQ nm o.dst)::N) N) ((i,v)::V))|_=>.fail
noncomputable def Vi(P qF nm ds b qU i o l env ph E F N V c):=xO c (QR P qF nm ds b qU i o l env ph E F N V (zo P qF (qQ nm o.dst) o env ph)) (j9 P qF nm ds b qU (i+1) l (zd env o.dst (.tup [])) ph E F N ((i,.tup [])::V)) .fail
theorem RE:j9 P qF nm ds b qU i (o::l) env ph E F N V=Vi P qF nm ds b qU i o l env ph E F N V (yj ds o env):=by grind[j9,Vi,QR]
theorem R6:Vi P qF nm ds b qU i o l env ph E F N V (some true)=QR P qF nm ds b qU i o l env ph E F N V (zo P qF (qQ nm o.dst) o env ph):=Eq.trans rfl rfl
theorem SD{v a}:QR P qF nm ds b qU i o l env ph E F N V (.ok v a)=w8 (needs o.op) (inP nm (qQ nm o.dst)&&zh (qQ nm o.dst) ph) (j9 P qF nm ds b qU (i+1) l (zd env o.dst v) a (cond (zY o) ((i,wlT nm o env)::E) E) (cond (zY o) F ((i,dlT o env)::F)) (cond (needs o.op) ((i,qQ nm o.dst)::N) N) ((i,v)::V)):=Eq.trans rfl rfl
end
theorem yK.qAU(s:yK P good nat G qF){id a b i Q g t}(d:y4 G a=true)(j:jV a=true)(f:wW a=true)(c:a.toList.map (·.dst)=g)(k:j9 P qF nm g (dBo a) b 0 a.toList b i [] [] [] []=t)(h:t.holds P G λe p=>Q .normal e p):Runs P G rd nm (.region id a true) b i Q:=s.drw d j f c (k▸h)
theorem AD{c a x y}(h:fzP P c x=some (y,a)):jJ y=true:=by unfold fzP at h;split at h;{split at h;{rename_i d f e;cases h;show((d.map PV.f).all uF)=true;rw[qEy];intro z b;obtain⟨w,_,rfl⟩:=qF5.1 b;rfl};grind};split at h;{cases h;rfl};grind
theorem VRL.slot{Z H M b}{a:Env}(d:VRL P Z H M b a){i v y}(f:a[i]?=some v)(c:VR P Z H M y v):VRL P Z H M (qZ b i y) a:=by rw[za];have:=d.set c i;(have e:a.set i v=a:=by apply qFh;grind);grind
end Go.Idl
