/- More rules by which a region is run. Conditions: none. -/
import Derived.Test.YtihofndbgpmloaaGreatDoorPur17
import Derived.KernelRfl
set_option linter.all false
namespace Go.Idl
variable[Gc]
variable{P:T'}{G:Nat->Bool}{nat:qf}{qF:zf}{inl:C'->Bool}{nm:Nm}{good:C'->Bool}{rd:Bool}
section
variable{ds:List (Option Tmp)}{o:I'}{l:List I'}{env:List PV}{ph:PHp}{b:DB}{qV:List PV}{i:Nat}{E F:List (Nat×List Nat)}{N:List (Nat×Nat)}{V:List (Nat×PV)}
noncomputable def Qn(P:T')(qF:zf)(nm:Nm)(ds:List (Option Tmp))(b:DB)(qV:List PV)(i:Nat)(o:I')(l:List I')(env:List PV)(ph:PHp)(E F:List (Nat×List Nat))(N:List (Nat×Nat))(V:List (Nat×PV)):PE->PT|.ok v a=>w8 (needs o.op) (inP nm (qQ nm o.dst)&&zi (qQ nm o.dst) ph) (jY P qF nm ds b qV (i+1) l (za env o.dst v) a (cond (zY o) ((i,wlT nm o env)::E) E) (cond (zY o) F ((i,dlT o env)::F)) (cond (needs o.op) ((i,qQ nm o.dst)::N) N) ((i,v)::V))|_=>.fail
noncomputable def Vk(P qF nm ds b qV i o l env ph E F N V c):=xM c (Qn P qF nm ds b qV i o l env ph E F N V (zl P qF (qQ nm o.dst) o env ph)) (jY P qF nm ds b qV (i+1) l (za env o.dst (.tup [])) ph E F N ((i,.tup [])::V)) .fail
theorem SC:jY P qF nm ds b qV i (o::l) env ph E F N V=Vk P qF nm ds b qV i o l env ph E F N V (y7 ds o env):=by grind[jY,Vk,Qn]
theorem S2:Vk P qF nm ds b qV i o l env ph E F N V (some true)=Qn P qF nm ds b qV i o l env ph E F N V (zl P qF (qQ nm o.dst) o env ph):=Eq.trans rfl rfl
theorem Sr{v a}:Qn P qF nm ds b qV i o l env ph E F N V (.ok v a)=w8 (needs o.op) (inP nm (qQ nm o.dst)&&zi (qQ nm o.dst) ph) (jY P qF nm ds b qV (i+1) l (za env o.dst v) a (cond (zY o) ((i,wlT nm o env)::E) E) (cond (zY o) F ((i,dlT o env)::F)) (cond (needs o.op) ((i,qQ nm o.dst)::N) N) ((i,v)::V)):=Eq.trans rfl rfl
end
theorem yN.qBJ(s:yN P good nat G qF){id a b i Q g t}(d:yU G a=true)(j:jS a=true)(f:wS a=true)(c:a.toList.map (·.dst)=g)(k:jY P qF nm g (dBo a) b 0 a.toList b i [] [] [] []=t)(h:t.holds P G λe p=>Q .normal e p):Runs P G rd nm (.region id a true) b i Q:=s.drw d j f c (k▸h)
theorem AM{c a x y}(h:fzP P c x=some (y,a)):jH y=true:=by unfold fzP at h;split at h;{split at h;{rename_i d f e;cases h;show((d.map PV.f).all wj)=true;rw[qGr];intro z b;obtain⟨w,_,rfl⟩:=qHZ.1 b;rfl};grind};split at h;{cases h;rfl};grind
theorem VRL.slot{Z H M b}{a:Env}(d:VRL P Z H M b a){i v y}(f:a[i]?=some v)(c:VR P Z H M y v):VRL P Z H M (qX b i y) a:=by rw[z7];have:=d.set c i;(have e:a.set i v=a:=by apply qHj;grind);grind
end Go.Idl
