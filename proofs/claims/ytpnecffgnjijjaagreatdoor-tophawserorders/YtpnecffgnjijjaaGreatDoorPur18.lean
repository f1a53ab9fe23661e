/- More rules by which a region is run. Conditions: none. -/
import Derived.Test.YtpnecffgnjijjaaGreatDoorPur17
import Derived.KernelRfl
set_option linter.all false
namespace Go.Idl
variable [Gc]
variable {P:Program}{G:Nat->Bool}{nat:xA}{tab:uQ}{inl:FuncId->Bool}{nm:Nm}{good:FuncId->Bool}{rd:Bool}
section
variable {ds:List (Option Tmp)}{o:Oper}{l:List Oper}{env:List PV}{ph:PHp}{b:DB}{zFE:List PV}{i:Nat}{E F:List (Nat×List Nat)}{N:List (Nat×Nat)}{V:List (Nat×PV)}
noncomputable def qOZ (P:Program)(tab:uQ)(nm:Nm)(ds:List (Option Tmp))(b:DB)(zFE:List PV)(i:Nat)(o:Oper)(l:List Oper)(env:List PV)(ph:PHp)(E F:List (Nat×List Nat))(N:List (Nat×Nat))(V:List (Nat×PV)):PE->PT
 | .ok v ph'=>qBL (needs o.op) (inP nm (qH nm o.dst)&&gZ (qH nm o.dst) ph) (qK1 P tab nm ds b zFE (i+1) l (yL env o.dst v) ph' (cond (qY o) ((i,wlT nm o env)::E) E) (cond (qY o) F ((i,dlT o env)::F)) (cond (needs o.op) ((i,qH nm o.dst)::N) N) ((i,v)::V))
 | _=>.fail
noncomputable def zCF (P:Program)(tab:uQ)(nm:Nm)(ds:List (Option Tmp))(b:DB)(zFE:List PV)(i:Nat)(o:Oper)(l:List Oper)(env:List PV)(ph:PHp)(E F:List (Nat×List Nat))(N:List (Nat×Nat))(V:List (Nat×PV))(c:Option Bool):PT :=
 vB c (qOZ P tab nm ds b zFE i o l env ph E F N V (zL P tab (qH nm o.dst) o env ph)) (qK1 P tab nm ds b zFE (i+1) l (yL env o.dst (.tup [])) ph E F N ((i,.tup [])::V)) .fail
theorem qY9:qK1 P tab nm ds b zFE i [] env ph E F N V=.chk (mD b zFE E F N V) (.ret env ph):=Eq.trans rfl rfl
theorem qWS:qK1 P tab nm ds b zFE i (o::l) env ph E F N V=zCF P tab nm ds b zFE i o l env ph E F N V (j5 ds o env):=by
 unfold qK1 zCF qOZ;cases zL P tab (qH nm o.dst) o env ph <;> rfl
theorem qYI:zCF P tab nm ds b zFE i o l env ph E F N V (some true)=qOZ P tab nm ds b zFE i o l env ph E F N V (zL P tab (qH nm o.dst) o env ph):=Eq.trans rfl rfl
theorem qSE:zCF P tab nm ds b zFE i o l env ph E F N V (some false)=qK1 P tab nm ds b zFE (i+1) l (yL env o.dst (.tup [])) ph E F N ((i,.tup [])::V):=Eq.trans rfl rfl
theorem qU5 {v:PV}{ph':PHp}:qOZ P tab nm ds b zFE i o l env ph E F N V (.ok v ph')=qBL (needs o.op) (inP nm (qH nm o.dst)&&gZ (qH nm o.dst) ph) (qK1 P tab nm ds b zFE (i+1) l (yL env o.dst v) ph' (cond (qY o) ((i,wlT nm o env)::E) E) (cond (qY o) F ((i,dlT o env)::F)) (cond (needs o.op) ((i,qH nm o.dst)::N) N) ((i,v)::V)):=Eq.trans rfl rfl
end
theorem zF2.zLX (s:zF2 P good nat G tab){id:Nat}{ops:Array Oper}{env:List PV}{ph:PHp}{Q:PQ}{ds:List (Option Tmp)}{t:PT}(hok:gK G ops=true)(hd:fO ops=true)(hal:fV ops=true)(hds:ops.toList.map (·.dst)=ds)
 (ht:qK1 P tab nm ds (dBo ops) env 0 ops.toList env ph [] [] [] []=t) (h:t.holds P G fun e p=>Q .normal e p):Runs P G rd nm (.region id ops true) env ph Q:=s.drw hok hd hal hds (ht ▸ h)
theorem qO2 {ph ph':PHp}{x y:PV}(h:fzP P ph x=some (y,ph')):qHU y=true:=by
 unfold fzP at h;split at h
 ·split at h
  ·rename_i ys p' hf;cases h;show ((ys.map PV.f).all qSS)=true;rw[zM1];intro z hz;obtain⟨w,_,rfl⟩:=zNO.1 hz;rfl
  ·cases h
 ·split at h
  ·cases h;rfl
  ·cases h
theorem VRL.slot {Z:Nat->Prop}{H:IH}{M:Nat->Option (Nat×PO)}{env:List PV}{zFA:Env}(he:VRL P Z H M env zFA){i:Nat}{v:Value}{y:PV}(hv:zFA[i]?=some v)(hy:VR P Z H M y v):VRL P Z H M (yQ env i y) zFA:=by
 rw[qV];have:=he.set hy i
 have e:zFA.set i v=zFA:=by
  apply zOI;intro j;rw[zNU];by_cases hij:i=j
  ·subst hij;rw[if_pos rfl,hv];simp[(zM6.1 hv).1]
  ·rw[if_neg hij]
 rwa [e] at this
end Go.Idl
