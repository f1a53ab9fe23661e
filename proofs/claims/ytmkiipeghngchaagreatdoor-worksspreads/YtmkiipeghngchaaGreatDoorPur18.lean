/- More rules by which a region is run. Conditions: none. -/
import Derived.Test.YtmkiipeghngchaaGreatDoorPur17
import Derived.KernelRfl
set_option linter.all false
namespace Go.Idl
variable [Gc]
variable {P:Program}{G:Nat->Bool}{nat:xB}{tab:u6}{inl:FuncId->Bool}{nm:Nm}{good:FuncId->Bool}{rd:Bool}
section
variable {ds:List (Option Tmp)}{o:Oper}{l:List Oper}{env:List PV}{ph:PHp}{b:DB}{zFH:List PV}{i:Nat}{E F:List (Nat×List Nat)}{N:List (Nat×Nat)}{V:List (Nat×PV)}
noncomputable def qRG (P:Program)(tab:u6)(nm:Nm)(ds:List (Option Tmp))(b:DB)(zFH:List PV)(i:Nat)(o:Oper)(l:List Oper)(env:List PV)(ph:PHp)(E F:List (Nat×List Nat))(N:List (Nat×Nat))(V:List (Nat×PV)):PE->PT
 | .ok v ph'=>qBG (needs o.op) (inP nm (qH nm o.dst)&&aD (qH nm o.dst) ph) (qL0 P tab nm ds b zFH (i+1) l (yO env o.dst v) ph' (cond (qZ o) ((i,wlT nm o env)::E) E) (cond (qZ o) F ((i,dlT o env)::F)) (cond (needs o.op) ((i,qH nm o.dst)::N) N) ((i,v)::V))
 | _=>.fail
noncomputable def zCC (P:Program)(tab:u6)(nm:Nm)(ds:List (Option Tmp))(b:DB)(zFH:List PV)(i:Nat)(o:Oper)(l:List Oper)(env:List PV)(ph:PHp)(E F:List (Nat×List Nat))(N:List (Nat×Nat))(V:List (Nat×PV))(c:Option Bool):PT :=
 vK c (qRG P tab nm ds b zFH i o l env ph E F N V (zK P tab (qH nm o.dst) o env ph)) (qL0 P tab nm ds b zFH (i+1) l (yO env o.dst (.tup [])) ph E F N ((i,.tup [])::V)) .fail
theorem q1I:qL0 P tab nm ds b zFH i [] env ph E F N V=.chk (mQ b zFH E F N V) (.ret env ph):=Eq.trans rfl rfl
theorem qXG:qL0 P tab nm ds b zFH i (o::l) env ph E F N V=zCC P tab nm ds b zFH i o l env ph E F N V (vO ds o env):=by
 unfold qL0 zCC qRG;cases zK P tab (qH nm o.dst) o env ph <;> rfl
theorem qX4:zCC P tab nm ds b zFH i o l env ph E F N V (some true)=qRG P tab nm ds b zFH i o l env ph E F N V (zK P tab (qH nm o.dst) o env ph):=Eq.trans rfl rfl
theorem qSQ:zCC P tab nm ds b zFH i o l env ph E F N V (some false)=qL0 P tab nm ds b zFH (i+1) l (yO env o.dst (.tup [])) ph E F N ((i,.tup [])::V):=Eq.trans rfl rfl
theorem qW0 {v:PV}{ph':PHp}:qRG P tab nm ds b zFH i o l env ph E F N V (.ok v ph')=qBG (needs o.op) (inP nm (qH nm o.dst)&&aD (qH nm o.dst) ph) (qL0 P tab nm ds b zFH (i+1) l (yO env o.dst v) ph' (cond (qZ o) ((i,wlT nm o env)::E) E) (cond (qZ o) F ((i,dlT o env)::F)) (cond (needs o.op) ((i,qH nm o.dst)::N) N) ((i,v)::V)):=Eq.trans rfl rfl
end
theorem zGA.zMY (s:zGA P good nat G tab){id:Nat}{ops:Array Oper}{env:List PV}{ph:PHp}{Q:PQ}{ds:List (Option Tmp)}{t:PT}(hok:u7 G ops=true)(hd:aK ops=true)(hal:aN ops=true)(hds:ops.toList.map (·.dst)=ds)
 (ht:qL0 P tab nm ds (dBo ops) env 0 ops.toList env ph [] [] [] []=t) (h:t.holds P G fun e p=>Q .normal e p):Runs P G rd nm (.region id ops true) env ph Q:=s.drw hok hd hal hds (ht ▸ h)
theorem qPY {ph ph':PHp}{x y:PV}(h:fzP P ph x=some (y,ph')):qL3 y=true:=by
 unfold fzP at h;split at h
 ·split at h
  ·rename_i ys p' hf;cases h;show ((ys.map PV.f).all qTQ)=true;rw[zOW];intro z hz;obtain⟨w,_,rfl⟩:=zPL.1 hz;rfl
  ·cases h
 ·split at h
  ·cases h;rfl
  ·cases h
theorem VRL.slot {Z:Nat->Prop}{H:IH}{M:Nat->Option (Nat×PO)}{env:List PV}{zFD:Env}(he:VRL P Z H M env zFD){i:Nat}{v:Value}{y:PV}(hv:zFD[i]?=some v)(hy:VR P Z H M y v):VRL P Z H M (yP env i y) zFD:=by
 rw[qV];have:=he.set hy i
 have e:zFD.set i v=zFD:=by
  apply zQF;intro j;rw[zPM];by_cases hij:i=j
  ·subst hij;rw[if_pos rfl,hv];simp[(zOZ.1 hv).1]
  ·rw[if_neg hij]
 rwa [e] at this
end Go.Idl
