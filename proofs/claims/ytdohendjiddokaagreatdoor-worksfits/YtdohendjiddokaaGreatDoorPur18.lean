/- More rules by which a region is run. Conditions: none. -/
import Derived.Test.YtdohendjiddokaaGreatDoorPur17
import Derived.KernelRfl
set_option linter.all false
namespace Go.Idl
variable [Gc]
variable {P:Program}{G:Nat->Bool}{nat:xJ}{tab:uZ}{inl:FuncId->Bool}{nm:Nm}{good:FuncId->Bool}{rd:Bool}
section
variable {ds:List (Option Tmp)}{o:Oper}{l:List Oper}{env:List PV}{ph:PHp}{b:DB}{zGR:List PV}{i:Nat}{E F:List (Nat×List Nat)}{N:List (Nat×Nat)}{V:List (Nat×PV)}
noncomputable def qPA (P:Program)(tab:uZ)(nm:Nm)(ds:List (Option Tmp))(b:DB)(zGR:List PV)(i:Nat)(o:Oper)(l:List Oper)(env:List PV)(ph:PHp)(E F:List (Nat×List Nat))(N:List (Nat×Nat))(V:List (Nat×PV)):PE->PT
 | .ok v ph'=>qDC (needs o.op) (inP nm (qH nm o.dst)&&aC (qH nm o.dst) ph) (qJ6 P tab nm ds b zGR (i+1) l (yQ env o.dst v) ph' (cond (qZ o) ((i,wlT nm o env)::E) E) (cond (qZ o) F ((i,dlT o env)::F)) (cond (needs o.op) ((i,qH nm o.dst)::N) N) ((i,v)::V))
 | _=>.fail
noncomputable def zDL (P:Program)(tab:uZ)(nm:Nm)(ds:List (Option Tmp))(b:DB)(zGR:List PV)(i:Nat)(o:Oper)(l:List Oper)(env:List PV)(ph:PHp)(E F:List (Nat×List Nat))(N:List (Nat×Nat))(V:List (Nat×PV))(c:Option Bool):PT :=
 vO c (qPA P tab nm ds b zGR i o l env ph E F N V (zL P tab (qH nm o.dst) o env ph)) (qJ6 P tab nm ds b zGR (i+1) l (yQ env o.dst (.tup [])) ph E F N ((i,.tup [])::V)) .fail
theorem q2J:qJ6 P tab nm ds b zGR i [] env ph E F N V=.chk (mV b zGR E F N V) (.ret env ph):=Eq.trans rfl rfl
theorem qW9:qJ6 P tab nm ds b zGR i (o::l) env ph E F N V=zDL P tab nm ds b zGR i o l env ph E F N V (vK ds o env):=by
 unfold qJ6 zDL qPA;cases zL P tab (qH nm o.dst) o env ph <;> rfl
theorem qYV:zDL P tab nm ds b zGR i o l env ph E F N V (some true)=qPA P tab nm ds b zGR i o l env ph E F N V (zL P tab (qH nm o.dst) o env ph):=Eq.trans rfl rfl
theorem qTE:zDL P tab nm ds b zGR i o l env ph E F N V (some false)=qJ6 P tab nm ds b zGR (i+1) l (yQ env o.dst (.tup [])) ph E F N ((i,.tup [])::V):=Eq.trans rfl rfl
theorem qV1 {v:PV}{ph':PHp}:qPA P tab nm ds b zGR i o l env ph E F N V (.ok v ph')=qDC (needs o.op) (inP nm (qH nm o.dst)&&aC (qH nm o.dst) ph) (qJ6 P tab nm ds b zGR (i+1) l (yQ env o.dst v) ph' (cond (qZ o) ((i,wlT nm o env)::E) E) (cond (qZ o) F ((i,dlT o env)::F)) (cond (needs o.op) ((i,qH nm o.dst)::N) N) ((i,v)::V)):=Eq.trans rfl rfl
end
theorem zHK.zN3 (s:zHK P good nat G tab){id:Nat}{ops:Array Oper}{env:List PV}{ph:PHp}{Q:PQ}{ds:List (Option Tmp)}{t:PT}(hok:gF G ops=true)(hd:aI ops=true)(hal:aD ops=true)(hds:ops.toList.map (·.dst)=ds)
 (ht:qJ6 P tab nm ds (dBo ops) env 0 ops.toList env ph [] [] [] []=t) (h:t.holds P G fun e p=>Q .normal e p):Runs P G rd nm (.region id ops true) env ph Q:=s.drw hok hd hal hds (ht ▸ h)
theorem qQM {ph ph':PHp}{x y:PV}(h:fzP P ph x=some (y,ph')):qKR y=true:=by
 unfold fzP at h;split at h
 ·split at h
  ·rename_i ys p' hf;cases h;show ((ys.map PV.f).all qT4)=true;rw[zP1];intro z hz;obtain⟨w,_,rfl⟩:=zQR.1 hz;rfl
  ·cases h
 ·split at h
  ·cases h;rfl
  ·cases h
theorem VRL.slot {Z:Nat->Prop}{H:IH}{M:Nat->Option (Nat×PO)}{env:List PV}{zGN:Env}(he:VRL P Z H M env zGN){i:Nat}{v:Value}{y:PV}(hv:zGN[i]?=some v)(hy:VR P Z H M y v):VRL P Z H M (yS env i y) zGN:=by
 rw[qW];have:=he.set hy i
 have e:zGN.set i v=zGN:=by
  apply zRG;intro j;rw[zQW];by_cases hij:i=j
  ·subst hij;rw[if_pos rfl,hv];simp[(zP4.1 hv).1]
  ·rw[if_neg hij]
 rwa [e] at this
end Go.Idl
