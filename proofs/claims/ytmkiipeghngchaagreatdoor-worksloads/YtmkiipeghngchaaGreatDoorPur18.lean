/- More rules by which a region is run. Conditions: none. -/
import Derived.Test.YtmkiipeghngchaaGreatDoorPur17
import Derived.KernelRfl
set_option linter.all false
namespace Go.Idl
variable [Gc]
variable {P:Program}{G:Nat->Bool}{nat:xG}{tab:uW}{inl:FuncId->Bool}{nm:Nm}{good:FuncId->Bool}{rd:Bool}
section
variable {ds:List (Option Tmp)}{o:Oper}{l:List Oper}{env:List PV}{ph:PHp}{b:DB}{zEU:List PV}{i:Nat}{E F:List (Nat×List Nat)}{N:List (Nat×Nat)}{V:List (Nat×PV)}
noncomputable def qQT (P:Program)(tab:uW)(nm:Nm)(ds:List (Option Tmp))(b:DB)(zEU:List PV)(i:Nat)(o:Oper)(l:List Oper)(env:List PV)(ph:PHp)(E F:List (Nat×List Nat))(N:List (Nat×Nat))(V:List (Nat×PV)):PE->PT
 | .ok v ph'=>qCP (needs o.op) (inP nm (qH nm o.dst)&&aK (qH nm o.dst) ph) (qLR P tab nm ds b zEU (i+1) l (yK env o.dst v) ph' (cond (zA o) ((i,wlT nm o env)::E) E) (cond (zA o) F ((i,dlT o env)::F)) (cond (needs o.op) ((i,qH nm o.dst)::N) N) ((i,v)::V))
 | _=>.fail
noncomputable def zBM (P:Program)(tab:uW)(nm:Nm)(ds:List (Option Tmp))(b:DB)(zEU:List PV)(i:Nat)(o:Oper)(l:List Oper)(env:List PV)(ph:PHp)(E F:List (Nat×List Nat))(N:List (Nat×Nat))(V:List (Nat×PV))(c:Option Bool):PT :=
 vL c (qQT P tab nm ds b zEU i o l env ph E F N V (zK P tab (qH nm o.dst) o env ph)) (qLR P tab nm ds b zEU (i+1) l (yK env o.dst (.tup [])) ph E F N ((i,.tup [])::V)) .fail
theorem q1K:qLR P tab nm ds b zEU i [] env ph E F N V=.chk (mX b zEU E F N V) (.ret env ph):=Eq.trans rfl rfl
theorem qWD:qLR P tab nm ds b zEU i (o::l) env ph E F N V=zBM P tab nm ds b zEU i o l env ph E F N V (vM ds o env):=by
 unfold qLR zBM qQT;cases zK P tab (qH nm o.dst) o env ph <;> rfl
theorem qT9:zBM P tab nm ds b zEU i o l env ph E F N V (some true)=qQT P tab nm ds b zEU i o l env ph E F N V (zK P tab (qH nm o.dst) o env ph):=Eq.trans rfl rfl
theorem qS0:zBM P tab nm ds b zEU i o l env ph E F N V (some false)=qLR P tab nm ds b zEU (i+1) l (yK env o.dst (.tup [])) ph E F N ((i,.tup [])::V):=Eq.trans rfl rfl
theorem qXL {v:PV}{ph':PHp}:qQT P tab nm ds b zEU i o l env ph E F N V (.ok v ph')=qCP (needs o.op) (inP nm (qH nm o.dst)&&aK (qH nm o.dst) ph) (qLR P tab nm ds b zEU (i+1) l (yK env o.dst v) ph' (cond (zA o) ((i,wlT nm o env)::E) E) (cond (zA o) F ((i,dlT o env)::F)) (cond (needs o.op) ((i,qH nm o.dst)::N) N) ((i,v)::V)):=Eq.trans rfl rfl
end
theorem zFN.zMD (s:zFN P good nat G tab){id:Nat}{ops:Array Oper}{env:List PV}{ph:PHp}{Q:PQ}{ds:List (Option Tmp)}{t:PT}(hok:gD G ops=true)(hd:aF ops=true)(hal:aH ops=true)(hds:ops.toList.map (·.dst)=ds)
 (ht:qLR P tab nm ds (dBo ops) env 0 ops.toList env ph [] [] [] []=t) (h:t.holds P G fun e p=>Q .normal e p):Runs P G rd nm (.region id ops true) env ph Q:=s.drw hok hd hal hds (ht ▸ h)
theorem qQ4 {ph ph':PHp}{x y:PV}(h:fzP P ph x=some (y,ph')):qK5 y=true:=by
 unfold fzP at h;split at h
 ·split at h
  ·rename_i ys p' hf;cases h;show ((ys.map PV.f).all qTE)=true;rw[zOB];intro z hz;obtain⟨w,_,rfl⟩:=zOZ.1 hz;rfl
  ·cases h
 ·split at h
  ·cases h;rfl
  ·cases h
theorem VRL.slot {Z:Nat->Prop}{H:IH}{M:Nat->Option (Nat×PO)}{env:List PV}{zEQ:Env}(he:VRL P Z H M env zEQ){i:Nat}{v:Value}{y:PV}(hv:zEQ[i]?=some v)(hy:VR P Z H M y v):VRL P Z H M (yQ env i y) zEQ:=by
 rw[qW];have:=he.set hy i
 have e:zEQ.set i v=zEQ:=by
  apply zPR;intro j;rw[zO4];by_cases hij:i=j
  ·subst hij;rw[if_pos rfl,hv];simp[(zOE.1 hv).1]
  ·rw[if_neg hij]
 rwa [e] at this
end Go.Idl
