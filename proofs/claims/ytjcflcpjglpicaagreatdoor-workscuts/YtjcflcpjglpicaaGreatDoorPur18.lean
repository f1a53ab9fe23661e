/- More rules by which a region is run. Conditions: none. -/
import Derived.Test.YtjcflcpjglpicaaGreatDoorPur17
import Derived.KernelRfl
set_option linter.all false
namespace Go.Idl
variable [Gc]
variable {P:Program}{G:Nat->Bool}{nat:xI}{tab:uU}{inl:FuncId->Bool}{nm:Nm}{good:FuncId->Bool}{rd:Bool}
section
variable {ds:List (Option Tmp)}{o:Oper}{l:List Oper}{env:List PV}{ph:PHp}{b:DB}{zGB:List PV}{i:Nat}{E F:List (Nat×List Nat)}{N:List (Nat×Nat)}{V:List (Nat×PV)}
noncomputable def qRC (P:Program)(tab:uU)(nm:Nm)(ds:List (Option Tmp))(b:DB)(zGB:List PV)(i:Nat)(o:Oper)(l:List Oper)(env:List PV)(ph:PHp)(E F:List (Nat×List Nat))(N:List (Nat×Nat))(V:List (Nat×PV)):PE->PT
 | .ok v ph'=>qB1 (needs o.op) (inP nm (qI nm o.dst)&&aJ (qI nm o.dst) ph) (qL9 P tab nm ds b zGB (i+1) l (yM env o.dst v) ph' (cond (zC o) ((i,wlT nm o env)::E) E) (cond (zC o) F ((i,dlT o env)::F)) (cond (needs o.op) ((i,qI nm o.dst)::N) N) ((i,v)::V))
 | _=>.fail
noncomputable def zC1 (P:Program)(tab:uU)(nm:Nm)(ds:List (Option Tmp))(b:DB)(zGB:List PV)(i:Nat)(o:Oper)(l:List Oper)(env:List PV)(ph:PHp)(E F:List (Nat×List Nat))(N:List (Nat×Nat))(V:List (Nat×PV))(c:Option Bool):PT :=
 vK c (qRC P tab nm ds b zGB i o l env ph E F N V (zM P tab (qI nm o.dst) o env ph)) (qL9 P tab nm ds b zGB (i+1) l (yM env o.dst (.tup [])) ph E F N ((i,.tup [])::V)) .fail
theorem q1D:qL9 P tab nm ds b zGB i [] env ph E F N V=.chk (nN b zGB E F N V) (.ret env ph):=Eq.trans rfl rfl
theorem qXO:qL9 P tab nm ds b zGB i (o::l) env ph E F N V=zC1 P tab nm ds b zGB i o l env ph E F N V (vH ds o env):=by
 unfold qL9 zC1 qRC;cases zM P tab (qI nm o.dst) o env ph <;> rfl
theorem qVG:zC1 P tab nm ds b zGB i o l env ph E F N V (some true)=qRC P tab nm ds b zGB i o l env ph E F N V (zM P tab (qI nm o.dst) o env ph):=Eq.trans rfl rfl
theorem qS7:zC1 P tab nm ds b zGB i o l env ph E F N V (some false)=qL9 P tab nm ds b zGB (i+1) l (yM env o.dst (.tup [])) ph E F N ((i,.tup [])::V):=Eq.trans rfl rfl
theorem qZD {v:PV}{ph':PHp}:qRC P tab nm ds b zGB i o l env ph E F N V (.ok v ph')=qB1 (needs o.op) (inP nm (qI nm o.dst)&&aJ (qI nm o.dst) ph) (qL9 P tab nm ds b zGB (i+1) l (yM env o.dst v) ph' (cond (zC o) ((i,wlT nm o env)::E) E) (cond (zC o) F ((i,dlT o env)::F)) (cond (needs o.op) ((i,qI nm o.dst)::N) N) ((i,v)::V)):=Eq.trans rfl rfl
end
theorem zG4.zNQ (s:zG4 P good nat G tab){id:Nat}{ops:Array Oper}{env:List PV}{ph:PHp}{Q:PQ}{ds:List (Option Tmp)}{t:PT}(hok:gD G ops=true)(hd:aP ops=true)(hal:aG ops=true)(hds:ops.toList.map (·.dst)=ds)
 (ht:qL9 P tab nm ds (dBo ops) env 0 ops.toList env ph [] [] [] []=t) (h:t.holds P G fun e p=>Q .normal e p):Runs P G rd nm (.region id ops true) env ph Q:=s.drw hok hd hal hds (ht ▸ h)
theorem qPL {ph ph':PHp}{x y:PV}(h:fzP P ph x=some (y,ph')):qLI y=true:=by
 unfold fzP at h;split at h
 ·split at h
  ·rename_i ys p' hf;cases h;show ((ys.map PV.f).all qT1)=true;rw[zPN];intro z hz;obtain⟨w,_,rfl⟩:=zQB.1 hz;rfl
  ·cases h
 ·split at h
  ·cases h;rfl
  ·cases h
theorem VRL.slot {Z:Nat->Prop}{H:IH}{M:Nat->Option (Nat×PO)}{env:List PV}{zF7:Env}(he:VRL P Z H M env zF7){i:Nat}{v:Value}{y:PV}(hv:zF7[i]?=some v)(hy:VR P Z H M y v):VRL P Z H M (yS env i y) zF7:=by
 rw[qW];have:=he.set hy i
 have e:zF7.set i v=zF7:=by
  apply zQ1;intro j;rw[zQG];by_cases hij:i=j
  ·subst hij;rw[if_pos rfl,hv];simp[(zPQ.1 hv).1]
  ·rw[if_neg hij]
 rwa [e] at this
end Go.Idl
