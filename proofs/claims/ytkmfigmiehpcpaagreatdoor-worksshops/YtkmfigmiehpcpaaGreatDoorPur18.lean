/- More rules by which a region is run. Conditions: none. -/
import Derived.Test.YtkmfigmiehpcpaaGreatDoorPur17
import Derived.KernelRfl
set_option linter.all false
namespace Go.Idl
variable [Gc]
variable {P:Program}{G:Nat->Bool}{nat:xK}{tab:uN}{inl:FuncId->Bool}{nm:Nm}{good:FuncId->Bool}{rd:Bool}
section
variable {ds:List (Option Tmp)}{o:Oper}{l:List Oper}{env:List PV}{ph:PHp}{b:DB}{zEI:List PV}{i:Nat}{E F:List (Nat×List Nat)}{N:List (Nat×Nat)}{V:List (Nat×PV)}
noncomputable def qOB (P:Program)(tab:uN)(nm:Nm)(ds:List (Option Tmp))(b:DB)(zEI:List PV)(i:Nat)(o:Oper)(l:List Oper)(env:List PV)(ph:PHp)(E F:List (Nat×List Nat))(N:List (Nat×Nat))(V:List (Nat×PV)):PE->PT
 | .ok v ph'=>qBY (needs o.op) (inP nm (qH nm o.dst)&&fZ (qH nm o.dst) ph) (qH0 P tab nm ds b zEI (i+1) l (yQ env o.dst v) ph' (cond (zC o) ((i,wlT nm o env)::E) E) (cond (zC o) F ((i,dlT o env)::F)) (cond (needs o.op) ((i,qH nm o.dst)::N) N) ((i,v)::V))
 | _=>.fail
noncomputable def zA8 (P:Program)(tab:uN)(nm:Nm)(ds:List (Option Tmp))(b:DB)(zEI:List PV)(i:Nat)(o:Oper)(l:List Oper)(env:List PV)(ph:PHp)(E F:List (Nat×List Nat))(N:List (Nat×Nat))(V:List (Nat×PV))(c:Option Bool):PT :=
 j6 c (qOB P tab nm ds b zEI i o l env ph E F N V (zO P tab (qH nm o.dst) o env ph)) (qH0 P tab nm ds b zEI (i+1) l (yQ env o.dst (.tup [])) ph E F N ((i,.tup [])::V)) .fail
theorem q0Z:qH0 P tab nm ds b zEI i [] env ph E F N V=.chk (mD b zEI E F N V) (.ret env ph):=Eq.trans rfl rfl
theorem qTK:qH0 P tab nm ds b zEI i (o::l) env ph E F N V=zA8 P tab nm ds b zEI i o l env ph E F N V (vI ds o env):=by
 unfold qH0 zA8 qOB;cases zO P tab (qH nm o.dst) o env ph <;> rfl
theorem qXK:zA8 P tab nm ds b zEI i o l env ph E F N V (some true)=qOB P tab nm ds b zEI i o l env ph E F N V (zO P tab (qH nm o.dst) o env ph):=Eq.trans rfl rfl
theorem qRP:zA8 P tab nm ds b zEI i o l env ph E F N V (some false)=qH0 P tab nm ds b zEI (i+1) l (yQ env o.dst (.tup [])) ph E F N ((i,.tup [])::V):=Eq.trans rfl rfl
theorem qU0 {v:PV}{ph':PHp}:qOB P tab nm ds b zEI i o l env ph E F N V (.ok v ph')=qBY (needs o.op) (inP nm (qH nm o.dst)&&fZ (qH nm o.dst) ph) (qH0 P tab nm ds b zEI (i+1) l (yQ env o.dst v) ph' (cond (zC o) ((i,wlT nm o env)::E) E) (cond (zC o) F ((i,dlT o env)::F)) (cond (needs o.op) ((i,qH nm o.dst)::N) N) ((i,v)::V)):=Eq.trans rfl rfl
end
theorem zE8.zLX (s:zE8 P good nat G tab){id:Nat}{ops:Array Oper}{env:List PV}{ph:PHp}{Q:PQ}{ds:List (Option Tmp)}{t:PT}(hok:gJ G ops=true)(hd:aD ops=true)(hal:fU ops=true)(hds:ops.toList.map (·.dst)=ds)
 (ht:qH0 P tab nm ds (dBo ops) env 0 ops.toList env ph [] [] [] []=t) (h:t.holds P G fun e p=>Q .normal e p):Runs P G rd nm (.region id ops true) env ph Q:=s.drw hok hd hal hds (ht ▸ h)
theorem qPB {ph ph':PHp}{x y:PV}(h:fzP P ph x=some (y,ph')):qKG y=true:=by
 unfold fzP at h;split at h
 ·split at h
  ·rename_i ys p' hf;cases h;show ((ys.map PV.f).all qSZ)=true;rw[zNW];intro z hz;obtain⟨w,_,rfl⟩:=zOJ.1 hz;rfl
  ·cases h
 ·split at h
  ·cases h;rfl
  ·cases h
theorem VRL.slot {Z:Nat->Prop}{H:IH}{M:Nat->Option (Nat×PO)}{env:List PV}{zEE:Env}(he:VRL P Z H M env zEE){i:Nat}{v:Value}{y:PV}(hv:zEE[i]?=some v)(hy:VR P Z H M y v):VRL P Z H M (yT env i y) zEE:=by
 rw[qZ];have:=he.set hy i
 have e:zEE.set i v=zEE:=by
  apply zPB;intro j;rw[zON];by_cases hij:i=j
  ·subst hij;rw[if_pos rfl,hv];simp[(zN0.1 hv).1]
  ·rw[if_neg hij]
 rwa [e] at this
end Go.Idl
