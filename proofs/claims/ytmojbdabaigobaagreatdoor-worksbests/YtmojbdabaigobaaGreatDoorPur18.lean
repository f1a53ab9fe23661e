/- More rules by which a region is run. Conditions: none. -/
import Derived.Test.YtmojbdabaigobaaGreatDoorPur17
import Derived.KernelRfl
set_option linter.all false
namespace Go.Idl
variable [Gc]
variable {P:Program}{G:Nat->Bool}{nat:xC}{tab:uT}{inl:FuncId->Bool}{nm:Nm}{good:FuncId->Bool}{rd:Bool}
section
variable {ds:List (Option Tmp)}{o:Oper}{l:List Oper}{env:List PV}{ph:PHp}{b:DB}{zE3:List PV}{i:Nat}{E F:List (Nat×List Nat)}{N:List (Nat×Nat)}{V:List (Nat×PV)}
noncomputable def qQK (P:Program)(tab:uT)(nm:Nm)(ds:List (Option Tmp))(b:DB)(zE3:List PV)(i:Nat)(o:Oper)(l:List Oper)(env:List PV)(ph:PHp)(E F:List (Nat×List Nat))(N:List (Nat×Nat))(V:List (Nat×PV)):PE->PT
 | .ok v ph'=>qCF (needs o.op) (inP nm (qH nm o.dst)&&fT (qH nm o.dst) ph) (qIW P tab nm ds b zE3 (i+1) l (yO env o.dst v) ph' (cond (zB o) ((i,wlT nm o env)::E) E) (cond (zB o) F ((i,dlT o env)::F)) (cond (needs o.op) ((i,qH nm o.dst)::N) N) ((i,v)::V))
 | _=>.fail
noncomputable def zBR (P:Program)(tab:uT)(nm:Nm)(ds:List (Option Tmp))(b:DB)(zE3:List PV)(i:Nat)(o:Oper)(l:List Oper)(env:List PV)(ph:PHp)(E F:List (Nat×List Nat))(N:List (Nat×Nat))(V:List (Nat×PV))(c:Option Bool):PT :=
 j6 c (qQK P tab nm ds b zE3 i o l env ph E F N V (zN P tab (qH nm o.dst) o env ph)) (qIW P tab nm ds b zE3 (i+1) l (yO env o.dst (.tup [])) ph E F N ((i,.tup [])::V)) .fail
theorem qZG:qIW P tab nm ds b zE3 i [] env ph E F N V=.chk (mV b zE3 E F N V) (.ret env ph):=Eq.trans rfl rfl
theorem qXW:qIW P tab nm ds b zE3 i (o::l) env ph E F N V=zBR P tab nm ds b zE3 i o l env ph E F N V (vH ds o env):=by
 unfold qIW zBR qQK;cases zN P tab (qH nm o.dst) o env ph <;> rfl
theorem qT8:zBR P tab nm ds b zE3 i o l env ph E F N V (some true)=qQK P tab nm ds b zE3 i o l env ph E F N V (zN P tab (qH nm o.dst) o env ph):=Eq.trans rfl rfl
theorem qSG:zBR P tab nm ds b zE3 i o l env ph E F N V (some false)=qIW P tab nm ds b zE3 (i+1) l (yO env o.dst (.tup [])) ph E F N ((i,.tup [])::V):=Eq.trans rfl rfl
theorem qYA {v:PV}{ph':PHp}:qQK P tab nm ds b zE3 i o l env ph E F N V (.ok v ph')=qCF (needs o.op) (inP nm (qH nm o.dst)&&fT (qH nm o.dst) ph) (qIW P tab nm ds b zE3 (i+1) l (yO env o.dst v) ph' (cond (zB o) ((i,wlT nm o env)::E) E) (cond (zB o) F ((i,dlT o env)::F)) (cond (needs o.op) ((i,qH nm o.dst)::N) N) ((i,v)::V)):=Eq.trans rfl rfl
end
theorem zFT.zMI (s:zFT P good nat G tab){id:Nat}{ops:Array Oper}{env:List PV}{ph:PHp}{Q:PQ}{ds:List (Option Tmp)}{t:PT}(hok:uY G ops=true)(hd:aF ops=true)(hal:fZ ops=true)(hds:ops.toList.map (·.dst)=ds)
 (ht:qIW P tab nm ds (dBo ops) env 0 ops.toList env ph [] [] [] []=t) (h:t.holds P G fun e p=>Q .normal e p):Runs P G rd nm (.region id ops true) env ph Q:=s.drw hok hd hal hds (ht ▸ h)
theorem qQ1 {ph ph':PHp}{x y:PV}(h:fzP P ph x=some (y,ph')):qKP y=true:=by
 unfold fzP at h;split at h
 ·split at h
  ·rename_i ys p' hf;cases h;show ((ys.map PV.f).all qS4)=true;rw[zOJ];intro z hz;obtain⟨w,_,rfl⟩:=zO6.1 hz;rfl
  ·cases h
 ·split at h
  ·cases h;rfl
  ·cases h
theorem VRL.slot {Z:Nat->Prop}{H:IH}{M:Nat->Option (Nat×PO)}{env:List PV}{zEZ:Env}(he:VRL P Z H M env zEZ){i:Nat}{v:Value}{y:PV}(hv:zEZ[i]?=some v)(hy:VR P Z H M y v):VRL P Z H M (yR env i y) zEZ:=by
 rw[qX];have:=he.set hy i
 have e:zEZ.set i v=zEZ:=by
  apply zP2;intro j;rw[zPA];by_cases hij:i=j
  ·subst hij;rw[if_pos rfl,hv];simp[(zOO.1 hv).1]
  ·rw[if_neg hij]
 rwa [e] at this
end Go.Idl
