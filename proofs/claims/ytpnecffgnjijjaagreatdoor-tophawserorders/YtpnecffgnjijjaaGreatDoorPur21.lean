/- Regions that draw their order, whose operations commute: whatever the order. Conditions: none. -/
import Derived.Test.YtpnecffgnjijjaaGreatDoorPur19
set_option linter.all false
namespace Go.Idl
variable [Gc]
variable {P:Program}{G:Nat->Bool}{nat:xA}{tab:uQ}{nm:Nm}{good:FuncId->Bool}{rd:Bool}
def okE (o:Oper):Bool:=match o.op with
 | .alloc _ | .box _ _ | .buildSlice _ _ _ | .makeSlice _ _ _ | .store _ _ _=>true
 | .call ⟨.builtin .append,_,_⟩=>true
 | _=>false
noncomputable def RC (o:Oper)(k:Nat)(env:List PV):List Nat:=cond (needs o.op) (k::dlO o env) (dlO o env)
def Loc (R:List Nat)(f:PHp->Option (PV×PHp))(ph:PHp)(v:PV)(ph1:PHp):Prop :=
 (∀ l,(qA l ph).isSome=true->(qA l ph1).isSome=true)∧(∀ l,l ∉ R->qA l ph1=qA l ph) ∧
   ∀ ph',(∀ l,l∈R->qA l ph'=qA l ph)->∃ zIU,f ph'=some (v,zIU)∧∀ l,(l∈R->qA l zIU=qA l ph1)∧(l ∉ R->qA l zIU=qA l ph')
theorem mR {R:List Nat}{f:PHp->Option (PV×PHp)}{ph:PHp}{v:PV}{k:Nat}{ob:PO}(hk:k∈R)(h:∀ ph',(∀ l,l∈R->qA l ph'=qA l ph)->f ph'=some (v,(k,ob)::ph')):Loc R f ph v ((k,ob)::ph):=by
 have at_:∀ (l:Nat) (q:PHp),qA l ((k,ob)::q)=if l=k then some ob else qA l q:=fun l q=>by
  by_cases e:l=k
  ·subst e;rw[if_pos rfl];simp[qA]
  ·rw[if_neg e,yG e]
 refine⟨fun l hl=>?_,fun l hl=>?_,fun ph' hd=>⟨_,h ph' hd,fun l=>⟨fun hl=>?_,fun hl=>?_⟩⟩⟩
 ·rw[at_];split
  ·rfl
  ·exact hl
 ·rw[at_,if_neg (fun e:l=k=>hl (e ▸ hk))]
 ·rw[at_,at_,hd l hl]
 ·rw[at_,if_neg (fun e:l=k=>hl (e ▸ hk))]
theorem qOB {R:List Nat}{f:PHp->Option (PV×PHp)}{ph:PHp}{v:PV}(h:∀ ph',(∀ l,l∈R->qA l ph'=qA l ph)->f ph'=some (v,ph')):Loc R f ph v ph :=
 ⟨fun _ h=>h,fun _ _=>rfl,fun ph' hd=>⟨ph',h ph' hd,fun l=>⟨fun hl=>hd l hl,fun _=>rfl⟩⟩⟩
theorem qYE {R:List Nat}{f:PHp->Option (PV×PHp)}{ph:PHp}{v:PV}{j:Nat}{ob:PO}(hj:j∈R)(h:∀ ph',(∀ l,l∈R->qA l ph'=qA l ph)->f ph'=some (v,xL j ob ph')):Loc R f ph v (xL j ob ph):=by
 refine⟨fun l hl=>?_,fun l hl=>?_,fun ph' hd=>⟨_,h ph' hd,fun l=>⟨fun hl=>?_,fun hl=>?_⟩⟩⟩
 ·rw[zA];split
  ·rfl
  ·exact hl
 ·rw[zA,if_neg (fun e:l=j∧_=>hl (e.1 ▸ hj))]
 ·rw[zA,zA,hd j hj,hd l hl]
 ·rw[zA,if_neg (fun e:l=j∧_=>hl (e.1 ▸ hj))]
theorem qZY {R:List Nat}{f:PHp->Option (PV×PHp)}{ph:PHp}{v:PV}{j:Nat}{ob:PO}(hj:j∈R)(h:∀ ph',(∀ l,l∈R->qA l ph'=qA l ph)->f ph'=some (v,(j,ob)::nN j ph')):Loc R f ph v ((j,ob)::nN j ph):=by
 have at_:∀ (l:Nat) (q:PHp),qA l ((j,ob)::nN j q)=if l=j then some ob else qA l q:=fun l q=>by
  by_cases e:l=j
  ·subst e;rw[if_pos rfl];simp[qA]
  ·rw[if_neg e,yG e,yZ,if_neg e]
 refine⟨fun l hl=>?_,fun l hl=>?_,fun ph' hd=>⟨_,h ph' hd,fun l=>⟨fun hl=>?_,fun hl=>?_⟩⟩⟩
 ·rw[at_];split
  ·rfl
  ·exact hl
 ·rw[at_,if_neg (fun e:l=j=>hl (e ▸ hj))]
 ·rw[at_,at_,hd l hl]
 ·rw[at_,if_neg (fun e:l=j=>hl (e ▸ hj))]
theorem q7R {s:Nat}{x:PV}{ph ph':PHp}(h:∀ l∈dl1 x,qA l ph'=qA l ph):mO P s x ph'=mO P s x ph:=by
 unfold mO
 cases x with
 | own k t o n=>simp only[h k (by simp[dl1])]
 | f y=>cases y with
   | l=>rfl
   | v x=>cases x with
     | slice a n c=>cases a with
       | none=>cases n <;> rfl
       | some _=>rfl
     | _=>rfl
 | _=>rfl
theorem qAN {R:List Nat}{el:TypeId}{s:Nat}{old:List PV}{n:Nat}{new:List PV}{m k:Nat}{ph ph1:PHp}{v:PV}(h:oG P el s old n new m k ph=some (v,ph1)):∃ ob,ph1=(k,ob)::ph∧∀ ph',oG P el s old n new m k ph'=some (v,(k,ob)::ph'):=by
 unfold oG at h ⊢
 cases hc:(Nat.ble (n+m) 1048576&&(kK P el&&(Nat.beq (old.length) (n*s)&&(Nat.beq new.length (m*s)&&new.all fZ)))) with
 | false=>rw[hc] at h;cases h
 | true =>
   rw[hc] at h;cases h;exact⟨_,rfl,fun _=>rfl⟩
theorem qQZ {R:List Nat}{ts:List TypeId}{base x:PV}{k:Nat}{ph ph1:PHp}{v:PV}(hk:k∈R)(hb:∀ l∈dl1 base,l∈R)(hx:∀ l∈dl1 x,l∈R)(h:zW P ts base x k ph=some (v,ph1)):Loc R (zW P ts base x k) ph v ph1:=by
 have key:∀ ph',(∀ l,l∈R->qA l ph'=qA l ph)->∀ s,mO P s x ph'=mO P s x ph:=fun ph' hd s=>q7R fun l hl=>hd l (hx l hl)
 unfold zW at h;split at h
 case h_2=>cases h
 rename_i st xt;split at h
 case h_2=>cases h
 rename_i el el2 h1 h2;split at h
 case h_2=>cases h
 rename_i s h3;split at h
 case h_2=>cases h
 rename_i m new h4;split at h
 ·cases hm:Nat.beq m 0 with
  | true =>
    rw[hm] at h;cases h;refine qOB fun ph' hd=>?_
    unfold zW;simp only[h1,h2,h3,key ph' hd,h4,hm,cond_true]
  | false =>
    rw[hm] at h;obtain⟨ob,rfl,hg⟩:=qAN (R:=R) h;refine mR hk fun ph' hd=>?_
    unfold zW;simp only[h1,h2,h3,key ph' hd,h4,hm,cond_false];exact hg ph'
 ·rename_i j tt o n;have hj:j∈R:=hb j (by simp[dl1]);split at h
  case h_2=>cases h
  rename_i ob hob;have zJH:∀ ph',(∀ l,l∈R->qA l ph'=qA l ph)->qA j ph'=some ob:=fun ph' hd=>(hd j hj).trans hob
  cases hc:(Nat.beq ob.el el&&(Nat.beq (tt*(s+1)) ob.cs.length&&Nat.beq o 0)) with
  | false=>rw[hc] at h;cases h
  | true =>
    rw[hc] at h;simp only[cond_true] at h
    cases hm:Nat.beq m 0 with
    | true =>
      rw[hm] at h;cases h;refine qOB fun ph' hd=>?_
      unfold zW;simp only[h1,h2,h3,key ph' hd,h4,zJH ph' hd,hc,hm,cond_true]
    | false =>
      rw[hm] at h;simp only[cond_false] at h
      cases hle:Nat.ble (n+m) tt with
      | true =>
        rw[hle] at h;simp only[cond_true] at h
        cases hc2:(Nat.beq new.length (m*(s+1))&&new.all fZ) with
        | false=>rw[hc2] at h;cases h
        | true =>
          rw[hc2] at h;cases h;refine qYE hj fun ph' hd=>?_
          unfold zW;simp only[h1,h2,h3,key ph' hd,h4,zJH ph' hd,hc,hm,hle,hc2,cond_true,cond_false]
      | false =>
        rw[hle] at h;simp only[cond_false] at h
        cases hnt:Nat.beq n tt with
        | false=>rw[hnt] at h;cases h
        | true =>
          rw[hnt] at h;simp only[cond_true] at h
          cases hgr:ob.gr with
          | true =>
            rw[hgr] at h;simp only[cond_true] at h;obtain⟨ob2,rfl,hg⟩:=qAN (R:=R) h;refine qZY hj fun ph' hd=>?_
            unfold zW;simp only[h1,h2,h3,key ph' hd,h4,zJH ph' hd,hc,hm,hle,hnt,hgr,cond_true,cond_false];exact hg _
          | false =>
            rw[hgr] at h;simp only[cond_false] at h;obtain⟨ob2,rfl,hg⟩:=qAN (R:=R) h;refine mR hk fun ph' hd=>?_
            unfold zW;simp only[h1,h2,h3,key ph' hd,h4,zJH ph' hd,hc,hm,hle,hnt,hgr,cond_true,cond_false];exact hg _
 ·cases h
theorem qSY {R:List Nat}{t:TypeId}{a x:PV}{ph ph1:PHp}{v:PV}(ha:∀ l∈dl1 a,l∈R)(h:ppS (jB P t a x ph)=some (v,ph1)):Loc R (fun ph=>ppS (jB P t a x ph)) ph v ph1:=by
 unfold ppS at h;split at h
 case h_2=>cases h
 rename_i ph2 hs;cases h;unfold jB at hs;split at hs
 case h_2=>cases hs
 rename_i k tt off;have hk:k∈R:=ha k (by simp[dl1]);split at hs
 case h_2=>cases hs
 rename_i ob hob;split at hs
 case h_2=>cases hs
 rename_i n hn
 cases h1:spec P ob.el with
 | true=>rw[h1] at hs;cases hs
 | false =>
   rw[h1] at hs;simp only[cond_false] at hs
   cases h2:(Nat.beq tt ob.cs.length&&(Nat.beq n (zC x).length&&(Nat.ble (off+n) ob.cs.length&&(pnt x&&(zC x).all fZ)))) with
   | false=>rw[h2] at hs;cases hs
   | true =>
     rw[h2] at hs;cases hs;refine qYE hk fun ph' hd=>?_
     unfold jB;simp only[(hd k hk).trans hob,hn,h1,cond_false,h2,cond_true];rfl
theorem qVJ {el:TypeId}{k:Nat}{ph ph1:PHp}{v:PV}(h:dQ P el k ph=some (v,ph1)):∃ ob,ph1=(k,ob)::ph∧∀ ph',dQ P el k ph'=some (v,(k,ob)::ph'):=by
 unfold dQ at h ⊢;split at h
 case h_2=>cases h
 rename_i z hz
 cases h1:spec P el with
 | true=>rw[h1] at h;cases h
 | false =>
   rw[h1] at h;cases h;exact⟨_,rfl,fun _=>by simp only[cond_false];rfl⟩
theorem q6S {el:TypeId}{x:PV}{k:Nat}{ph ph1:PHp}{v:PV}(h:q2P P el x k ph=some (v,ph1)):∃ ob,ph1=(k,ob)::ph∧∀ ph',q2P P el x k ph'=some (v,(k,ob)::ph'):=by
 unfold q2P at h ⊢
 cases h1:(!(spec P el)&&(pnt x&&(zC x).all fZ)) with
 | false=>rw[h1] at h;cases h
 | true =>
   rw[h1] at h;cases h;exact⟨_,rfl,fun _=>rfl⟩
theorem qTC {t:TypeId}{len:Nat}{parts:List (Nat×PV)}{k:Nat}{ph ph1:PHp}{v:PV}(h:z8 P t len parts k ph=some (v,ph1)):∃ ob,ph1=(k,ob)::ph∧∀ ph',z8 P t len parts k ph'=some (v,(k,ob)::ph'):=by
 unfold z8 at h ⊢;split at h
 case h_2=>cases h
 rename_i el hel;split at h
 case h_2=>cases h
 rename_i s z hs hz
 cases h1:(Nat.beq z.length (s+1)&&Nat.ble (len*(s+1)) 65536) with
 | false=>rw[h1] at h;cases h
 | true =>
   rw[h1] at h;simp only[cond_true] at h;split at h
   case h_2=>cases h
   rename_i cs hcs;cases h;exact⟨_,rfl,fun _=>by simp only[hel,hs,hz,h1,cond_true,hcs];rfl⟩
theorem qZI {t:TypeId}{l c:PV}{k:Nat}{ph ph1:PHp}{v:PV}(h:y8 P t l c k ph=some (v,ph1)):∃ ob,ph1=(k,ob)::ph∧∀ ph',y8 P t l c k ph'=some (v,(k,ob)::ph'):=by
 unfold y8 at h ⊢;split at h
 case h_2=>cases h
 rename_i el ki n kj m hel
 cases h0:decide (n=m) with
 | false=>rw[h0] at h;cases h
 | true =>
   rw[h0] at h;simp only[cond_true] at h;split at h
   case h_2=>cases h
   rename_i N s z hN hs hz
   cases h1:(kK P el&&Nat.beq z.length (s+1)) with
   | false=>rw[h1] at h;cases h
   | true =>
     rw[h1] at h;cases h;exact⟨_,rfl,fun _=>by simp only[hel,h0,cond_true,hN,hs,hz,h1];rfl⟩
theorem q49 {o:Oper}{env:List PV}{k:Nat}{ph ph1:PHp}{v:PV}(ho:okE o=true)(h:sS P o env k ph=some (v,ph1)):Loc (RC o k env) (sS P o env k) ph v ph1:=by
 obtain⟨d,op,ty,pos,aft,g⟩:=o;unfold okE at ho;have dl:∀ {x:Operand},x∈op.operands->∀ l∈dl1 (qJ env x),l∈dlO ⟨d,op,ty,pos,aft,g⟩ env:=fun hx l hl=>pV (o:=⟨d,op,ty,pos,aft,g⟩) hx hl
 split at ho
 ·rename_i el hop;cases hop;obtain⟨ob,rfl,hf⟩:=qVJ h;exact mR (by simp[RC,needs]) fun ph' _=>hf ph'
 ·rename_i el x hop;cases hop;obtain⟨ob,rfl,hf⟩:=q6S h;exact mR (by simp[RC,needs]) fun ph' _=>hf ph'
 ·rename_i t len parts hop;cases hop;obtain⟨ob,rfl,hf⟩:=qTC h;exact mR (by simp[RC,needs]) fun ph' _=>hf ph'
 ·rename_i t l c hop;cases hop;obtain⟨ob,rfl,hf⟩:=qZI h;exact mR (by simp[RC,needs]) fun ph' _=>hf ph'
 ·rename_i t a x hop;cases hop
  exact qSY (R:=RC ⟨d,.store t a x,ty,pos,aft,g⟩ k env) (fun l hl=>by
   show l∈dlO _ env
   exact dl (x:=a) (by simp[Op.operands]) l hl) h
 ·rename_i args ts hop;cases hop
  have h':(match args.toList.map (qJ env) with
   | [x,y]=>zW P ts.toList x y k ph
   | _=>none)=some (v,ph1):=h
  split at h'
  case h_2=>cases h'
  rename_i x y hxy
  have hm:∀ z∈args.toList,∀ l∈dl1 (qJ env z),l∈RC ⟨d,.call ⟨.builtin .append,args,ts⟩,ty,pos,aft,g⟩ k env:=fun z hz l hl=>by
   refine zM3 _ (dl (x:=z) ?_ l hl);simp[Op.operands,Call.operands,zN9,hz]
  have hx:∀ l∈dl1 x,l∈RC ⟨d,.call ⟨.builtin .append,args,ts⟩,ty,pos,aft,g⟩ k env:=fun l hl=>by
   have:x∈args.toList.map (qJ env):=by rw[hxy];simp
   obtain⟨z,hz,rfl⟩:=zNO.1 this;exact hm z hz l hl
  have hy:∀ l∈dl1 y,l∈RC ⟨d,.call ⟨.builtin .append,args,ts⟩,ty,pos,aft,g⟩ k env:=fun l hl=>by
   have:y∈args.toList.map (qJ env):=by rw[hxy];simp
   obtain⟨z,hz,rfl⟩:=zNO.1 this;exact hm z hz l hl
  have:=qQZ (R:=RC ⟨d,.call ⟨.builtin .append,args,ts⟩,ty,pos,aft,g⟩ k env) (by simp[RC,needs]) hx hy h'
  have e:sS P ⟨d,.call ⟨.builtin .append,args,ts⟩,ty,pos,aft,g⟩ env k=zW P ts.toList x y k:=by
   funext q
   show (match args.toList.map (qJ env) with
    | [x,y]=>zW P ts.toList x y k q
    | _=>none)=_
   rw[hxy]
  rw[e];exact this
 ·cases ho
class Frs where
 fr:FuncId->Option TypeId
 fk:IntKind
instance (priority:=low) zIV:Frs:=⟨fun _=>none,.i64⟩
def isK (k:IntKind):FV->Bool
 | .v (.int k' _)=>decide (k=k')
 | _=>false
def qLG [Frs](P:Program)(el:TypeId)(n:Nat)(cs:List FV):Bool:=match szT P el with
 | some (s+1)=>Nat.beq (n*(s+1)) cs.length&&(Nat.ble n 1048576&&(kK P el&&cs.all (isK Frs.fk)))
 | _=>false
def FrR (el:TypeId)(n:Nat)(cs:List FV)(v:PV)(p:PHp):Prop:=(n=0∧v=.f (.l el 0 []))∨(n≠0∧∃ k0,v=.own k0 n 0 n∧qA k0 p=some ⟨el,true,cs.map .f⟩)
class zFW (P:Program) (G:Nat->Bool) [Frs]:Prop where
 ok:∀ g el,Frs.fr g=some el->enters P g=true∧∀ (n:Nat) (cs:List FV),qLG P el n cs=true->∀ (Z:Nat->Prop) (H:IH) (zFN:List Value),Hp P Z H (fun _=>none)->H.base<=H.size->VRL P Z H (fun _=>none) [.f (.l el n cs)] zFN ->
  gP P G g zFN H fun r=>∃ Z' m' pv p,Hp P Z' r.2 (own m' p)∧VR P Z' r.2 (own m' p) pv r.1∧Step Z H (fun _=>none) Z' r.2 (own m' p)∧FrR el n cs pv p
instance (priority:=low) frsOk0 {G:Nat->Bool}:@zFW _ P G zIV:=by
 letI:Frs:=zIV
 exact⟨fun g el h=>by cases h⟩
def frV (k:Nat)(el:TypeId):Nat->PV
 | 0=>.f (.l el 0 [])
 | n+1=>.own k (n+1) 0 (n+1)
def frH (k:Nat)(el:TypeId)(cs:List FV)(ph:PHp):Nat->PHp
 | 0=>ph
 | _+1=>(k,⟨el,true,cs.map .f⟩)::ph
theorem qH5 {b:Nat}:¬ bV (fun _=>none) b:=fun ⟨_,_,h,_⟩=>by cases h
theorem q0F [Frs][zFW P G]{Z:Nat->Prop}{H:IH}{m:Nat->Nat}{ph:PHp}{F:Fence}(hF:aV F){o:Oper}{env:List PV}{zFA:Env}{f:Inj}{a:Act}{w:World}{g:FuncId}{x:Operand}{zFO:Array Operand}{ts:Array TypeId}{el:TypeId}{n k:Nat}{cs:List FV}(hR:Rel P f H w)(hG:uY G f)(zFI:qE P f zFA a.tmps.toList)
 (hok:o.op.operands.toList.all (kR (qX f))=true) (hp:Hp P Z H (own m ph)) (hb:H.base<=H.size) (he:VRL P Z H (own m ph) env zFA) (hop:o.op=.call ⟨.value x,zFO,ts⟩) (ht:target (qJ env x) (zFO.toList.map (qJ env))=some (g,[.f (.l el n cs)])) (hfr:Frs.fr g=some el) (hfo:qLG P el n cs=true)
 (hfresh:n≠0->fresh nm k env ph=true) {K:Act->World->Prop} {Qx:Exit->Act->World->Prop}
 (hK:∀ (Z':Nat->Prop) (m':Nat->Nat) (u:Value) (H':IH) (f':Inj) (v':Value) (w':World),Hp P Z' H' (own m' (frH k el cs ph n))->VR P Z' H' (own m' (frH k el cs ph n)) (frV k el n) u->VRL P Z' H' (own m' (frH k el cs ph n)) env zFA->Step Z H (own m ph) Z' H' (own m' (frH k el cs ph n))->KR (inP nm) (own m ph) (own m' (frH k el cs ph n)) ->
   Rel P f' H' w'->Grow f H w f' H' w'->zFB P f' u v'->K (a.put o.dst v') w'):o.wpIn F 0 P a w K Qx:=by
 obtain⟨hent,hc⟩:=zFW.ok (P:=P) (G:=G) g el hfr;obtain⟨zFN,q1,q2⟩:=nD (o:=o) (ts:=ts) he ht hent
 have q3:VRL P Z H (fun _=>none) [.f (.l el n cs)] zFN:=by
  obtain⟨v,vs,rfl,r1,r2⟩:=q2.zFD;rw[r2.zFF]
  cases r1 with
  | f r1=>exact .cons (.f r1) .nil
 have hci:=hc n cs hfo Z H zFN ⟨hp.zlt,fun _ _ _ h=>(by cases h),fun _ _ _ _ _ _ h=>(by cases h),hp.gl⟩ hb q3;refine vW (run:=jF) (nat:=d9 g zFN H _) (G:=G) hF (qDQ (qT8 hci)) rF hR hG zFI hok (Q:=fun r=>∃ Z' m' pv p,Hp P Z' r.2 (own m' p)∧VR P Z' r.2 (own m' p) pv r.1∧Step Z H (fun _=>none) Z' r.2 (own m' p)∧FrR el n cs pv p) ?_ ?_
 ·have:iop P o zFA H=some (.enter g zFN H):=by
   unfold iop;rw[hop];exact q1
  unfold rU;rw[this];show (yJ jF (d9 g zFN H _) g zFN H).holds _;rw[qMN];intro r hr;exact hr
 ·rintro⟨u,H'⟩ v' w' f' ⟨Z',m',pv,p,b1,b2,b3,b4⟩ k1 k2 k3
  have zHO:Old H H':=⟨b3.size,b3.base,fun b hb=>b3.keep b hb qH5⟩
  have z2:∀ b,Z' b->b < H.size->Z b:=fun b h hb=>(b3.zGD b h hb).resolve_right qH5
  have hp1:Hp P Z' H' (own m ph):=hp.old zHO b3.zle b1.zlt z2;have he1:VRL P Z' H' (own m ph) env zFA:=he.mono (p:=fun _=>false) b3.zle b3.size (fun b _ hb=>zHO.get b hb) (.refl _ _) (fun j hj=>by cases hj);have st1:Step Z H (own m ph) Z' H' (own m ph):=.old zHO b3.zle z2
  rcases b4 with ⟨rfl,rfl⟩ | ⟨hn,k0,rfl,hk0⟩
  ·refine hK Z' m u H' f' v' w' hp1 ?_ he1 st1 (.refl _ _) k1 k2 k3
   cases b2 with
   | f r=>exact .f r
  ·cases n with
   | zero=>exact absurd rfl hn
   | succ n =>
   obtain⟨f1,f2,f3⟩:=q80 nm (hfresh hn)
   have hcs:cs≠[]:=fun e=>by
    unfold qLG at hfo;split at hfo
    ·rename_i s hs;rw[zMY] at hfo;have:=zMZ hfo.1;rw[e,zPS] at this;simp at this
    ·cases hfo
   let ob:PO:=⟨el,true,cs.map .f⟩
   have zFY:¬ (ob.gr=true∧ob.cs=[]):=fun h=>hcs (by simpa [ob] using h.2)
   obtain⟨x1,x2,x3,x4⟩:m' k0 < H'.size∧H'.base<=m' k0∧¬ Z' (m' k0)∧Lay P Z' H' (own m' p) (m' k0) ob:=(b1.obj k0 (m' k0) ob (qM hk0)).resolve_left zFY;have hge:¬ m' k0 < H.size:=fun h=>qH5 (b3.onew _ ⟨k0,ob,qM hk0,zFY⟩ h)
   let m2:Nat->Nat:=fun j=>if j=k then m' k0 else m j
   have hnew:own m2 ((k,ob)::ph) k=some (m' k0,ob):=by
    show (qA k ((k,ob)::ph)).map _=_;simp[qA,m2]
   have hold:∀ j,j≠k->own m2 ((k,ob)::ph) j=own m ph j:=fun j hj=>by
    unfold own;rw[yG hj];simp only[m2,if_neg hj]
   have hkr:KR (fun j=>j==k) (own m ph) (own m2 ((k,ob)::ph)):=fun j b o hk=>by
    by_cases hj:j=k
    ·exact .inr (.inr (by simp[hj]))
    ·rw[hold j hj] at hk;exact .inl ⟨o,hk,rfl,rfl,rfl⟩
   have mono:∀ {xs:List PV} {vs:List Value},VRL P Z' H' (own m ph) xs vs->zZ k xs=true->VRL P Z' H' (own m2 ((k,ob)::ph)) xs vs:=fun h hn=>h.mono (fun _ h=>h) (zM0 _) (fun _ _ _=>rfl) hkr fun j hj=>by
    have:j=k:=by simpa using hj
    subst this;exact hn
   have hp2:Hp P Z' H' (own m2 ((k,ob)::ph)):=by
    refine⟨hp1.zlt,fun j b o hk=>?_,fun j j' b b' o o' h1 h2 r1 r2 hne=>?_,hp1.gl⟩
    ·by_cases hj:j=k
     ·subst hj;rw[hnew] at hk;cases hk;exact .inr ⟨x1,x2,x3,x4.mono rfl fun vs hv=>FRL.map (qBR hv)⟩
     ·rw[hold j hj] at hk
      rcases hp1.obj j b o hk with h | ⟨a1,a2,a3,a4⟩
      ·exact .inl h
      ·exact .inr ⟨a1,a2,a3,a4.mono rfl fun _ a5=>mono a5 (jX f3 (vL hk).1)⟩
    ·have lt:∀ {i c q},own m ph i=some (c,q)->¬ (q.gr=true∧q.cs=[])->c < H.size:=fun h r=>((hp.obj _ _ _ h).resolve_left r).1
     by_cases hj:j=k
     ·subst hj;rw[hnew] at h1;cases h1;rw[hold j' (Ne.symm hne)] at h2;intro e;exact hge (e ▸ lt h2 r2)
     ·rw[hold j hj] at h1;by_cases hj':j'=k
      ·subst hj';rw[hnew] at h2;cases h2;intro e;exact hge (e ▸ lt h1 r1)
      ·rw[hold j' hj'] at h2;exact hp1.inj j j' b b' o o' h1 h2 r1 r2 hne
   have hv2:VR P Z' H' (own m2 ((k,ob)::ph)) (.own k (n+1) 0 (n+1)) u:=by
    cases b2 with
    | own y1 y2 =>
      refine .own y1 fun b o hM=>?_
      rw[hnew] at hM;cases hM;exact y2 _ _ (qM hk0)
   have zL1:Step Z H (own m ph) Z' H' (own m2 ((k,ob)::ph)):=⟨b3.size,b3.base,b3.zle,fun b hb _=>zHO.get b hb,fun b h hb=>.inl (z2 b h hb),fun b ⟨j,o,h1,h2⟩ hb=>by
    by_cases hj:j=k
    ·subst hj;rw[hnew] at h1;cases h1;exact absurd hb hge
    ·rw[hold j hj] at h1;exact⟨j,o,h1,h2⟩⟩
   have zL2:KR (inP nm) (own m ph) (own m2 ((k,ob)::ph)):=hkr.up fun j hj=>by
    rw[show j=k by simpa using hj];exact f1
   exact hK Z' m2 u H' f' v' w' hp2 hv2 (mono he1 f2) zL1 zL2 k1 k2 k3
theorem q5W [Frs][zFW P G]{Z:Nat->Prop}{H:IH}{m:Nat->Nat}{ph ph1:PHp}{F:Fence}(hF:aV F){o:Oper}{env:List PV}{zFA:Env}{f:Inj}{a:Act}{w:World}{g:FuncId}{x:Operand}{zFO:Array Operand}{ts:Array TypeId}{el:TypeId}{n:Nat}{cs:List FV}{as:List PV}(hR:Rel P f H w)(hG:uY G f)(zFI:qE P f zFA a.tmps.toList)
 (hok:o.op.operands.toList.all (kR (qX f))=true) (hp:Hp P Z H (own m ph)) (hb:H.base<=H.size) (he:VRL P Z H (own m ph) env zFA) (hop:o.op=.call ⟨.value x,zFO,ts⟩) (ht:target (qJ env x) (zFO.toList.map (qJ env))=some (g,as)) (hfr:Frs.fr g=some el) (hfo:qLG P el n cs=true) (hfz:fzA P as ph=some ([.f (.l el n cs)],ph1))
 {K:Act->World->Prop} {Qx:Exit->Act->World->Prop}
 (hK:∀ (Z':Nat->Prop) (m':Nat->Nat) (u:Value) (H':IH) (f':Inj) (v':Value) (w':World),Hp P Z' H' (own m' ph)->VR P Z' H' (own m' ph) (.f (.l el n cs)) u->VRL P Z' H' (own m' ph) env zFA->Step Z H (own m ph) Z' H' (own m' ph)->KR (inP nm) (own m ph) (own m' ph) ->
   Rel P f' H' w'->Grow f H w f' H' w'->zFB P f' u v'->K (a.put o.dst v') w'):o.wpIn F 0 P a w K Qx:=by
 obtain⟨hent,hc⟩:=zFW.ok (P:=P) (G:=G) g el hfr;obtain⟨zFN,q1,q2⟩:=nD (o:=o) (ts:=ts) he ht hent;obtain⟨Z1,c1,q3⟩:=qJE hp q2 hfz;have hci:=hc n cs hfo Z1 H zFN ⟨c1.hp.zlt,fun _ _ _ h=>(by cases h),fun _ _ _ _ _ _ h=>(by cases h),c1.hp.gl⟩ hb q3
 obtain⟨s,hs,hlen⟩:∃ s,szT P el=some (s+1)∧n*(s+1)=cs.length:=by
  unfold qLG at hfo;split at hfo
  ·rename_i s hs;rw[zMY] at hfo;exact⟨s,hs,zMZ hfo.1⟩
  ·cases hfo
 refine vW (run:=jF) (nat:=d9 g zFN H _) (G:=G) hF (qDQ (qT8 hci)) rF hR hG zFI hok (Q:=fun r=>∃ Z' m' pv p,Hp P Z' r.2 (own m' p)∧VR P Z' r.2 (own m' p) pv r.1∧Step Z1 H (fun _=>none) Z' r.2 (own m' p)∧FrR el n cs pv p) ?_ ?_
 ·have:iop P o zFA H=some (.enter g zFN H):=by
   unfold iop;rw[hop];exact q1
  unfold rU;rw[this];show (yJ jF (d9 g zFN H _) g zFN H).holds _;rw[qMN];intro r hr;exact hr
 ·rintro⟨u,H'⟩ v' w' f' ⟨Z',m',pv,p,b1,b2,b3,b4⟩ k1 k2 k3
  have zHO:Old H H':=⟨b3.size,b3.base,fun b hb=>b3.keep b hb qH5⟩
  have fin:∀ Z2:Nat->Prop,(∀ b,Z b->Z2 b)->(∀ b,Z2 b->b < H'.size)->(∀ b,Z2 b->b < H.size->Z b)->FR Z2 H' (.l el n cs) u->K (a.put o.dst v') w':=fun Z2 z1 z2 z3 hu =>
   hK Z2 m u H' f' v' w' (hp.old zHO z1 z2 z3) (.f hu) (he.mono (p:=fun _=>false) z1 b3.size (fun b _ hb=>zHO.get b hb) (.refl _ _) (fun j hj=>by cases hj)) (.old zHO z1 z3) (.refl _ _) k1 k2 k3
  rcases b4 with ⟨rfl,rfl⟩ | ⟨hn,k0,rfl,hk0⟩
  ·have hcs:cs=[]:=zN7.1 (by omega);subst hcs;refine fin Z (fun _ h=>h) (fun b h=>zM4 (hp.zlt b h) b3.size) (fun _ h _=>h) ?_
   cases b2 with
   | f r =>
     cases r with
     | nil h0 h1=>exact .nil h0 h1
     | l hz hb hn hsp hl hc=>exact .nil (fun h=>by cases h) fun x h=>by cases h;exact hsp
  ·let ob:PO:=⟨el,true,cs.map .f⟩
   have hne:cs≠[]:=fun e=>by
    rw[e,zQ8,Nat.mul_succ] at hlen;omega
   have zFY:real ob:=fun h=>hne (by simpa [ob] using h.2)
   obtain⟨x1,x2,x3,vs,y1,y2,y3⟩:=b1.real hk0 zFY (xR hs);have hge:¬ m' k0 < H.size:=fun h=>qH5 (b3.onew _ ⟨k0,ob,qM hk0,zFY⟩ h)
   obtain⟨hO,_⟩:=vV b2 hk0 hs (by show n*(s+1)=(cs.map PV.f).length;rw[zNA];exact hlen)
   rcases hO with ⟨_,h0,_⟩ | ⟨_,_,_,rfl⟩
   ·exact absurd h0 hn
   ·have hv:=qBR y2;refine fin (fun b=>Z b∨b=m' k0) (fun _ h=>.inl h) (fun b h=>?_) (fun b h hb=>?_) ?_
    ·rcases h with h | rfl
     ·exact zM4 (hp.zlt b h) b3.size
     ·exact x1
    ·rcases h with h | rfl
     ·exact h
     ·exact absurd hb hge
    ·refine .l (vs:=vs) (.inr rfl) x1 (by omega) (.inr rfl) ?_ fun i z v h1 h2=>?_
     ·exact xK y1 (by rw[hv.len];omega) (by rw[zQE,zOH,hv.len,zPE])
     ·have hz:=hv.val i z v h1 h2
      have hk:isK Frs.fk z=true:=by
       unfold qLG at hfo;rw[hs] at hfo;simp only[zMY] at hfo;exact zM1.1 hfo.2.2.2 z (zN5 h1)
      unfold isK at hk;split at hk
      ·cases hz with
       | v a b=>exact .v a b
      ·cases hk
end Go.Idl
