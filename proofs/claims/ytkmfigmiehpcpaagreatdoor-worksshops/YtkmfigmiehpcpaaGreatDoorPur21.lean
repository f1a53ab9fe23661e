/- Regions that draw their order, whose operations commute: whatever the order. Conditions: none. -/
import Derived.Test.YtkmfigmiehpcpaaGreatDoorPur19
set_option linter.all false
namespace Go.Idl
variable [Gc]
variable {P:Program}{G:Nat->Bool}{nat:xK}{tab:uN}{nm:Nm}{good:FuncId->Bool}{rd:Bool}
def okE (o:Oper):Bool:=match o.op with
 | .alloc _ | .box _ _ | .buildSlice _ _ _ | .makeSlice _ _ _ | .store _ _ _=>true
 | .call ⟨.builtin .append,_,_⟩=>true
 | _=>false
noncomputable def RC (o:Oper)(k:Nat)(env:List PV):List Nat:=cond (needs o.op) (k::dlO o env) (dlO o env)
def Loc (R:List Nat)(f:PHp->Option (PV×PHp))(ph:PHp)(v:PV)(ph1:PHp):Prop :=
 (∀ l,(qB l ph).isSome=true->(qB l ph1).isSome=true)∧(∀ l,l ∉ R->qB l ph1=qB l ph) ∧
   ∀ ph',(∀ l,l∈R->qB l ph'=qB l ph)->∃ zHY,f ph'=some (v,zHY)∧∀ l,(l∈R->qB l zHY=qB l ph1)∧(l ∉ R->qB l zHY=qB l ph')
theorem mO {R:List Nat}{f:PHp->Option (PV×PHp)}{ph:PHp}{v:PV}{k:Nat}{ob:PO}(hk:k∈R)(h:∀ ph',(∀ l,l∈R->qB l ph'=qB l ph)->f ph'=some (v,(k,ob)::ph')):Loc R f ph v ((k,ob)::ph):=by
 have at_:∀ (l:Nat) (q:PHp),qB l ((k,ob)::q)=if l=k then some ob else qB l q:=fun l q=>by
  by_cases e:l=k
  ·subst e;rw[if_pos rfl];simp[qB]
  ·rw[if_neg e,yJ e]
 refine⟨fun l hl=>?_,fun l hl=>?_,fun ph' hd=>⟨_,h ph' hd,fun l=>⟨fun hl=>?_,fun hl=>?_⟩⟩⟩
 ·rw[at_];split
  ·rfl
  ·exact hl
 ·rw[at_,if_neg (fun e:l=k=>hl (e ▸ hk))]
 ·rw[at_,at_,hd l hl]
 ·rw[at_,if_neg (fun e:l=k=>hl (e ▸ hk))]
theorem qQ2 {R:List Nat}{f:PHp->Option (PV×PHp)}{ph:PHp}{v:PV}(h:∀ ph',(∀ l,l∈R->qB l ph'=qB l ph)->f ph'=some (v,ph')):Loc R f ph v ph :=
 ⟨fun _ h=>h,fun _ _=>rfl,fun ph' hd=>⟨ph',h ph' hd,fun l=>⟨fun hl=>hd l hl,fun _=>rfl⟩⟩⟩
theorem qU3 {R:List Nat}{f:PHp->Option (PV×PHp)}{ph:PHp}{v:PV}{j:Nat}{ob:PO}(hj:j∈R)(h:∀ ph',(∀ l,l∈R->qB l ph'=qB l ph)->f ph'=some (v,xY j ob ph')):Loc R f ph v (xY j ob ph):=by
 refine⟨fun l hl=>?_,fun l hl=>?_,fun ph' hd=>⟨_,h ph' hd,fun l=>⟨fun hl=>?_,fun hl=>?_⟩⟩⟩
 ·rw[zF];split
  ·rfl
  ·exact hl
 ·rw[zF,if_neg (fun e:l=j∧_=>hl (e.1 ▸ hj))]
 ·rw[zF,zF,hd j hj,hd l hl]
 ·rw[zF,if_neg (fun e:l=j∧_=>hl (e.1 ▸ hj))]
theorem qY2 {R:List Nat}{f:PHp->Option (PV×PHp)}{ph:PHp}{v:PV}{j:Nat}{ob:PO}(hj:j∈R)(h:∀ ph',(∀ l,l∈R->qB l ph'=qB l ph)->f ph'=some (v,(j,ob)::nC j ph')):Loc R f ph v ((j,ob)::nC j ph):=by
 have at_:∀ (l:Nat) (q:PHp),qB l ((j,ob)::nC j q)=if l=j then some ob else qB l q:=fun l q=>by
  by_cases e:l=j
  ·subst e;rw[if_pos rfl];simp[qB]
  ·rw[if_neg e,yJ e,xB,if_neg e]
 refine⟨fun l hl=>?_,fun l hl=>?_,fun ph' hd=>⟨_,h ph' hd,fun l=>⟨fun hl=>?_,fun hl=>?_⟩⟩⟩
 ·rw[at_];split
  ·rfl
  ·exact hl
 ·rw[at_,if_neg (fun e:l=j=>hl (e ▸ hj))]
 ·rw[at_,at_,hd l hl]
 ·rw[at_,if_neg (fun e:l=j=>hl (e ▸ hj))]
theorem q4D {s:Nat}{x:PV}{ph ph':PHp}(h:∀ l∈dl1 x,qB l ph'=qB l ph):mW P s x ph'=mW P s x ph:=by
 unfold mW
 cases x with
 | own k t o n=>simp only[h k (by simp[dl1])]
 | f y=>cases y with
   | l=>rfl
   | v x=>cases x with
     | slice a n c=>cases a with
       | none=>cases n <;> rfl
       | some _=>rfl
     | _=>rfl
 | _=>rfl
theorem qB2 {R:List Nat}{el:TypeId}{s:Nat}{old:List PV}{n:Nat}{new:List PV}{m k:Nat}{ph ph1:PHp}{v:PV}(h:nS P el s old n new m k ph=some (v,ph1)):∃ ob,ph1=(k,ob)::ph∧∀ ph',nS P el s old n new m k ph'=some (v,(k,ob)::ph'):=by
 unfold nS at h ⊢
 cases hc:(Nat.ble (n+m) 1048576&&(kT P el&&(Nat.beq (old.length) (n*s)&&(Nat.beq new.length (m*s)&&new.all aF)))) with
 | false=>rw[hc] at h;cases h
 | true =>
   rw[hc] at h;cases h;exact⟨_,rfl,fun _=>rfl⟩
theorem qR2 {R:List Nat}{ts:List TypeId}{base x:PV}{k:Nat}{ph ph1:PHp}{v:PV}(hk:k∈R)(hb:∀ l∈dl1 base,l∈R)(hx:∀ l∈dl1 x,l∈R)(h:zY P ts base x k ph=some (v,ph1)):Loc R (zY P ts base x k) ph v ph1:=by
 have key:∀ ph',(∀ l,l∈R->qB l ph'=qB l ph)->∀ s,mW P s x ph'=mW P s x ph:=fun ph' hd s=>q4D fun l hl=>hd l (hx l hl)
 unfold zY at h;split at h
 case h_2=>cases h
 rename_i st xt;split at h
 case h_2=>cases h
 rename_i el el2 h1 h2;split at h
 case h_2=>cases h
 rename_i s h3;split at h
 case h_2=>cases h
 rename_i m new h4;split at h
 ·cases hm:Nat.beq m 0 with
  | true =>
    rw[hm] at h;cases h;refine qQ2 fun ph' hd=>?_
    unfold zY;simp only[h1,h2,h3,key ph' hd,h4,hm,cond_true]
  | false =>
    rw[hm] at h;obtain⟨ob,rfl,hg⟩:=qB2 (R:=R) h;refine mO hk fun ph' hd=>?_
    unfold zY;simp only[h1,h2,h3,key ph' hd,h4,hm,cond_false];exact hg ph'
 ·rename_i j tt o n;have hj:j∈R:=hb j (by simp[dl1]);split at h
  case h_2=>cases h
  rename_i ob hob;have zIQ:∀ ph',(∀ l,l∈R->qB l ph'=qB l ph)->qB j ph'=some ob:=fun ph' hd=>(hd j hj).trans hob
  cases hc:(Nat.beq ob.el el&&(Nat.beq (tt*(s+1)) ob.cs.length&&Nat.beq o 0)) with
  | false=>rw[hc] at h;cases h
  | true =>
    rw[hc] at h;simp only[cond_true] at h
    cases hm:Nat.beq m 0 with
    | true =>
      rw[hm] at h;cases h;refine qQ2 fun ph' hd=>?_
      unfold zY;simp only[h1,h2,h3,key ph' hd,h4,zIQ ph' hd,hc,hm,cond_true]
    | false =>
      rw[hm] at h;simp only[cond_false] at h
      cases hle:Nat.ble (n+m) tt with
      | true =>
        rw[hle] at h;simp only[cond_true] at h
        cases hc2:(Nat.beq new.length (m*(s+1))&&new.all aF) with
        | false=>rw[hc2] at h;cases h
        | true =>
          rw[hc2] at h;cases h;refine qU3 hj fun ph' hd=>?_
          unfold zY;simp only[h1,h2,h3,key ph' hd,h4,zIQ ph' hd,hc,hm,hle,hc2,cond_true,cond_false]
      | false =>
        rw[hle] at h;simp only[cond_false] at h
        cases hnt:Nat.beq n tt with
        | false=>rw[hnt] at h;cases h
        | true =>
          rw[hnt] at h;simp only[cond_true] at h
          cases hgr:ob.gr with
          | true =>
            rw[hgr] at h;simp only[cond_true] at h;obtain⟨ob2,rfl,hg⟩:=qB2 (R:=R) h;refine qY2 hj fun ph' hd=>?_
            unfold zY;simp only[h1,h2,h3,key ph' hd,h4,zIQ ph' hd,hc,hm,hle,hnt,hgr,cond_true,cond_false];exact hg _
          | false =>
            rw[hgr] at h;simp only[cond_false] at h;obtain⟨ob2,rfl,hg⟩:=qB2 (R:=R) h;refine mO hk fun ph' hd=>?_
            unfold zY;simp only[h1,h2,h3,key ph' hd,h4,zIQ ph' hd,hc,hm,hle,hnt,hgr,cond_true,cond_false];exact hg _
 ·cases h
theorem qW4 {R:List Nat}{t:TypeId}{a x:PV}{ph ph1:PHp}{v:PV}(ha:∀ l∈dl1 a,l∈R)(h:ppS (jG P t a x ph)=some (v,ph1)):Loc R (fun ph=>ppS (jG P t a x ph)) ph v ph1:=by
 unfold ppS at h;split at h
 case h_2=>cases h
 rename_i ph2 hs;cases h;unfold jG at hs;split at hs
 case h_2=>cases hs
 rename_i k tt off;have hk:k∈R:=ha k (by simp[dl1]);split at hs
 case h_2=>cases hs
 rename_i ob hob;split at hs
 case h_2=>cases hs
 rename_i n hn
 cases h1:spec P ob.el with
 | true=>rw[h1] at hs;cases hs
 | false =>
   rw[h1] at hs;simp only[cond_false] at hs
   cases h2:(Nat.beq tt ob.cs.length&&(Nat.beq n (zG x).length&&(Nat.ble (off+n) ob.cs.length&&(pnt x&&(zG x).all aF)))) with
   | false=>rw[h2] at hs;cases hs
   | true =>
     rw[h2] at hs;cases hs;refine qU3 hk fun ph' hd=>?_
     unfold jG;simp only[(hd k hk).trans hob,hn,h1,cond_false,h2,cond_true];rfl
theorem qVZ {el:TypeId}{k:Nat}{ph ph1:PHp}{v:PV}(h:dU P el k ph=some (v,ph1)):∃ ob,ph1=(k,ob)::ph∧∀ ph',dU P el k ph'=some (v,(k,ob)::ph'):=by
 unfold dU at h ⊢;split at h
 case h_2=>cases h
 rename_i z hz
 cases h1:spec P el with
 | true=>rw[h1] at h;cases h
 | false =>
   rw[h1] at h;cases h;exact⟨_,rfl,fun _=>by simp only[cond_false];rfl⟩
theorem q7H {el:TypeId}{x:PV}{k:Nat}{ph ph1:PHp}{v:PV}(h:qZW P el x k ph=some (v,ph1)):∃ ob,ph1=(k,ob)::ph∧∀ ph',qZW P el x k ph'=some (v,(k,ob)::ph'):=by
 unfold qZW at h ⊢
 cases h1:(!(spec P el)&&(pnt x&&(zG x).all aF)) with
 | false=>rw[h1] at h;cases h
 | true =>
   rw[h1] at h;cases h;exact⟨_,rfl,fun _=>rfl⟩
theorem qYC {t:TypeId}{len:Nat}{parts:List (Nat×PV)}{k:Nat}{ph ph1:PHp}{v:PV}(h:yA P t len parts k ph=some (v,ph1)):∃ ob,ph1=(k,ob)::ph∧∀ ph',yA P t len parts k ph'=some (v,(k,ob)::ph'):=by
 unfold yA at h ⊢;split at h
 case h_2=>cases h
 rename_i el hel;split at h
 case h_2=>cases h
 rename_i s z hs hz
 cases h1:(Nat.beq z.length (s+1)&&Nat.ble (len*(s+1)) 65536) with
 | false=>rw[h1] at h;cases h
 | true =>
   rw[h1] at h;simp only[cond_true] at h;split at h
   case h_2=>cases h
   rename_i cs hcs;cases h;exact⟨_,rfl,fun _=>by simp only[hel,hs,hz,h1,cond_true,hcs];rfl⟩
theorem qYX {t:TypeId}{l c:PV}{k:Nat}{ph ph1:PHp}{v:PV}(h:xC P t l c k ph=some (v,ph1)):∃ ob,ph1=(k,ob)::ph∧∀ ph',xC P t l c k ph'=some (v,(k,ob)::ph'):=by
 unfold xC at h ⊢;split at h
 case h_2=>cases h
 rename_i el ki n kj m hel
 cases h0:decide (n=m) with
 | false=>rw[h0] at h;cases h
 | true =>
   rw[h0] at h;simp only[cond_true] at h;split at h
   case h_2=>cases h
   rename_i N s z hN hs hz
   cases h1:(kT P el&&Nat.beq z.length (s+1)) with
   | false=>rw[h1] at h;cases h
   | true =>
     rw[h1] at h;cases h;exact⟨_,rfl,fun _=>by simp only[hel,h0,cond_true,hN,hs,hz,h1];rfl⟩
theorem q7M {o:Oper}{env:List PV}{k:Nat}{ph ph1:PHp}{v:PV}(ho:okE o=true)(h:sP P o env k ph=some (v,ph1)):Loc (RC o k env) (sP P o env k) ph v ph1:=by
 obtain⟨d,op,ty,pos,aft,g⟩:=o;unfold okE at ho;have dl:∀ {x:Operand},x∈op.operands->∀ l∈dl1 (qK env x),l∈dlO ⟨d,op,ty,pos,aft,g⟩ env:=fun hx l hl=>pE (o:=⟨d,op,ty,pos,aft,g⟩) hx hl
 split at ho
 ·rename_i el hop;cases hop;obtain⟨ob,rfl,hf⟩:=qVZ h;exact mO (by simp[RC,needs]) fun ph' _=>hf ph'
 ·rename_i el x hop;cases hop;obtain⟨ob,rfl,hf⟩:=q7H h;exact mO (by simp[RC,needs]) fun ph' _=>hf ph'
 ·rename_i t len parts hop;cases hop;obtain⟨ob,rfl,hf⟩:=qYC h;exact mO (by simp[RC,needs]) fun ph' _=>hf ph'
 ·rename_i t l c hop;cases hop;obtain⟨ob,rfl,hf⟩:=qYX h;exact mO (by simp[RC,needs]) fun ph' _=>hf ph'
 ·rename_i t a x hop;cases hop
  exact qW4 (R:=RC ⟨d,.store t a x,ty,pos,aft,g⟩ k env) (fun l hl=>by
   show l∈dlO _ env
   exact dl (x:=a) (by simp[Op.operands]) l hl) h
 ·rename_i args ts hop;cases hop
  have h':(match args.toList.map (qK env) with
   | [x,y]=>zY P ts.toList x y k ph
   | _=>none)=some (v,ph1):=h
  split at h'
  case h_2=>cases h'
  rename_i x y hxy
  have hm:∀ z∈args.toList,∀ l∈dl1 (qK env z),l∈RC ⟨d,.call ⟨.builtin .append,args,ts⟩,ty,pos,aft,g⟩ k env:=fun z hz l hl=>by
   refine zNZ _ (dl (x:=z) ?_ l hl);simp[Op.operands,Call.operands,zO6,hz]
  have hx:∀ l∈dl1 x,l∈RC ⟨d,.call ⟨.builtin .append,args,ts⟩,ty,pos,aft,g⟩ k env:=fun l hl=>by
   have:x∈args.toList.map (qK env):=by rw[hxy];simp
   obtain⟨z,hz,rfl⟩:=zOJ.1 this;exact hm z hz l hl
  have hy:∀ l∈dl1 y,l∈RC ⟨d,.call ⟨.builtin .append,args,ts⟩,ty,pos,aft,g⟩ k env:=fun l hl=>by
   have:y∈args.toList.map (qK env):=by rw[hxy];simp
   obtain⟨z,hz,rfl⟩:=zOJ.1 this;exact hm z hz l hl
  have:=qR2 (R:=RC ⟨d,.call ⟨.builtin .append,args,ts⟩,ty,pos,aft,g⟩ k env) (by simp[RC,needs]) hx hy h'
  have e:sP P ⟨d,.call ⟨.builtin .append,args,ts⟩,ty,pos,aft,g⟩ env k=zY P ts.toList x y k:=by
   funext q
   show (match args.toList.map (qK env) with
    | [x,y]=>zY P ts.toList x y k q
    | _=>none)=_
   rw[hxy]
  rw[e];exact this
 ·cases ho
class Frs where
 fr:FuncId->Option TypeId
 fk:IntKind
instance (priority:=low) zHZ:Frs:=⟨fun _=>none,.i64⟩
def isK (k:IntKind):FV->Bool
 | .v (.int k' _)=>decide (k=k')
 | _=>false
def qK5 [Frs](P:Program)(el:TypeId)(n:Nat)(cs:List FV):Bool:=match szT P el with
 | some (s+1)=>Nat.beq (n*(s+1)) cs.length&&(Nat.ble n 1048576&&(kT P el&&cs.all (isK Frs.fk)))
 | _=>false
def FrR (el:TypeId)(n:Nat)(cs:List FV)(v:PV)(p:PHp):Prop:=(n=0∧v=.f (.l el 0 []))∨(n≠0∧∃ k0,v=.own k0 n 0 n∧qB k0 p=some ⟨el,true,cs.map .f⟩)
class zEZ (P:Program) (G:Nat->Bool) [Frs]:Prop where
 ok:∀ g el,Frs.fr g=some el->enters P g=true∧∀ (n:Nat) (cs:List FV),qK5 P el n cs=true->∀ (Z:Nat->Prop) (H:IH) (zER:List Value),Hp P Z H (fun _=>none)->H.base<=H.size->VRL P Z H (fun _=>none) [.f (.l el n cs)] zER ->
  uU P G g zER H fun r=>∃ Z' m' pv p,Hp P Z' r.2 (own m' p)∧VR P Z' r.2 (own m' p) pv r.1∧Step Z H (fun _=>none) Z' r.2 (own m' p)∧FrR el n cs pv p
instance (priority:=low) frsOk0 {G:Nat->Bool}:@zEZ _ P G zHZ:=by
 letI:Frs:=zHZ
 exact⟨fun g el h=>by cases h⟩
def frV (k:Nat)(el:TypeId):Nat->PV
 | 0=>.f (.l el 0 [])
 | n+1=>.own k (n+1) 0 (n+1)
def frH (k:Nat)(el:TypeId)(cs:List FV)(ph:PHp):Nat->PHp
 | 0=>ph
 | _+1=>(k,⟨el,true,cs.map .f⟩)::ph
theorem qH7 {b:Nat}:¬ dF (fun _=>none) b:=fun ⟨_,_,h,_⟩=>by cases h
theorem q1V [Frs][zEZ P G]{Z:Nat->Prop}{H:IH}{m:Nat->Nat}{ph:PHp}{F:Fence}(hF:aZ F){o:Oper}{env:List PV}{zEE:Env}{f:Inj}{a:Act}{w:World}{g:FuncId}{x:Operand}{zES:Array Operand}{ts:Array TypeId}{el:TypeId}{n k:Nat}{cs:List FV}(hR:Rel P f H w)(hG:uY G f)(zEL:qE P f zEE a.tmps.toList)
 (hok:o.op.operands.toList.all (kW (zB f))=true) (hp:Hp P Z H (own m ph)) (hb:H.base<=H.size) (he:VRL P Z H (own m ph) env zEE) (hop:o.op=.call ⟨.value x,zES,ts⟩) (ht:target (qK env x) (zES.toList.map (qK env))=some (g,[.f (.l el n cs)])) (hfr:Frs.fr g=some el) (hfo:qK5 P el n cs=true)
 (hfresh:n≠0->fresh nm k env ph=true) {K:Act->World->Prop} {Qx:Exit->Act->World->Prop}
 (hK:∀ (Z':Nat->Prop) (m':Nat->Nat) (u:Value) (H':IH) (f':Inj) (v':Value) (w':World),Hp P Z' H' (own m' (frH k el cs ph n))->VR P Z' H' (own m' (frH k el cs ph n)) (frV k el n) u->VRL P Z' H' (own m' (frH k el cs ph n)) env zEE->Step Z H (own m ph) Z' H' (own m' (frH k el cs ph n))->KR (inP nm) (own m ph) (own m' (frH k el cs ph n)) ->
   Rel P f' H' w'->Grow f H w f' H' w'->zEF P f' u v'->K (a.put o.dst v') w'):o.wpIn F 0 P a w K Qx:=by
 obtain⟨hent,hc⟩:=zEZ.ok (P:=P) (G:=G) g el hfr;obtain⟨zER,q1,q2⟩:=nV (o:=o) (ts:=ts) he ht hent
 have q3:VRL P Z H (fun _=>none) [.f (.l el n cs)] zER:=by
  obtain⟨v,vs,rfl,r1,r2⟩:=q2.zEH;rw[r2.zEK]
  cases r1 with
  | f r1=>exact .cons (.f r1) .nil
 have hci:=hc n cs hfo Z H zER ⟨hp.zlt,fun _ _ _ h=>(by cases h),fun _ _ _ _ _ _ h=>(by cases h),hp.gl⟩ hb q3;refine wH (run:=jN) (nat:=dY g zER H _) (G:=G) hF (qET (qTA hci)) pO hR hG zEL hok (Q:=fun r=>∃ Z' m' pv p,Hp P Z' r.2 (own m' p)∧VR P Z' r.2 (own m' p) pv r.1∧Step Z H (fun _=>none) Z' r.2 (own m' p)∧FrR el n cs pv p) ?_ ?_
 ·have:iop P o zEE H=some (.enter g zER H):=by
   unfold iop;rw[hop];exact q1
  unfold rX;rw[this];show (yN jN (dY g zER H _) g zER H).holds _;rw[qLA];intro r hr;exact hr
 ·rintro⟨u,H'⟩ v' w' f' ⟨Z',m',pv,p,b1,b2,b3,b4⟩ k1 k2 k3
  have zGW:Old H H':=⟨b3.size,b3.base,fun b hb=>b3.keep b hb qH7⟩
  have z2:∀ b,Z' b->b < H.size->Z b:=fun b h hb=>(b3.zFE b h hb).resolve_right qH7
  have hp1:Hp P Z' H' (own m ph):=hp.old zGW b3.zle b1.zlt z2;have he1:VRL P Z' H' (own m ph) env zEE:=he.mono (p:=fun _=>false) b3.zle b3.size (fun b _ hb=>zGW.get b hb) (.refl _ _) (fun j hj=>by cases hj);have st1:Step Z H (own m ph) Z' H' (own m ph):=.old zGW b3.zle z2
  rcases b4 with ⟨rfl,rfl⟩ | ⟨hn,k0,rfl,hk0⟩
  ·refine hK Z' m u H' f' v' w' hp1 ?_ he1 st1 (.refl _ _) k1 k2 k3
   cases b2 with
   | f r=>exact .f r
  ·cases n with
   | zero=>exact absurd rfl hn
   | succ n =>
   obtain⟨f1,f2,f3⟩:=q7T nm (hfresh hn)
   have hcs:cs≠[]:=fun e=>by
    unfold qK5 at hfo;split at hfo
    ·rename_i s hs;rw[zNT] at hfo;have:=zNU hfo.1;rw[e,zQN] at this;simp at this
    ·cases hfo
   let ob:PO:=⟨el,true,cs.map .f⟩
   have zE3:¬ (ob.gr=true∧ob.cs=[]):=fun h=>hcs (by simpa [ob] using h.2)
   obtain⟨x1,x2,x3,x4⟩:m' k0 < H'.size∧H'.base<=m' k0∧¬ Z' (m' k0)∧Lay P Z' H' (own m' p) (m' k0) ob:=(b1.obj k0 (m' k0) ob (qO hk0)).resolve_left zE3;have hge:¬ m' k0 < H.size:=fun h=>qH7 (b3.onew _ ⟨k0,ob,qO hk0,zE3⟩ h)
   let m2:Nat->Nat:=fun j=>if j=k then m' k0 else m j
   have hnew:own m2 ((k,ob)::ph) k=some (m' k0,ob):=by
    show (qB k ((k,ob)::ph)).map _=_;simp[qB,m2]
   have hold:∀ j,j≠k->own m2 ((k,ob)::ph) j=own m ph j:=fun j hj=>by
    unfold own;rw[yJ hj];simp only[m2,if_neg hj]
   have hkr:KR (fun j=>j==k) (own m ph) (own m2 ((k,ob)::ph)):=fun j b o hk=>by
    by_cases hj:j=k
    ·exact .inr (.inr (by simp[hj]))
    ·rw[hold j hj] at hk;exact .inl ⟨o,hk,rfl,rfl,rfl⟩
   have mono:∀ {xs:List PV} {vs:List Value},VRL P Z' H' (own m ph) xs vs->yC k xs=true->VRL P Z' H' (own m2 ((k,ob)::ph)) xs vs:=fun h hn=>h.mono (fun _ h=>h) (zNV _) (fun _ _ _=>rfl) hkr fun j hj=>by
    have:j=k:=by simpa using hj
    subst this;exact hn
   have hp2:Hp P Z' H' (own m2 ((k,ob)::ph)):=by
    refine⟨hp1.zlt,fun j b o hk=>?_,fun j j' b b' o o' h1 h2 r1 r2 hne=>?_,hp1.gl⟩
    ·by_cases hj:j=k
     ·subst hj;rw[hnew] at hk;cases hk;exact .inr ⟨x1,x2,x3,x4.mono rfl fun vs hv=>FRL.map (qA2 hv)⟩
     ·rw[hold j hj] at hk
      rcases hp1.obj j b o hk with h | ⟨a1,a2,a3,a4⟩
      ·exact .inl h
      ·exact .inr ⟨a1,a2,a3,a4.mono rfl fun _ a5=>mono a5 (j4 f3 (vQ hk).1)⟩
    ·have lt:∀ {i c q},own m ph i=some (c,q)->¬ (q.gr=true∧q.cs=[])->c < H.size:=fun h r=>((hp.obj _ _ _ h).resolve_left r).1
     by_cases hj:j=k
     ·subst hj;rw[hnew] at h1;cases h1;rw[hold j' (Ne.symm hne)] at h2;intro e;exact hge (e ▸ lt h2 r2)
     ·rw[hold j hj] at h1;by_cases hj':j'=k
      ·subst hj';rw[hnew] at h2;cases h2;intro e;exact hge (e ▸ lt h1 r1)
      ·rw[hold j' hj'] at h2;exact hp1.inj j j' b b' o o' h1 h2 r1 r2 hne
   have hv2:VR P Z' H' (own m2 ((k,ob)::ph)) (.own k (n+1) 0 (n+1)) u:=by
    cases b2 with
    | own y1 y2 =>
      refine .own y1 fun b o hM=>?_
      rw[hnew] at hM;cases hM;exact y2 _ _ (qO hk0)
   have zL1:Step Z H (own m ph) Z' H' (own m2 ((k,ob)::ph)):=⟨b3.size,b3.base,b3.zle,fun b hb _=>zGW.get b hb,fun b h hb=>.inl (z2 b h hb),fun b ⟨j,o,h1,h2⟩ hb=>by
    by_cases hj:j=k
    ·subst hj;rw[hnew] at h1;cases h1;exact absurd hb hge
    ·rw[hold j hj] at h1;exact⟨j,o,h1,h2⟩⟩
   have zL2:KR (inP nm) (own m ph) (own m2 ((k,ob)::ph)):=hkr.up fun j hj=>by
    rw[show j=k by simpa using hj];exact f1
   exact hK Z' m2 u H' f' v' w' hp2 hv2 (mono he1 f2) zL1 zL2 k1 k2 k3
theorem q4M [Frs][zEZ P G]{Z:Nat->Prop}{H:IH}{m:Nat->Nat}{ph ph1:PHp}{F:Fence}(hF:aZ F){o:Oper}{env:List PV}{zEE:Env}{f:Inj}{a:Act}{w:World}{g:FuncId}{x:Operand}{zES:Array Operand}{ts:Array TypeId}{el:TypeId}{n:Nat}{cs:List FV}{as:List PV}(hR:Rel P f H w)(hG:uY G f)(zEL:qE P f zEE a.tmps.toList)
 (hok:o.op.operands.toList.all (kW (zB f))=true) (hp:Hp P Z H (own m ph)) (hb:H.base<=H.size) (he:VRL P Z H (own m ph) env zEE) (hop:o.op=.call ⟨.value x,zES,ts⟩) (ht:target (qK env x) (zES.toList.map (qK env))=some (g,as)) (hfr:Frs.fr g=some el) (hfo:qK5 P el n cs=true) (hfz:fzA P as ph=some ([.f (.l el n cs)],ph1))
 {K:Act->World->Prop} {Qx:Exit->Act->World->Prop}
 (hK:∀ (Z':Nat->Prop) (m':Nat->Nat) (u:Value) (H':IH) (f':Inj) (v':Value) (w':World),Hp P Z' H' (own m' ph)->VR P Z' H' (own m' ph) (.f (.l el n cs)) u->VRL P Z' H' (own m' ph) env zEE->Step Z H (own m ph) Z' H' (own m' ph)->KR (inP nm) (own m ph) (own m' ph) ->
   Rel P f' H' w'->Grow f H w f' H' w'->zEF P f' u v'->K (a.put o.dst v') w'):o.wpIn F 0 P a w K Qx:=by
 obtain⟨hent,hc⟩:=zEZ.ok (P:=P) (G:=G) g el hfr;obtain⟨zER,q1,q2⟩:=nV (o:=o) (ts:=ts) he ht hent;obtain⟨Z1,c1,q3⟩:=qID hp q2 hfz;have hci:=hc n cs hfo Z1 H zER ⟨c1.hp.zlt,fun _ _ _ h=>(by cases h),fun _ _ _ _ _ _ h=>(by cases h),c1.hp.gl⟩ hb q3
 obtain⟨s,hs,hlen⟩:∃ s,szT P el=some (s+1)∧n*(s+1)=cs.length:=by
  unfold qK5 at hfo;split at hfo
  ·rename_i s hs;rw[zNT] at hfo;exact⟨s,hs,zNU hfo.1⟩
  ·cases hfo
 refine wH (run:=jN) (nat:=dY g zER H _) (G:=G) hF (qET (qTA hci)) pO hR hG zEL hok (Q:=fun r=>∃ Z' m' pv p,Hp P Z' r.2 (own m' p)∧VR P Z' r.2 (own m' p) pv r.1∧Step Z1 H (fun _=>none) Z' r.2 (own m' p)∧FrR el n cs pv p) ?_ ?_
 ·have:iop P o zEE H=some (.enter g zER H):=by
   unfold iop;rw[hop];exact q1
  unfold rX;rw[this];show (yN jN (dY g zER H _) g zER H).holds _;rw[qLA];intro r hr;exact hr
 ·rintro⟨u,H'⟩ v' w' f' ⟨Z',m',pv,p,b1,b2,b3,b4⟩ k1 k2 k3
  have zGW:Old H H':=⟨b3.size,b3.base,fun b hb=>b3.keep b hb qH7⟩
  have fin:∀ Z2:Nat->Prop,(∀ b,Z b->Z2 b)->(∀ b,Z2 b->b < H'.size)->(∀ b,Z2 b->b < H.size->Z b)->FR Z2 H' (.l el n cs) u->K (a.put o.dst v') w':=fun Z2 z1 z2 z3 hu =>
   hK Z2 m u H' f' v' w' (hp.old zGW z1 z2 z3) (.f hu) (he.mono (p:=fun _=>false) z1 b3.size (fun b _ hb=>zGW.get b hb) (.refl _ _) (fun j hj=>by cases hj)) (.old zGW z1 z3) (.refl _ _) k1 k2 k3
  rcases b4 with ⟨rfl,rfl⟩ | ⟨hn,k0,rfl,hk0⟩
  ·have hcs:cs=[]:=zO1.1 (by omega);subst hcs;refine fin Z (fun _ h=>h) (fun b h=>zNY (hp.zlt b h) b3.size) (fun _ h _=>h) ?_
   cases b2 with
   | f r =>
     cases r with
     | nil h0 h1=>exact .nil h0 h1
     | l hz hb hn hsp hl hc=>exact .nil (fun h=>by cases h) fun x h=>by cases h;exact hsp
  ·let ob:PO:=⟨el,true,cs.map .f⟩
   have hne:cs≠[]:=fun e=>by
    rw[e,zR1,Nat.mul_succ] at hlen;omega
   have zE3:real ob:=fun h=>hne (by simpa [ob] using h.2)
   obtain⟨x1,x2,x3,vs,y1,y2,y3⟩:=b1.real hk0 zE3 (xZ hs);have hge:¬ m' k0 < H.size:=fun h=>qH7 (b3.onew _ ⟨k0,ob,qO hk0,zE3⟩ h)
   obtain⟨hO,_⟩:=wB b2 hk0 hs (by show n*(s+1)=(cs.map PV.f).length;rw[zN5];exact hlen)
   rcases hO with ⟨_,h0,_⟩ | ⟨_,_,_,rfl⟩
   ·exact absurd h0 hn
   ·have hv:=qA2 y2;refine fin (fun b=>Z b∨b=m' k0) (fun _ h=>.inl h) (fun b h=>?_) (fun b h hb=>?_) ?_
    ·rcases h with h | rfl
     ·exact zNY (hp.zlt b h) b3.size
     ·exact x1
    ·rcases h with h | rfl
     ·exact h
     ·exact absurd hb hge
    ·refine .l (vs:=vs) (.inr rfl) x1 (by omega) (.inr rfl) ?_ fun i z v h1 h2=>?_
     ·exact xR y1 (by rw[hv.len];omega) (by rw[zQ5,zPA,hv.len,zQL])
     ·have hz:=hv.val i z v h1 h2
      have hk:isK Frs.fk z=true:=by
       unfold qK5 at hfo;rw[hs] at hfo;simp only[zNT] at hfo;exact zNW.1 hfo.2.2.2 z (zOX h1)
      unfold isK at hk;split at hk
      ·cases hz with
       | v a b=>exact .v a b
      ·cases hk
end Go.Idl
