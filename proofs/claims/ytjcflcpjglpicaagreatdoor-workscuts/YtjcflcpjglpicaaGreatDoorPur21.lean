/- Regions that draw their order, whose operations commute: whatever the order. Conditions: none. -/
import Derived.Test.YtjcflcpjglpicaaGreatDoorPur19
set_option linter.all false
namespace Go.Idl
variable [Gc]
variable {P:Program}{G:Nat->Bool}{nat:xI}{tab:uU}{nm:Nm}{good:FuncId->Bool}{rd:Bool}
def okE (o:Oper):Bool:=match o.op with
 | .alloc _ | .box _ _ | .buildSlice _ _ _ | .makeSlice _ _ _ | .store _ _ _=>true
 | .call ⟨.builtin .append,_,_⟩=>true
 | _=>false
noncomputable def RC (o:Oper)(k:Nat)(env:List PV):List Nat:=cond (needs o.op) (k::dlO o env) (dlO o env)
def Loc (R:List Nat)(f:PHp->Option (PV×PHp))(ph:PHp)(v:PV)(ph1:PHp):Prop :=
 (∀ l,(qA l ph).isSome=true->(qA l ph1).isSome=true)∧(∀ l,l ∉ R->qA l ph1=qA l ph) ∧
   ∀ ph',(∀ l,l∈R->qA l ph'=qA l ph)->∃ zJW,f ph'=some (v,zJW)∧∀ l,(l∈R->qA l zJW=qA l ph1)∧(l ∉ R->qA l zJW=qA l ph')
theorem nC {R:List Nat}{f:PHp->Option (PV×PHp)}{ph:PHp}{v:PV}{k:Nat}{ob:PO}(hk:k∈R)(h:∀ ph',(∀ l,l∈R->qA l ph'=qA l ph)->f ph'=some (v,(k,ob)::ph')):Loc R f ph v ((k,ob)::ph):=by
 have at_:∀ (l:Nat) (q:PHp),qA l ((k,ob)::q)=if l=k then some ob else qA l q:=fun l q=>by
  by_cases e:l=k
  ·subst e;rw[if_pos rfl];simp[qA]
  ·rw[if_neg e,yF e]
 refine⟨fun l hl=>?_,fun l hl=>?_,fun ph' hd=>⟨_,h ph' hd,fun l=>⟨fun hl=>?_,fun hl=>?_⟩⟩⟩
 ·rw[at_];split
  ·rfl
  ·exact hl
 ·rw[at_,if_neg (fun e:l=k=>hl (e ▸ hk))]
 ·rw[at_,at_,hd l hl]
 ·rw[at_,if_neg (fun e:l=k=>hl (e ▸ hk))]
theorem qP9 {R:List Nat}{f:PHp->Option (PV×PHp)}{ph:PHp}{v:PV}(h:∀ ph',(∀ l,l∈R->qA l ph'=qA l ph)->f ph'=some (v,ph')):Loc R f ph v ph :=
 ⟨fun _ h=>h,fun _ _=>rfl,fun ph' hd=>⟨ph',h ph' hd,fun l=>⟨fun hl=>hd l hl,fun _=>rfl⟩⟩⟩
theorem qYG {R:List Nat}{f:PHp->Option (PV×PHp)}{ph:PHp}{v:PV}{j:Nat}{ob:PO}(hj:j∈R)(h:∀ ph',(∀ l,l∈R->qA l ph'=qA l ph)->f ph'=some (v,xR j ob ph')):Loc R f ph v (xR j ob ph):=by
 refine⟨fun l hl=>?_,fun l hl=>?_,fun ph' hd=>⟨_,h ph' hd,fun l=>⟨fun hl=>?_,fun hl=>?_⟩⟩⟩
 ·rw[qZ];split
  ·rfl
  ·exact hl
 ·rw[qZ,if_neg (fun e:l=j∧_=>hl (e.1 ▸ hj))]
 ·rw[qZ,qZ,hd j hj,hd l hl]
 ·rw[qZ,if_neg (fun e:l=j∧_=>hl (e.1 ▸ hj))]
theorem q3H {R:List Nat}{f:PHp->Option (PV×PHp)}{ph:PHp}{v:PV}{j:Nat}{ob:PO}(hj:j∈R)(h:∀ ph',(∀ l,l∈R->qA l ph'=qA l ph)->f ph'=some (v,(j,ob)::p8 j ph')):Loc R f ph v ((j,ob)::p8 j ph):=by
 have at_:∀ (l:Nat) (q:PHp),qA l ((j,ob)::p8 j q)=if l=j then some ob else qA l q:=fun l q=>by
  by_cases e:l=j
  ·subst e;rw[if_pos rfl];simp[qA]
  ·rw[if_neg e,yF e,xA,if_neg e]
 refine⟨fun l hl=>?_,fun l hl=>?_,fun ph' hd=>⟨_,h ph' hd,fun l=>⟨fun hl=>?_,fun hl=>?_⟩⟩⟩
 ·rw[at_];split
  ·rfl
  ·exact hl
 ·rw[at_,if_neg (fun e:l=j=>hl (e ▸ hj))]
 ·rw[at_,at_,hd l hl]
 ·rw[at_,if_neg (fun e:l=j=>hl (e ▸ hj))]
theorem q6Q {s:Nat}{x:PV}{ph ph':PHp}(h:∀ l∈dl1 x,qA l ph'=qA l ph):nI P s x ph'=nI P s x ph:=by
 unfold nI
 cases x with
 | own k t o n=>simp only[h k (by simp[dl1])]
 | f y=>cases y with
   | l=>rfl
   | v x=>cases x with
     | slice a n c=>cases a with
       | none=>cases n <;> rfl
       | some _=>rfl
     | _=>rfl
 | _=>rfl
theorem qCT {R:List Nat}{el:TypeId}{s:Nat}{old:List PV}{n:Nat}{new:List PV}{m k:Nat}{ph ph1:PHp}{v:PV}(h:nT P el s old n new m k ph=some (v,ph1)):∃ ob,ph1=(k,ob)::ph∧∀ ph',nT P el s old n new m k ph'=some (v,(k,ob)::ph'):=by
 unfold nT at h ⊢
 cases hc:(Nat.ble (n+m) 1048576&&(kZ P el&&(Nat.beq (old.length) (n*s)&&(Nat.beq new.length (m*s)&&new.all aK)))) with
 | false=>rw[hc] at h;cases h
 | true =>
   rw[hc] at h;cases h;exact⟨_,rfl,fun _=>rfl⟩
theorem qTW {R:List Nat}{ts:List TypeId}{base x:PV}{k:Nat}{ph ph1:PHp}{v:PV}(hk:k∈R)(hb:∀ l∈dl1 base,l∈R)(hx:∀ l∈dl1 x,l∈R)(h:zV P ts base x k ph=some (v,ph1)):Loc R (zV P ts base x k) ph v ph1:=by
 have key:∀ ph',(∀ l,l∈R->qA l ph'=qA l ph)->∀ s,nI P s x ph'=nI P s x ph:=fun ph' hd s=>q6Q fun l hl=>hd l (hx l hl)
 unfold zV at h;split at h
 case h_2=>cases h
 rename_i st xt;split at h
 case h_2=>cases h
 rename_i el el2 h1 h2;split at h
 case h_2=>cases h
 rename_i s h3;split at h
 case h_2=>cases h
 rename_i m new h4;split at h
 ·cases hm:Nat.beq m 0 with
  | true =>
    rw[hm] at h;cases h;refine qP9 fun ph' hd=>?_
    unfold zV;simp only[h1,h2,h3,key ph' hd,h4,hm,cond_true]
  | false =>
    rw[hm] at h;obtain⟨ob,rfl,hg⟩:=qCT (R:=R) h;refine nC hk fun ph' hd=>?_
    unfold zV;simp only[h1,h2,h3,key ph' hd,h4,hm,cond_false];exact hg ph'
 ·rename_i j tt o n;have hj:j∈R:=hb j (by simp[dl1]);split at h
  case h_2=>cases h
  rename_i ob hob;have zKO:∀ ph',(∀ l,l∈R->qA l ph'=qA l ph)->qA j ph'=some ob:=fun ph' hd=>(hd j hj).trans hob
  cases hc:(Nat.beq ob.el el&&(Nat.beq (tt*(s+1)) ob.cs.length&&Nat.beq o 0)) with
  | false=>rw[hc] at h;cases h
  | true =>
    rw[hc] at h;simp only[cond_true] at h
    cases hm:Nat.beq m 0 with
    | true =>
      rw[hm] at h;cases h;refine qP9 fun ph' hd=>?_
      unfold zV;simp only[h1,h2,h3,key ph' hd,h4,zKO ph' hd,hc,hm,cond_true]
    | false =>
      rw[hm] at h;simp only[cond_false] at h
      cases hle:Nat.ble (n+m) tt with
      | true =>
        rw[hle] at h;simp only[cond_true] at h
        cases hc2:(Nat.beq new.length (m*(s+1))&&new.all aK) with
        | false=>rw[hc2] at h;cases h
        | true =>
          rw[hc2] at h;cases h;refine qYG hj fun ph' hd=>?_
          unfold zV;simp only[h1,h2,h3,key ph' hd,h4,zKO ph' hd,hc,hm,hle,hc2,cond_true,cond_false]
      | false =>
        rw[hle] at h;simp only[cond_false] at h
        cases hnt:Nat.beq n tt with
        | false=>rw[hnt] at h;cases h
        | true =>
          rw[hnt] at h;simp only[cond_true] at h
          cases hgr:ob.gr with
          | true =>
            rw[hgr] at h;simp only[cond_true] at h;obtain⟨ob2,rfl,hg⟩:=qCT (R:=R) h;refine q3H hj fun ph' hd=>?_
            unfold zV;simp only[h1,h2,h3,key ph' hd,h4,zKO ph' hd,hc,hm,hle,hnt,hgr,cond_true,cond_false];exact hg _
          | false =>
            rw[hgr] at h;simp only[cond_false] at h;obtain⟨ob2,rfl,hg⟩:=qCT (R:=R) h;refine nC hk fun ph' hd=>?_
            unfold zV;simp only[h1,h2,h3,key ph' hd,h4,zKO ph' hd,hc,hm,hle,hnt,hgr,cond_true,cond_false];exact hg _
 ·cases h
theorem qXW {R:List Nat}{t:TypeId}{a x:PV}{ph ph1:PHp}{v:PV}(ha:∀ l∈dl1 a,l∈R)(h:ppS (jQ P t a x ph)=some (v,ph1)):Loc R (fun ph=>ppS (jQ P t a x ph)) ph v ph1:=by
 unfold ppS at h;split at h
 case h_2=>cases h
 rename_i ph2 hs;cases h;unfold jQ at hs;split at hs
 case h_2=>cases hs
 rename_i k tt off;have hk:k∈R:=ha k (by simp[dl1]);split at hs
 case h_2=>cases hs
 rename_i ob hob;split at hs
 case h_2=>cases hs
 rename_i n hn
 cases h1:spec P ob.el with
 | true=>rw[h1] at hs;cases hs
 | false =>
   rw[h1] at hs;simp only[cond_false] at hs
   cases h2:(Nat.beq tt ob.cs.length&&(Nat.beq n (zG x).length&&(Nat.ble (off+n) ob.cs.length&&(pnt x&&(zG x).all aK)))) with
   | false=>rw[h2] at hs;cases hs
   | true =>
     rw[h2] at hs;cases hs;refine qYG hk fun ph' hd=>?_
     unfold jQ;simp only[(hd k hk).trans hob,hn,h1,cond_false,h2,cond_true];rfl
theorem qY7 {el:TypeId}{k:Nat}{ph ph1:PHp}{v:PV}(h:mO P el k ph=some (v,ph1)):∃ ob,ph1=(k,ob)::ph∧∀ ph',mO P el k ph'=some (v,(k,ob)::ph'):=by
 unfold mO at h ⊢;split at h
 case h_2=>cases h
 rename_i z hz
 cases h1:spec P el with
 | true=>rw[h1] at h;cases h
 | false =>
   rw[h1] at h;cases h;exact⟨_,rfl,fun _=>by simp only[cond_false];rfl⟩
theorem q6M {el:TypeId}{x:PV}{k:Nat}{ph ph1:PHp}{v:PV}(h:q29 P el x k ph=some (v,ph1)):∃ ob,ph1=(k,ob)::ph∧∀ ph',q29 P el x k ph'=some (v,(k,ob)::ph'):=by
 unfold q29 at h ⊢
 cases h1:(!(spec P el)&&(pnt x&&(zG x).all aK)) with
 | false=>rw[h1] at h;cases h
 | true =>
   rw[h1] at h;cases h;exact⟨_,rfl,fun _=>rfl⟩
theorem qUP {t:TypeId}{len:Nat}{parts:List (Nat×PV)}{k:Nat}{ph ph1:PHp}{v:PV}(h:yC P t len parts k ph=some (v,ph1)):∃ ob,ph1=(k,ob)::ph∧∀ ph',yC P t len parts k ph'=some (v,(k,ob)::ph'):=by
 unfold yC at h ⊢;split at h
 case h_2=>cases h
 rename_i el hel;split at h
 case h_2=>cases h
 rename_i s z hs hz
 cases h1:(Nat.beq z.length (s+1)&&Nat.ble (len*(s+1)) 65536) with
 | false=>rw[h1] at h;cases h
 | true =>
   rw[h1] at h;simp only[cond_true] at h;split at h
   case h_2=>cases h
   rename_i cs hcs;cases h;exact⟨_,rfl,fun _=>by simp only[hel,hs,hz,h1,cond_true,hcs];rfl⟩
theorem q1V {t:TypeId}{l c:PV}{k:Nat}{ph ph1:PHp}{v:PV}(h:xD P t l c k ph=some (v,ph1)):∃ ob,ph1=(k,ob)::ph∧∀ ph',xD P t l c k ph'=some (v,(k,ob)::ph'):=by
 unfold xD at h ⊢;split at h
 case h_2=>cases h
 rename_i el ki n kj m hel
 cases h0:decide (n=m) with
 | false=>rw[h0] at h;cases h
 | true =>
   rw[h0] at h;simp only[cond_true] at h;split at h
   case h_2=>cases h
   rename_i N s z hN hs hz
   cases h1:(kZ P el&&Nat.beq z.length (s+1)) with
   | false=>rw[h1] at h;cases h
   | true =>
     rw[h1] at h;cases h;exact⟨_,rfl,fun _=>by simp only[hel,h0,cond_true,hN,hs,hz,h1];rfl⟩
theorem q6C {o:Oper}{env:List PV}{k:Nat}{ph ph1:PHp}{v:PV}(ho:okE o=true)(h:rG P o env k ph=some (v,ph1)):Loc (RC o k env) (rG P o env k) ph v ph1:=by
 obtain⟨d,op,ty,pos,aft,g⟩:=o;unfold okE at ho;have dl:∀ {x:Operand},x∈op.operands->∀ l∈dl1 (qK env x),l∈dlO ⟨d,op,ty,pos,aft,g⟩ env:=fun hx l hl=>rU (o:=⟨d,op,ty,pos,aft,g⟩) hx hl
 split at ho
 ·rename_i el hop;cases hop;obtain⟨ob,rfl,hf⟩:=qY7 h;exact nC (by simp[RC,needs]) fun ph' _=>hf ph'
 ·rename_i el x hop;cases hop;obtain⟨ob,rfl,hf⟩:=q6M h;exact nC (by simp[RC,needs]) fun ph' _=>hf ph'
 ·rename_i t len parts hop;cases hop;obtain⟨ob,rfl,hf⟩:=qUP h;exact nC (by simp[RC,needs]) fun ph' _=>hf ph'
 ·rename_i t l c hop;cases hop;obtain⟨ob,rfl,hf⟩:=q1V h;exact nC (by simp[RC,needs]) fun ph' _=>hf ph'
 ·rename_i t a x hop;cases hop
  exact qXW (R:=RC ⟨d,.store t a x,ty,pos,aft,g⟩ k env) (fun l hl=>by
   show l∈dlO _ env
   exact dl (x:=a) (by simp[Op.operands]) l hl) h
 ·rename_i args ts hop;cases hop
  have h':(match args.toList.map (qK env) with
   | [x,y]=>zV P ts.toList x y k ph
   | _=>none)=some (v,ph1):=h
  split at h'
  case h_2=>cases h'
  rename_i x y hxy
  have hm:∀ z∈args.toList,∀ l∈dl1 (qK env z),l∈RC ⟨d,.call ⟨.builtin .append,args,ts⟩,ty,pos,aft,g⟩ k env:=fun z hz l hl=>by
   refine zPS _ (dl (x:=z) ?_ l hl);simp[Op.operands,Call.operands,zQU,hz]
  have hx:∀ l∈dl1 x,l∈RC ⟨d,.call ⟨.builtin .append,args,ts⟩,ty,pos,aft,g⟩ k env:=fun l hl=>by
   have:x∈args.toList.map (qK env):=by rw[hxy];simp
   obtain⟨z,hz,rfl⟩:=zQB.1 this;exact hm z hz l hl
  have hy:∀ l∈dl1 y,l∈RC ⟨d,.call ⟨.builtin .append,args,ts⟩,ty,pos,aft,g⟩ k env:=fun l hl=>by
   have:y∈args.toList.map (qK env):=by rw[hxy];simp
   obtain⟨z,hz,rfl⟩:=zQB.1 this;exact hm z hz l hl
  have:=qTW (R:=RC ⟨d,.call ⟨.builtin .append,args,ts⟩,ty,pos,aft,g⟩ k env) (by simp[RC,needs]) hx hy h'
  have e:rG P ⟨d,.call ⟨.builtin .append,args,ts⟩,ty,pos,aft,g⟩ env k=zV P ts.toList x y k:=by
   funext q
   show (match args.toList.map (qK env) with
    | [x,y]=>zV P ts.toList x y k q
    | _=>none)=_
   rw[hxy]
  rw[e];exact this
 ·cases ho
class Frs where
 fr:FuncId->Option TypeId
 fk:IntKind
instance (priority:=low) zJX:Frs:=⟨fun _=>none,.i64⟩
def isK (k:IntKind):FV->Bool
 | .v (.int k' _)=>decide (k=k')
 | _=>false
def qMH [Frs](P:Program)(el:TypeId)(n:Nat)(cs:List FV):Bool:=match szT P el with
 | some (s+1)=>Nat.beq (n*(s+1)) cs.length&&(Nat.ble n 1048576&&(kZ P el&&cs.all (isK Frs.fk)))
 | _=>false
def FrR (el:TypeId)(n:Nat)(cs:List FV)(v:PV)(p:PHp):Prop:=(n=0∧v=.f (.l el 0 []))∨(n≠0∧∃ k0,v=.own k0 n 0 n∧qA k0 p=some ⟨el,true,cs.map .f⟩)
class zGT (P:Program) (G:Nat->Bool) [Frs]:Prop where
 ok:∀ g el,Frs.fr g=some el->enters P g=true∧∀ (n:Nat) (cs:List FV),qMH P el n cs=true->∀ (Z:Nat->Prop) (H:IH) (zGK:List Value),Hp P Z H (fun _=>none)->H.base<=H.size->VRL P Z H (fun _=>none) [.f (.l el n cs)] zGK ->
  gF P G g zGK H fun r=>∃ Z' m' pv p,Hp P Z' r.2 (own m' p)∧VR P Z' r.2 (own m' p) pv r.1∧Step Z H (fun _=>none) Z' r.2 (own m' p)∧FrR el n cs pv p
instance (priority:=low) frsOk0 {G:Nat->Bool}:@zGT _ P G zJX:=by
 letI:Frs:=zJX
 exact⟨fun g el h=>by cases h⟩
def frV (k:Nat)(el:TypeId):Nat->PV
 | 0=>.f (.l el 0 [])
 | n+1=>.own k (n+1) 0 (n+1)
def frH (k:Nat)(el:TypeId)(cs:List FV)(ph:PHp):Nat->PHp
 | 0=>ph
 | _+1=>(k,⟨el,true,cs.map .f⟩)::ph
theorem qI2 {b:Nat}:¬ dY (fun _=>none) b:=fun ⟨_,_,h,_⟩=>by cases h
theorem q2N [Frs][zGT P G]{Z:Nat->Prop}{H:IH}{m:Nat->Nat}{ph:PHp}{F:Fence}(hF:bO F){o:Oper}{env:List PV}{zF7:Env}{f:Inj}{a:Act}{w:World}{g:FuncId}{x:Operand}{zGL:Array Operand}{ts:Array TypeId}{el:TypeId}{n k:Nat}{cs:List FV}(hR:Rel P f H w)(hG:gG G f)(zGF:qD P f zF7 a.tmps.toList)
 (hok:o.op.operands.toList.all (jC (qY f))=true) (hp:Hp P Z H (own m ph)) (hb:H.base<=H.size) (he:VRL P Z H (own m ph) env zF7) (hop:o.op=.call ⟨.value x,zGL,ts⟩) (ht:target (qK env x) (zGL.toList.map (qK env))=some (g,[.f (.l el n cs)])) (hfr:Frs.fr g=some el) (hfo:qMH P el n cs=true)
 (hfresh:n≠0->fresh nm k env ph=true) {K:Act->World->Prop} {Qx:Exit->Act->World->Prop}
 (hK:∀ (Z':Nat->Prop) (m':Nat->Nat) (u:Value) (H':IH) (f':Inj) (v':Value) (w':World),Hp P Z' H' (own m' (frH k el cs ph n))->VR P Z' H' (own m' (frH k el cs ph n)) (frV k el n) u->VRL P Z' H' (own m' (frH k el cs ph n)) env zF7->Step Z H (own m ph) Z' H' (own m' (frH k el cs ph n))->KR (inP nm) (own m ph) (own m' (frH k el cs ph n)) ->
   Rel P f' H' w'->Grow f H w f' H' w'->zF8 P f' u v'->K (a.put o.dst v') w'):o.wpIn F 0 P a w K Qx:=by
 obtain⟨hent,hc⟩:=zGT.ok (P:=P) (G:=G) g el hfr;obtain⟨zGK,q1,q2⟩:=oW (o:=o) (ts:=ts) he ht hent
 have q3:VRL P Z H (fun _=>none) [.f (.l el n cs)] zGK:=by
  obtain⟨v,vs,rfl,r1,r2⟩:=q2.zF9;rw[r2.zGD]
  cases r1 with
  | f r1=>exact .cons (.f r1) .nil
 have hci:=hc n cs hfo Z H zGK ⟨hp.zlt,fun _ _ _ h=>(by cases h),fun _ _ _ _ _ _ h=>(by cases h),hp.gl⟩ hb q3;refine wN (run:=jV) (nat:=mK g zGK H _) (G:=G) hF (qEV (qWE hci)) rJ hR hG zGF hok (Q:=fun r=>∃ Z' m' pv p,Hp P Z' r.2 (own m' p)∧VR P Z' r.2 (own m' p) pv r.1∧Step Z H (fun _=>none) Z' r.2 (own m' p)∧FrR el n cs pv p) ?_ ?_
 ·have:iop P o zF7 H=some (.enter g zGK H):=by
   unfold iop;rw[hop];exact q1
  unfold tH;rw[this];show (yJ jV (mK g zGK H _) g zGK H).holds _;rw[qOH];intro r hr;exact hr
 ·rintro⟨u,H'⟩ v' w' f' ⟨Z',m',pv,p,b1,b2,b3,b4⟩ k1 k2 k3
  have zIR:Old H H':=⟨b3.size,b3.base,fun b hb=>b3.keep b hb qI2⟩
  have z2:∀ b,Z' b->b < H.size->Z b:=fun b h hb=>(b3.zG9 b h hb).resolve_right qI2
  have hp1:Hp P Z' H' (own m ph):=hp.old zIR b3.zle b1.zlt z2;have he1:VRL P Z' H' (own m ph) env zF7:=he.mono (p:=fun _=>false) b3.zle b3.size (fun b _ hb=>zIR.get b hb) (.refl _ _) (fun j hj=>by cases hj);have st1:Step Z H (own m ph) Z' H' (own m ph):=.old zIR b3.zle z2
  rcases b4 with ⟨rfl,rfl⟩ | ⟨hn,k0,rfl,hk0⟩
  ·refine hK Z' m u H' f' v' w' hp1 ?_ he1 st1 (.refl _ _) k1 k2 k3
   cases b2 with
   | f r=>exact .f r
  ·cases n with
   | zero=>exact absurd rfl hn
   | succ n =>
   obtain⟨f1,f2,f3⟩:=q9L nm (hfresh hn)
   have hcs:cs≠[]:=fun e=>by
    unfold qMH at hfo;split at hfo
    ·rename_i s hs;rw[zPK] at hfo;have:=zPL hfo.1;rw[e,zSD] at this;simp at this
    ·cases hfo
   let ob:PO:=⟨el,true,cs.map .f⟩
   have zGZ:¬ (ob.gr=true∧ob.cs=[]):=fun h=>hcs (by simpa [ob] using h.2)
   obtain⟨x1,x2,x3,x4⟩:m' k0 < H'.size∧H'.base<=m' k0∧¬ Z' (m' k0)∧Lay P Z' H' (own m' p) (m' k0) ob:=(b1.obj k0 (m' k0) ob (qN hk0)).resolve_left zGZ;have hge:¬ m' k0 < H.size:=fun h=>qI2 (b3.onew _ ⟨k0,ob,qN hk0,zGZ⟩ h)
   let m2:Nat->Nat:=fun j=>if j=k then m' k0 else m j
   have hnew:own m2 ((k,ob)::ph) k=some (m' k0,ob):=by
    show (qA k ((k,ob)::ph)).map _=_;simp[qA,m2]
   have hold:∀ j,j≠k->own m2 ((k,ob)::ph) j=own m ph j:=fun j hj=>by
    unfold own;rw[yF hj];simp only[m2,if_neg hj]
   have hkr:KR (fun j=>j==k) (own m ph) (own m2 ((k,ob)::ph)):=fun j b o hk=>by
    by_cases hj:j=k
    ·exact .inr (.inr (by simp[hj]))
    ·rw[hold j hj] at hk;exact .inl ⟨o,hk,rfl,rfl,rfl⟩
   have mono:∀ {xs:List PV} {vs:List Value},VRL P Z' H' (own m ph) xs vs->z8 k xs=true->VRL P Z' H' (own m2 ((k,ob)::ph)) xs vs:=fun h hn=>h.mono (fun _ h=>h) (zPM _) (fun _ _ _=>rfl) hkr fun j hj=>by
    have:j=k:=by simpa using hj
    subst this;exact hn
   have hp2:Hp P Z' H' (own m2 ((k,ob)::ph)):=by
    refine⟨hp1.zlt,fun j b o hk=>?_,fun j j' b b' o o' h1 h2 r1 r2 hne=>?_,hp1.gl⟩
    ·by_cases hj:j=k
     ·subst hj;rw[hnew] at hk;cases hk;exact .inr ⟨x1,x2,x3,x4.mono rfl fun vs hv=>FRL.map (qC5 hv)⟩
     ·rw[hold j hj] at hk
      rcases hp1.obj j b o hk with h | ⟨a1,a2,a3,a4⟩
      ·exact .inl h
      ·exact .inr ⟨a1,a2,a3,a4.mono rfl fun _ a5=>mono a5 (vD f3 (vW hk).1)⟩
    ·have lt:∀ {i c q},own m ph i=some (c,q)->¬ (q.gr=true∧q.cs=[])->c < H.size:=fun h r=>((hp.obj _ _ _ h).resolve_left r).1
     by_cases hj:j=k
     ·subst hj;rw[hnew] at h1;cases h1;rw[hold j' (Ne.symm hne)] at h2;intro e;exact hge (e ▸ lt h2 r2)
     ·rw[hold j hj] at h1;by_cases hj':j'=k
      ·subst hj';rw[hnew] at h2;cases h2;intro e;exact hge (e ▸ lt h1 r1)
      ·rw[hold j' hj'] at h2;exact hp1.inj j j' b b' o o' h1 h2 r1 r2 hne
   have hv2:VR P Z' H' (own m2 ((k,ob)::ph)) (.own k (n+1) 0 (n+1)) u:=by
    cases b2 with
    | own y1 y2 =>
      refine .own y1 fun b o hM=>?_
      rw[hnew] at hM;cases hM;exact y2 _ _ (qN hk0)
   have zNU:Step Z H (own m ph) Z' H' (own m2 ((k,ob)::ph)):=⟨b3.size,b3.base,b3.zle,fun b hb _=>zIR.get b hb,fun b h hb=>.inl (z2 b h hb),fun b ⟨j,o,h1,h2⟩ hb=>by
    by_cases hj:j=k
    ·subst hj;rw[hnew] at h1;cases h1;exact absurd hb hge
    ·rw[hold j hj] at h1;exact⟨j,o,h1,h2⟩⟩
   have zNV:KR (inP nm) (own m ph) (own m2 ((k,ob)::ph)):=hkr.up fun j hj=>by
    rw[show j=k by simpa using hj];exact f1
   exact hK Z' m2 u H' f' v' w' hp2 hv2 (mono he1 f2) zNU zNV k1 k2 k3
theorem q9A [Frs][zGT P G]{Z:Nat->Prop}{H:IH}{m:Nat->Nat}{ph ph1:PHp}{F:Fence}(hF:bO F){o:Oper}{env:List PV}{zF7:Env}{f:Inj}{a:Act}{w:World}{g:FuncId}{x:Operand}{zGL:Array Operand}{ts:Array TypeId}{el:TypeId}{n:Nat}{cs:List FV}{as:List PV}(hR:Rel P f H w)(hG:gG G f)(zGF:qD P f zF7 a.tmps.toList)
 (hok:o.op.operands.toList.all (jC (qY f))=true) (hp:Hp P Z H (own m ph)) (hb:H.base<=H.size) (he:VRL P Z H (own m ph) env zF7) (hop:o.op=.call ⟨.value x,zGL,ts⟩) (ht:target (qK env x) (zGL.toList.map (qK env))=some (g,as)) (hfr:Frs.fr g=some el) (hfo:qMH P el n cs=true) (hfz:fzA P as ph=some ([.f (.l el n cs)],ph1))
 {K:Act->World->Prop} {Qx:Exit->Act->World->Prop}
 (hK:∀ (Z':Nat->Prop) (m':Nat->Nat) (u:Value) (H':IH) (f':Inj) (v':Value) (w':World),Hp P Z' H' (own m' ph)->VR P Z' H' (own m' ph) (.f (.l el n cs)) u->VRL P Z' H' (own m' ph) env zF7->Step Z H (own m ph) Z' H' (own m' ph)->KR (inP nm) (own m ph) (own m' ph) ->
   Rel P f' H' w'->Grow f H w f' H' w'->zF8 P f' u v'->K (a.put o.dst v') w'):o.wpIn F 0 P a w K Qx:=by
 obtain⟨hent,hc⟩:=zGT.ok (P:=P) (G:=G) g el hfr;obtain⟨zGK,q1,q2⟩:=oW (o:=o) (ts:=ts) he ht hent;obtain⟨Z1,c1,q3⟩:=qLL hp q2 hfz;have hci:=hc n cs hfo Z1 H zGK ⟨c1.hp.zlt,fun _ _ _ h=>(by cases h),fun _ _ _ _ _ _ h=>(by cases h),c1.hp.gl⟩ hb q3
 obtain⟨s,hs,hlen⟩:∃ s,szT P el=some (s+1)∧n*(s+1)=cs.length:=by
  unfold qMH at hfo;split at hfo
  ·rename_i s hs;rw[zPK] at hfo;exact⟨s,hs,zPL hfo.1⟩
  ·cases hfo
 refine wN (run:=jV) (nat:=mK g zGK H _) (G:=G) hF (qEV (qWE hci)) rJ hR hG zGF hok (Q:=fun r=>∃ Z' m' pv p,Hp P Z' r.2 (own m' p)∧VR P Z' r.2 (own m' p) pv r.1∧Step Z1 H (fun _=>none) Z' r.2 (own m' p)∧FrR el n cs pv p) ?_ ?_
 ·have:iop P o zF7 H=some (.enter g zGK H):=by
   unfold iop;rw[hop];exact q1
  unfold tH;rw[this];show (yJ jV (mK g zGK H _) g zGK H).holds _;rw[qOH];intro r hr;exact hr
 ·rintro⟨u,H'⟩ v' w' f' ⟨Z',m',pv,p,b1,b2,b3,b4⟩ k1 k2 k3
  have zIR:Old H H':=⟨b3.size,b3.base,fun b hb=>b3.keep b hb qI2⟩
  have fin:∀ Z2:Nat->Prop,(∀ b,Z b->Z2 b)->(∀ b,Z2 b->b < H'.size)->(∀ b,Z2 b->b < H.size->Z b)->FR Z2 H' (.l el n cs) u->K (a.put o.dst v') w':=fun Z2 z1 z2 z3 hu =>
   hK Z2 m u H' f' v' w' (hp.old zIR z1 z2 z3) (.f hu) (he.mono (p:=fun _=>false) z1 b3.size (fun b _ hb=>zIR.get b hb) (.refl _ _) (fun j hj=>by cases hj)) (.old zIR z1 z3) (.refl _ _) k1 k2 k3
  rcases b4 with ⟨rfl,rfl⟩ | ⟨hn,k0,rfl,hk0⟩
  ·have hcs:cs=[]:=zQS.1 (by omega);subst hcs;refine fin Z (fun _ h=>h) (fun b h=>zPP (hp.zlt b h) b3.size) (fun _ h _=>h) ?_
   cases b2 with
   | f r =>
     cases r with
     | nil h0 h1=>exact .nil h0 h1
     | l hz hb hn hsp hl hc=>exact .nil (fun h=>by cases h) fun x h=>by cases h;exact hsp
  ·let ob:PO:=⟨el,true,cs.map .f⟩
   have hne:cs≠[]:=fun e=>by
    rw[e,zS8,Nat.mul_succ] at hlen;omega
   have zGZ:real ob:=fun h=>hne (by simpa [ob] using h.2)
   obtain⟨x1,x2,x3,vs,y1,y2,y3⟩:=b1.real hk0 zGZ (kF hs);have hge:¬ m' k0 < H.size:=fun h=>qI2 (b3.onew _ ⟨k0,ob,qN hk0,zGZ⟩ h)
   obtain⟨hO,_⟩:=wM b2 hk0 hs (by show n*(s+1)=(cs.map PV.f).length;rw[zPR];exact hlen)
   rcases hO with ⟨_,h0,_⟩ | ⟨_,_,_,rfl⟩
   ·exact absurd h0 hn
   ·have hv:=qC5 y2;refine fin (fun b=>Z b∨b=m' k0) (fun _ h=>.inl h) (fun b h=>?_) (fun b h hb=>?_) ?_
    ·rcases h with h | rfl
     ·exact zPP (hp.zlt b h) b3.size
     ·exact x1
    ·rcases h with h | rfl
     ·exact h
     ·exact absurd hb hge
    ·refine .l (vs:=vs) (.inr rfl) x1 (by omega) (.inr rfl) ?_ fun i z v h1 h2=>?_
     ·exact xV y1 (by rw[hv.len];omega) (by rw[zTB,zQ4,hv.len,zSB])
     ·have hz:=hv.val i z v h1 h2
      have hk:isK Frs.fk z=true:=by
       unfold qMH at hfo;rw[hs] at hfo;simp only[zPK] at hfo;exact zPN.1 hfo.2.2.2 z (zQQ h1)
      unfold isK at hk;split at hk
      ·cases hz with
       | v a b=>exact .v a b
      ·cases hk
end Go.Idl
