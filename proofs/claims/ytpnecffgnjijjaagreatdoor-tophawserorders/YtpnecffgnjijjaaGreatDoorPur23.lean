/- Regions that draw their order, whose operations commute: whatever the order. Conditions: none. -/
import Derived.Test.YtpnecffgnjijjaaGreatDoorPur22
set_option linter.all false
namespace Go.Idl
variable [Gc]
variable [Frs]
variable {P:Program}{G:Nat->Bool}{nat:xA}{tab:uQ}{nm:Nm}{good:FuncId->Bool}{rd:Bool}
section
variable {ops:Array Oper}{zFE:List PV}{ph0:PHp}{En:Nat->List PV}{Hs:Nat->PHp}{V:Nat->PV}{E F:List (Nat×List Nat)}{N:List (Nat×Nat)}{W:List (Nat×PV)}{O:List (Nat×PHp)}
theorem sD (t:TrC P tab nm (ops.toList.map (·.dst)) ops.toList zFE ph0 En Hs V 0 E F N W O){i:Nat}{o:Oper}(h:ops[i]?=some o) :
 En (i+1)=yL (En i) o.dst (V i)∧(0+i,V i)∈W ∧
 ((j5 (ops.toList.map (·.dst)) o (En i)=some true∧y5 P tab (qH nm o.dst) o (En i) (Hs i)=.ok (V i) (Hs (i+1))∧(ndF o (En i)=true->inP nm (qH nm o.dst)=true∧(0+i,qH nm o.dst)∈N) ∧
    (okF o (En i)=true->(0+i,RF o (qH nm o.dst) (En i))∈E∧(0+i,bK (RF o (qH nm o.dst) (En i)) (Hs (i+1)))∈O)∧(okF o (En i)=false->(0+i,dlC o (En i))∈F)) ∨
   (j5 (ops.toList.map (·.dst)) o (En i)=some false∧V i=.tup []∧Hs (i+1)=Hs i)):=t.step i o (by simpa using h)
theorem TrC.e (t:TrC P tab nm (ops.toList.map (·.dst)) ops.toList zFE ph0 En Hs V 0 E F N W O):TrE ops.size ops zFE En V:=⟨t.e0,fun i o h _=>(sD t h).1⟩
noncomputable def wtC (nm:Nm)(ops:Array Oper)(En:Nat->List PV)(i:Nat):List Nat:=match ops[i]? with
 | some o=>cond (okF o (En i)) (match j5 (ops.toList.map (·.dst)) o (En i) with
   | some true=>RF o (qH nm o.dst) (En i)
   | _=>[]) []
 | none=>[]
theorem q3R {i l:Nat}(h:l∈wtC nm ops En i):∃ o,ops[i]?=some o∧okF o (En i)=true∧j5 (ops.toList.map (·.dst)) o (En i)=some true∧wtC nm ops En i=RF o (qH nm o.dst) (En i):=by
 unfold wtC at h ⊢
 cases ho:ops[i]? with
 | none=>rw[ho] at h;cases h
 | some o =>
   rw[ho] at h
   cases he:okF o (En i) with
   | false=>simp only[he,cond_false] at h;cases h
   | true =>
     cases hw:j5 (ops.toList.map (·.dst)) o (En i) with
     | none=>simp only[he,cond_true,hw] at h;cases h
     | some b=>cases b with
       | false=>simp only[he,cond_true,hw] at h;cases h
       | true=>exact⟨o,rfl,he,hw,by simp only[he,cond_true,hw]⟩
theorem qS6 {i:Nat}{o:Oper}(ho:ops[i]?=some o)(he:okF o (En i)=true)(hw:j5 (ops.toList.map (·.dst)) o (En i)=some true):wtC nm ops En i=RF o (qH nm o.dst) (En i):=by
 unfold wtC;rw[ho];simp only[he,cond_true,hw]
theorem zDW (t:TrC P tab nm (ops.toList.map (·.dst)) ops.toList zFE ph0 En Hs V 0 E F N W O){i:Nat}{o:Oper}(ho:ops[i]?=some o)(he:okF o (En i)=true)(hw:j5 (ops.toList.map (·.dst)) o (En i)=some true) :
 ∃ f:PHp->Option (PV×PHp),Loc (RF o (qH nm o.dst) (En i)) f (Hs i) (V i) (Hs (i+1))∧∀ q v q1,f q=some (v,q1)->y5 P tab (qH nm o.dst) o (En i) q=.ok v q1:=by
 rcases (sD t ho).2.2 with ⟨_,g,_⟩ | ⟨g,_⟩
 ·cases hpf:pfr o (En i) with
  | none =>
    have hfr:qEG o (En i)=false:=by unfold qEG;rw[hpf]
    unfold okF at he;rw[hfr,zQZ] at he
    have hnc:¬ ∃ f args ts,o.op=.call ⟨.value f,args,ts⟩:=fun ⟨f,args,ts,h⟩=>by
     unfold okE at he;rw[h] at he;cases he
    obtain⟨g2,g3,g4⟩:=qHB hpf (qF7 hnc _ _) g;rw[qU3 he] at g2;have hR:RF o (qH nm o.dst) (En i)=RC o (qH nm o.dst) (En i):=by unfold RF;rw[hfr];rfl
    rw[hR];refine⟨_,q49 he (wE g2),fun q v q1 hq=>nW hpf (qF7 hnc _ _) (by rw[qU3 he,hq];rfl) g3 ?_⟩;unfold xD
    rw[qES (fun ⟨f,args,ts,h⟩=>by
     unfold okE at he;rw[h] at he
     cases he)]
    rfl
  | some q =>
    obtain⟨el,n,cs⟩:=q;obtain⟨a1,a2,a3⟩:=qBE hpf g
    cases n with
    | zero =>
      have hfr:qEG o (En i)=false:=by unfold qEG;rw[hpf]
      unfold okF at he;rw[hfr,zQZ,(qJ3 hpf).1] at he;cases he
    | succ n =>
      have hfr:qEG o (En i)=true:=by unfold qEG;rw[hpf]
      have hR:RF o (qH nm o.dst) (En i)=[qH nm o.dst]:=by unfold RF;rw[hfr];rfl
      rw[hR,a2,a3];refine⟨fun q=>some (frV (qH nm o.dst) el (n+1),(qH nm o.dst,⟨el,true,cs.map .f⟩)::q),mR (zQA _) fun _ _=>rfl,fun q v q1 hq=>?_⟩;cases hq;exact nL hpf a1 q
 ·rw[hw] at g;cases g
theorem aC {k:Nat}{o:Oper}{env env':List PV}{ph:PHp}(h:∀ x∈o.op.operands,qJ env x=qJ env' x):y5 P tab k o env ph=y5 P tab k o env' ph∧pfr o env=pfr o env':=by
 have hc:∀ {f args ts},o.op=.call ⟨.value f,args,ts⟩->qJ env f=qJ env' f∧args.toList.map (qJ env)=args.toList.map (qJ env'):=fun {f args ts} hop=>by
  rw[hop] at h;exact⟨h f (by simp[Op.operands,Call.operands]),zOK fun x hx=>h x (by simp[Op.operands,Call.operands,zN9,hx])⟩
 have h1:pfr o env=pfr o env':=by
  unfold pfr;split
  ·rename_i f args ts hop;rw[(hc hop).1,(hc hop).2]
  ·rfl
 have h2:nA o env=nA o env':=by
  unfold nA;split
  ·rename_i f args ts hop;rw[(hc hop).1,(hc hop).2]
  ·rfl
 have h3:pcp P o env ph=pcp P o env' ph:=by
  unfold pcp;split
  ·rename_i f args ts hop;rw[(hc hop).1,(hc hop).2]
  ·rfl
 refine⟨?_,h1⟩;unfold y5 xD;rw[h1,h2,h3,aP h]
theorem q06 [zFW P G]{Z:Nat->Prop}{H:IH}{m:Nat->Nat}{ph:PHp}{F:Fence}(hF:aV F)(hns:vI P G nat)(ht:qR8 P nat tab){o:Oper}{env:List PV}{zFA:Env}{f:Inj}{a:Act}{w:World}{v:PV}{ph':PHp}(hR:Rel P f H w)(hG:uY G f)(zFI:qE P f zFA a.tmps.toList)
 (hok:o.op.operands.toList.all (kR (qX f))=true) (hp:Hp P Z H (own m ph)) (hb:H.base<=H.size) (he:VRL P Z H (own m ph) env zFA) (hx:y5 P tab (qH nm o.dst) o env ph=.ok v ph') (hn:ndF o env=true->fresh nm (qH nm o.dst) env ph=true)
 {K:Act->World->Prop} {Qx:Exit->Act->World->Prop}
 (hK:∀ (Z':Nat->Prop) (m':Nat->Nat) (u:Value) (H':IH) (f':Inj) (v':Value) (w':World),Hp P Z' H' (own m' ph')->VR P Z' H' (own m' ph') v u->VRL P Z' H' (own m' ph') env zFA->Step Z H (own m ph) Z' H' (own m' ph')->KR (inP nm) (own m ph) (own m' ph') ->
   Rel P f' H' w'->Grow f H w f' H' w'->zFB P f' u v'->K (a.put o.dst v') w'):o.wpIn F 0 P a w K Qx:=by
 cases hpf:pfr o env with
 | none =>
   cases hcp:pcp P o env ph with
   | none=>exact qLK hF hns ht hR hG zFI hok hp hb he (qK7 (qHB hpf hcp hx).1) (fun h=>hn (by unfold ndF;rw[h];rfl)) hK
   | some y =>
     obtain⟨rfl,rfl,_⟩:=qHY hpf hcp hx;obtain⟨x,args,ts,g,as,el,n,cs,p1,hop,htg,hg,hz,hfo,rfl⟩:=pM hcp;exact q5W hF hR hG zFI hok hp hb he hop htg hg hfo hz hK
 | some q =>
   obtain⟨el,n,cs⟩:=q;obtain⟨a1,rfl,rfl⟩:=qBE hpf hx;obtain⟨x,args,ts,g,hop,htg,hg⟩:=qMU hpf;refine q0F hF hR hG zFI hok hp hb he hop htg hg a1 (fun hn0=>hn ?_) hK;unfold ndF qEG;rw[hpf]
   cases n with
   | zero=>exact absurd rfl hn0
   | succ n=>exact zQR _
theorem qLC (t:TrC P tab nm (ops.toList.map (·.dst)) ops.toList zFE ph0 En Hs V 0 E F N W O){i l:Nat}(hi:i < ops.size)(hl:l ∉ wtC nm ops En i):qA l (Hs (i+1))=qA l (Hs i):=by
 have ho:ops[i]?=some ops[i]:=zNG hi
 rcases (sD t ho).2.2 with ⟨g1,g,_⟩ | ⟨_,_,g⟩
 ·cases he:okF ops[i] (En i) with
  | true =>
    rw[qS6 ho he g1] at hl;obtain⟨f,hf,_⟩:=zDW t ho he g1;exact hf.2.1 l hl
  | false=>rw[(qCR he g).1]
 ·rw[g]
theorem zDZ (t:TrC P tab nm (ops.toList.map (·.dst)) ops.toList zFE ph0 En Hs V 0 E F N W O){i l:Nat}(hi:i < ops.size)(hl:(qA l (Hs i)).isSome=true):(qA l (Hs (i+1))).isSome=true:=by
 have ho:ops[i]?=some ops[i]:=zNG hi
 rcases (sD t ho).2.2 with ⟨g1,g,_⟩ | ⟨_,_,g⟩
 ·cases he:okF ops[i] (En i) with
  | true =>
    obtain⟨f,hf,_⟩:=zDW t ho he g1;exact hf.1 l hl
  | false=>rw[(qCR he g).1];exact hl
 ·rw[g];exact hl
theorem q3M (t:TrC P tab nm (ops.toList.map (·.dst)) ops.toList zFE ph0 En Hs V 0 E F N W O){l:Nat}:∀ (d i:Nat),i+d=ops.size->(qA l (Hs i)).isSome=true->(qA l (Hs ops.size)).isSome=true
 | 0,i,h,hl=>by rw[<-h];exact hl
 | d+1,i,h,hl=>q3M t d (i+1) (by omega) (zDZ t (by omega) hl)
noncomputable def hSC (nm:Nm)(ops:Array Oper)(En:Nat->List PV)(Hs:Nat->PHp)(S:Array Bool)(l:Nat):Option PO:=qA l (Hs (lst S (wtC nm ops En) l ops.size))
noncomputable def qHQ (nm:Nm)(ops:Array Oper)(En:Nat->List PV)(Hs:Nat->PHp)(S:Array Bool):PHp:=(Hs ops.size).filterMap fun p=>(hSC nm ops En Hs S p.1).map fun o=>(p.1,o)
theorem qX7 {S:Array Bool}{Wt:Nat->List Nat}{l n:Nat}:lst S Wt l n<=n:=by
 rcases qB2 (S:=S) (Wt:=Wt) (l:=l) n with h | ⟨i,h1,h2,_⟩ <;> omega
theorem jY (t:TrC P tab nm (ops.toList.map (·.dst)) ops.toList zFE ph0 En Hs V 0 E F N W O)(S:Array Bool)(l:Nat):qA l (qHQ nm ops En Hs S)=hSC nm ops En Hs S l:=by
 unfold qHQ;rw[qAB]
 cases hs:(qA l (Hs ops.size)).isSome with
 | true=>rfl
 | false =>
   simp only[zOY,if_false];unfold hSC
   cases hp:qA l (Hs (lst S (wtC nm ops En) l ops.size)) with
   | none=>rfl
   | some o =>
     have:=q3M t (ops.size - lst S (wtC nm ops En) l ops.size) (lst S (wtC nm ops En) l ops.size) (by have:=qX7 (S:=S) (Wt:=wtC nm ops En) (l:=l) (n:=ops.size);omega) (by rw[hp];rfl);rw[hs] at this;cases this
structure zIW (P:Program) (B:Nat) (nm:Nm) (ops:Array Oper) (zFE:List PV) (En:Nat->List PV) (Hs:Nat->PHp) (Z0:Nat->Prop) (H0:IH) (m0:Nat->Nat) (ph0:PHp) (f0:Inj) (w0:World) (S:Array Bool) (a:Act) (w:World) (Z:Nat->Prop) (H:IH) (m:Nat->Nat) (f:Inj) (zFA:Env):Prop where
 size:S.size=ops.size
 clo:Clo ops S
 rel:Rel P f H w
 grow:Grow f0 H0 w0 f H w
 zGP:qE P f zFA a.tmps.toList
 marks:Marks B f w a.defers
 hp:Hp P Z H (own m (qHQ nm ops En Hs S))
 hb:H.base<=H.size
 env:VRL P Z H (own m (qHQ nm ops En Hs S)) (qEH ops S zFE (En ops.size)) zFA
 step:Step Z0 H0 (own m0 ph0) Z H (own m (qHQ nm ops En Hs S))
 kr:KR (inP nm) (own m0 ph0) (own m (qHQ nm ops En Hs S))
theorem qQ3 [zFW P G]{B:Nat}{F0:Fence}(hF:aV F0)(hns:vI P G nat)(ht:qR8 P nat tab)(t:TrC P tab nm (ops.toList.map (·.dst)) ops.toList zFE ph0 En Hs V 0 E F N W O)(st:zG0 ops)
 (hck:q8Y (Region.before ops) ph0 zFE E F N W O=true) {K:Exit->Act->World->Prop} {Z0:Nat->Prop} {H0:IH} {m0:Nat->Nat} {f0:Inj} {w0:World}
 (hdone:∀ (fuel:Nat) (S:Array Bool) (Z:Nat->Prop) (H:IH) (m:Nat->Nat) (f:Inj) (zFA:Env) (a:Act) (w:World),S.size=ops.size->(∀ i,i < ops.size->sel S i)->Rel P f H w->Grow f0 H0 w0 f H w->qE P f zFA a.tmps.toList->Marks B f w a.defers->Hp P Z H (own m (Hs ops.size))->H.base<=H.size->VRL P Z H (own m (Hs ops.size)) (En ops.size) zFA ->
   Step Z0 H0 (own m0 ph0) Z H (own m (Hs ops.size))->KR (inP nm) (own m0 ph0) (own m (Hs ops.size))->wpAnyIn F0 0 P .any ops K fuel S a w)
 (hG:uY G f0) (hok:gK (qX f0) ops=true) :
 ∀ (fuel:Nat) (S:Array Bool) (a:Act) (w:World),unl ops S<=fuel->(∃ Z H m f zFA,zIW P B nm ops zFE En Hs Z0 H0 m0 ph0 f0 w0 S a w Z H m f zFA)->wpAnyIn F0 0 P .any ops K fuel S a w:=by
 intro fuel;have hn:ops.size<=ops.size:=zM0 _;have te:=t.e;have hl:=fT te hn _ (zM0 _)
 have zF1:∀ {S:Array Bool},S.size=ops.size->Region.ready .any ops S=[]->∀ j,j < ops.size->sel S j:=by
  intro S hsz hr j
  induction j using Nat.strongRecOn with
  | _ j ih =>
    intro hj;by_cases hs:sel S j
    ·exact hs
    ·exfalso
     have:j∈Region.ready .any ops S:=by
      rw[mem_ready];refine⟨?_,ops[j],by simp[hj],fun e he hb=>?_⟩
      ·unfold sel at hs;rw[zND] at hs ⊢;rw[zNG (by omega)] at hs ⊢;simpa using hs
      ·have hlt:=st.back j ops[j] (by simp[hj]) e he hb;exact ih e.on hlt (by omega)
     rw[hr] at this;cases this
 have done:∀ {fuel:Nat} {S:Array Bool} {a:Act} {w:World} {Z:Nat->Prop} {H:IH} {m:Nat->Nat} {f:Inj} {zFA:Env},zIW P B nm ops zFE En Hs Z0 H0 m0 ph0 f0 w0 S a w Z H m f zFA->(∀ j,j < ops.size->sel S j)->wpAnyIn F0 0 P .any ops K fuel S a w:=by
  intro fuel S a w Z H m f zFA s hall
  have hpe:own m (qHQ nm ops En Hs S)=own m (Hs ops.size):=qBU fun l=>by
   rw[jY t];unfold hSC;rw[rJ (j:=ops.size) ops.size (fun i hi hl=>qLC t hi hl) (fun i hi _=>⟨fun _=>hi,fun _=>hall i hi⟩),Nat.min_self]
  have hcur:qEH ops S zFE (En ops.size)=En ops.size:=by
   apply qBZ
   ·rw[j3,hl]
   intro x;rw[gW hl];by_cases hw:wr ops S x
   ·rw[if_pos hw]
   ·rw[if_neg hw];exact (qFH te hn _ (zM0 _) fun k o hk ho hd=>hw ⟨k,o,ho,hall k hk,hd⟩).symm
  have e1:=s.hp;have e2:=s.env;have e3:=s.step;have e4:=s.kr;rw[hpe] at e1 e2 e3 e4;rw[hcur] at e2;exact hdone fuel S Z H m f zFA a w s.size hall s.rel s.grow s.zGP s.marks e1 s.hb e2 e3 e4
 unfold q8Y at hck;rw[zMY] at hck
 induction fuel with
 | zero =>
   rintro S a w hu ⟨Z,H,m,f,zFA,s⟩
   have hall:∀ j,j < ops.size->sel S j:=by
    intro j hj;have hz:unl ops S=0:=by omega
    unfold unl at hz;have:=zQM.1 hz j (zPH.2 hj);unfold sel;simpa using this
   exact done s hall
 | succ fuel ih =>
   rintro S a w hu ⟨Z,H,m,f,zFA,s⟩;by_cases hall:∀ j,j < ops.size->sel S j
   ·exact done s hall
   refine⟨fun hrd=>absurd (zF1 s.size hrd) hall,fun j hj=>?_⟩;rw[mem_ready] at hj;obtain⟨hjl,o,ho,zHK⟩:=hj;have hlt:=(zNB.1 ho).1;have hjs:j < S.size:=by rw[s.size];exact hlt
   have hnj:¬ sel S j:=by
    unfold sel;rw[zND,zNG hjs] at hjl ⊢;simp only[zO4] at hjl ⊢;rw[hjl];simp
   have hpre:∀ i,vH (Region.before ops) i j=true->sel S i:=by
    intro i hb;obtain⟨e,he,hbd,h3⟩:=(qF6 st.back ho).1 hb;have:=zHK e he hbd;rcases h3 with rfl | h3
    ·exact this
    ·exact s.clo _ _ h3 this
   have hsl:∀ i,sel S i->i < ops.size:=fun i hi=>by
    unfold sel at hi;rw[zND] at hi;by_cases hx:i < S.size
    ·rw[<-s.size];exact hx
    ·rw[zQW (by omega)] at hi;cases hi
   have hu':unl ops (S.setIfInBounds j true)<=fuel:=by
    have:=qNU hlt s.size hnj;omega
   have zGM:=qLI hjs s.clo hpre
   have hok':o.op.operands.toList.all (kR (qX f))=true:=by
    have h1:=kN (zF s.grow.le) hok;unfold gK at h1;exact zM1.1 h1 o (zN5 (toL ho))
   have hag:=q4S te hn st s.clo hsl ho (by omega) hnj hpre;have hlen:(qEH ops S zFE (En ops.size)).length=(En j).length:=by rw[j3,fT te hn j (by omega)]
   have hval:=qD4 hag;have hwc:=qAO (ops:=ops) hlen hag;have hGf:=hG.mono s.grow.le;have zHN:=qQP te hn st ho hlt hjs;obtain⟨q1,q2,q3⟩:=sD t ho
   -- writers of what it reads
   have pre:∀ {R:List Nat},(0+j,R)∈E++F->∀ l∈R,∀ i,i < ops.size->l∈wtC nm ops En i->i≠j->(sel S i ↔ i < j):=by
    intro R hR l hlR i hi hli hij;obtain⟨oi,hoi,hei,hwi,hwt⟩:=q3R hli
    have hEi:(0+i,RF oi (qH nm oi.dst) (En i))∈E:=by
     rcases (sD t hoi).2.2 with ⟨_,_,_,g,_⟩ | ⟨g,_⟩
     ·exact (g hei).1
     ·rw[hwi] at g;cases g
    have h1:=zM1.1 (zM1.1 hck.1 _ hEi) _ hR;simp only[zNY,zN1,zM1] at h1;rcases h1 with h1 | h1 | h1
    ·exact absurd (zMZ h1) hij
    ·unfold qPJ at h1;rw[zN1] at h1;rcases h1 with h | h
     ·have:=vP st.back j i h;exact⟨fun _=>this,fun _=>hpre i h⟩
     ·have:=vP st.back i j h;exact⟨fun hs=>absurd (s.clo j i h hs) hnj,fun h2=>by omega⟩
    ·have:=h1 l hlR;rw[<-hwt] at this;simp[hli] at this
   have zKD:∀ {l:Nat},l ∉ wtC nm ops En j->hSC nm ops En Hs (S.setIfInBounds j true) l=hSC nm ops En Hs S l:=by
    intro l hlj;unfold hSC
    rw[qKQ (S:=S.setIfInBounds j true) (S':=S) ops.size fun i hi hli=>by
     rw[yM hjs]
     exact⟨fun h=>h.resolve_left fun e=>hlj (e ▸ hli),.inr⟩]
   unfold wpOpIn;rw[ho];simp only
   rcases q3 with ⟨g1,g2,g3,g4,g5⟩ | ⟨g1,g2,g3⟩
   ·have g1':=g1;rw[<-hwc] at g1;rw[y7 s.zGP (o8 s.env g1),if_pos rfl]
    -- the operation at this state
    have hx:∃ php,y5 P tab (qH nm o.dst) o (qEH ops S zFE (En ops.size)) (qHQ nm ops En Hs S)=.ok (V j) php∧∀ l,qA l php=qA l (qHQ nm ops En Hs (S.setIfInBounds j true)):=by
     cases he:okF o (En j) with
     | true =>
       have hwt:=qS6 (nm:=nm) ho he g1';have hR:(0+j,RF o (qH nm o.dst) (En j))∈E++F:=zOC _ (g4 he).1
       have hpj:∀ l∈RF o (qH nm o.dst) (En j),∀ i,i < ops.size->l∈wtC nm ops En i->(sel S i ↔ i < j):=by
        intro l hl i hi hli;by_cases hij:i=j
        ·subst hij;exact⟨fun h=>absurd h hnj,fun h=>absurd h (zQB _)⟩
        ·exact pre hR l hl i hi hli hij
       obtain⟨fC,⟨_,_,hloc⟩,hfC⟩:=zDW t ho he g1'
       obtain⟨php,p1,p2⟩:=hloc (qHQ nm ops En Hs S) fun l hl=>by
        rw[jY t];unfold hSC;rw[rJ (j:=j) ops.size (fun i hi hl=>qLC t hi hl) (hpj l hl),zQH (by omega)]
       refine⟨php,?_,fun l=>?_⟩
       ·rw[(aC hval).1];exact hfC _ _ _ p1
       ·rw[jY t];by_cases hl:l∈RF o (qH nm o.dst) (En j)
        ·rw[(p2 l).1 hl];unfold hSC
         rw[rJ (j:=j+1) ops.size (fun i hi hl=>qLC t hi hl) (fun i hi hli=>by
          rw[yM hjs];by_cases hij:i=j
          ·subst hij;exact⟨fun _=>zNV _,fun _=>.inl rfl⟩
          ·rw[show (i=j∨sel S i) ↔ sel S i from ⟨fun h=>h.resolve_left hij,.inr⟩,hpj l hl i hi hli]
           omega),zQH (by omega)]
        ·rw[(p2 l).2 hl,jY t,zKD (by rw[hwt];exact hl)]
     | false =>
       obtain⟨f1,f2⟩:=qCR he g2;have hwt:wtC nm ops En j=[]:=by unfold wtC;rw[ho];simp only[he,cond_false]
       have hR:(0+j,dlC o (En j))∈E++F:=zOX _ (g5 he)
       have:=f2 (qH nm o.dst) (qHQ nm ops En Hs S) fun l hl=>by
        rw[jY t];unfold hSC
        rw[rJ (j:=j) ops.size (fun i hi hl=>qLC t hi hl) (fun i hi hli=>by
         by_cases hij:i=j
         ·subst hij;rw[hwt] at hli;cases hli
         ·exact pre hR l hl i hi hli hij),zQH (by omega)]
       refine⟨qHQ nm ops En Hs S,?_,fun l=>?_⟩
       ·rw[(aC hval).1];exact this
       ·rw[jY t,jY t,zKD (by rw[hwt];simp)]
    obtain⟨php,hx,hlk⟩:=hx
    have hfresh:ndF o (qEH ops S zFE (En ops.size))=true->fresh nm (qH nm o.dst) (qEH ops S zFE (En ops.size)) (qHQ nm ops En Hs S)=true:=by
     intro hnd
     obtain⟨i1,i3⟩:=g3 (by
      unfold ndF qEG at hnd ⊢;rw[(aC (P:=P) (tab:=tab) (k:=0) (ph:=[]) hval).2] at hnd
      exact hnd)
     have hN:=zM1.1 hck.2 _ i3;rw[zMY,zMY,zMY] at hN;unfold fresh;rw[i1,zPX,zMY];constructor
     ·refine qMT fun x=>?_
      rw[gW hl];by_cases hw:wr ops S x
      ·rw[if_pos hw];obtain⟨i,oi,hi,hs,hd⟩:=hw;by_cases hx':x < zFE.length
       ·have hin:=(zNB.1 hi).1;rw[qRA te hn st hi hd hx' _ (zM0 _) hin];have hW:=zM1.1 hN.2.2.1 _ (sD t hi).2.1;simp only[zNY,zN1] at hW;rcases hW with h | h | h
        ·have:=zMZ h;subst this;exact absurd hs hnj
        ·exact absurd (s.clo j i h hs) hnj
        ·exact h
       ·rw[oD (env:=En ops.size) (t:=x) (by rw[hl];exact zQ1 hx')];rfl
      ·rw[if_neg hw];exact qWJ hN.1 x
     ·refine qWL fun p hp=>?_
      unfold qHQ at hp;obtain⟨q,hq,hpq⟩:=zPG.1 hp;obtain⟨ob,hob,rfl⟩:=zM8.1 hpq;unfold hSC at hob
      rcases qB2 (S:=S) (Wt:=wtC nm ops En) (l:=q.1) ops.size with h0 | ⟨i,hi,h1,hs,hli⟩
      ·rw[h0,t.h0] at hob;exact jX hN.2.1 hob
      ·rw[h1] at hob;obtain⟨oi,hoi,hei,hwi,hwt⟩:=q3R hli
       have hOi:(0+i,bK (RF oi (qH nm oi.dst) (En i)) (Hs (i+1)))∈O:=by
        rcases (sD t hoi).2.2 with ⟨_,_,_,g,_⟩ | ⟨g,_⟩
        ·exact (g hei).2
        ·rw[hwi] at g;cases g
       have hc:=zM1.1 hN.2.2.2 _ hOi;simp only[zNY,zN1] at hc;rcases hc with h | h | h
       ·have:=zMZ h;subst this;exact absurd hs hnj
       ·exact absurd (s.clo j i h hs) hnj
       ·refine qP5 (p:=(q.1,ob)) h ?_;unfold bK;exact zPG.2 ⟨q.1,by rw[<-hwt];exact hli,by rw[hob];rfl⟩
    refine q06 (G:=G) (nm:=nm) hF hns ht s.rel hGf s.zGP hok' s.hp s.hb s.env hx hfresh fun Z' m' u H' f' v' w' b1 b2 b3 b4 b5 k1 k2 k3=>?_
    have ee:own m' php=own m' (qHQ nm ops En Hs (S.setIfInBounds j true)):=qBU hlk;rw[ee] at b1 b2 b3 b4 b5;refine ih _ _ _ hu' ⟨Z',H',m',f',zFA.zFT o.dst u,by simp[s.size],zGM,k1,s.grow.trans k2,kV (s.zGP.mono k2.le) k3 _,by rw[put_defers];exact Marks.grow k2 _ s.marks,b1,by rw[b4.base];exact zNP s.hb b4.size,?_,s.step.trans b4,s.kr.trans b5⟩;rw[zHN];exact b3.zFT b2 _
   ·have hwt:wtC nm ops En j=[]:=by
     unfold wtC;rw[ho];simp only[g1];cases okF o (En j) <;> rfl
    have ee:own m (qHQ nm ops En Hs S)=own m (qHQ nm ops En Hs (S.setIfInBounds j true)):=qBU fun l=>by
     rw[jY t,jY t,zKD (by rw[hwt];simp)]
    rw[<-hwc] at g1;rw[y7 s.zGP (o8 s.env g1),if_neg (by simp)];have e1:=s.hp;have e2:=s.env;have e3:=s.step;have e4:=s.kr;rw[ee] at e1 e2 e3 e4;refine⟨fun g _=>hF.fn g,ih _ _ _ hu' ⟨Z,H,m,f,zFA.zFT o.dst undef,by simp[s.size],zGM,s.rel,s.grow,kV s.zGP .undef _,by rw[put_defers];exact s.marks,e1,s.hb,?_,e3,e4⟩⟩;rw[zHN,g2];exact e2.zFT (VRL.zHM (vs:=#[]) .nil) _
theorem zF2.zL3 [zFW P G](s:zF2 P good nat G tab){id:Nat}{env:List PV}{ph:PHp}{Q:PQ}(hok:gK G ops=true)(hd:mG ops=true)
 (h:(qLB P tab nm (ops.toList.map (·.dst)) (Region.before ops) env ph 0 ops.toList env ph [] [] [] [] []).holds P G fun e p=>Q .normal e p):Runs P G rd nm (.region id ops true) env ph Q:=by
 intro Z H m zFA hp hb he B F f a w hF hr hR hG zFI hm;obtain⟨En,Hs,V,E',F',N',W',O',t,_,_,_,_,_,hck,hq⟩:=qCA _ _ _ _ _ _ _ _ _ h;have st:=q1B hd;have hlen:ops.toList.length=ops.size:=by simp
 rw[hlen] at hq;have hl:=fT t.e (zM0 _) _ (zM0 _);refine wpIn_region_any s.s.mix (qQ3 (B:=B) hF s.s.spec s.t t st hck (Z0:=Z) (H0:=H) (m0:=m) (f0:=f) (w0:=w) (K:=kZ P B f H w _) ?_ hG (kN hG hok) _ _ _ _ ?_ ⟨Z,H,m,f,zFA,?_⟩)
 ·intro fuel S Z' H' m' f' zFZ a' w' k2 k3 k4 k5 k6 k7 k8 k9 k10 k11 k12;exact qFW k2 k3 ⟨⟨.normal,zFZ,H'⟩,f',⟨Z',m',_,_,k8,k10,k11,k12,hq⟩,rfl,k4,k5,k6,k7⟩
 ·unfold unl;have:=zQ3 (p:=fun j=>!(Array.replicate ops.size false).getD j false) (l:=List.range ops.size);simpa using this
 ·have hsel:∀ i,¬ sel (Array.replicate ops.size false) i:=by
   intro i h;unfold sel at h;rw[zND,zQQ] at h;split at h <;> simp at h
  have hcur:qEH ops (Array.replicate ops.size false) env (En ops.size)=env:=by
   apply qBZ (j3 _ _);intro x;rw[gW hl,if_neg];rintro⟨j,o,_,h2,_⟩;exact hsel j h2
  have hw:Grow f H w f H { w with drawn:=w.drawn+1 }:=Grow.world rfl
  have ee:own m (qHQ nm ops En Hs (Array.replicate ops.size false))=own m ph:=qBU fun l=>by
   rw[jY t];unfold hSC;rw[rJ (j:=0) ops.size (fun i hi hl=>qLC t hi hl) (fun i hi _=>⟨fun h=>absurd h (hsel i),fun h=>by omega⟩),zQ7,t.h0]
  refine⟨by simp,fun i j _ hj=>absurd hj (hsel j),hR.world rfl,hw,zFI,Marks.grow hw _ hm,by rw[ee];exact hp,hb,by rw[ee,hcur];exact he,by rw[ee];exact .refl _ _ _,by rw[ee];exact .refl _ _⟩
end
end Go.Idl
