/- Trees of choices, what a run writes, operations in a frame, code, calls, rounds, drawn regions: an ideal run is a run of the model. Conditions: none. -/
import Derived.Test.YtpnecffgnjijjaaGreatDoorIdlD
import Derived.TacticsIn
import Derived.RangeFuncRecord
import Derived.Test.YtpnecffgnjijjaaGreatDoorIdlA
import Derived.OrdersIn
set_option linter.all false
namespace Go.Idl
variable {H:IH}{P:Program}{as:List Value}{c:Call}{env:Env}{o:Oper}{ts:Array TypeId}{x:Value}
def T.holds {α:Type}(Q:α->Prop)(t:T α):Prop:=T.rec False (fun a=>Q a) (fun n _ ih=>∀ i,i < n->ih i) (fun p _ ih=>∀ r,p r->ih r) t
def T.all {α:Type}(Q:α->Prop)(t:T α):Prop:=T.rec True (fun a=>Q a) (fun n _ ih=>∀ i,i < n->ih i) (fun _ _ _=>True) t
theorem T.zFM {α:Type}{Q R:α->Prop}(h:∀ a,Q a->R a):∀ (t:T α),t.holds Q->t.holds R
 | .fail,hq=>hq
 | .ret a,hq=>h a hq
 | .ch n k,hq=>fun i hi=>T.zFM h (k i) (hq i hi)
 | .sp p k,hq=>fun r hr=>T.zFM h (k r) (hq r hr)
theorem T.zF8 {α:Type}{Q R:α->Prop}(h:∀ a,Q a->R a):∀ (t:T α),t.all Q->t.all R
 | .fail,_=>trivial
 | .ret a,hq=>h a hq
 | .ch n k,hq=>fun i hi=>T.zF8 h (k i) (hq i hi)
 | .sp _ _,_=>trivial
theorem T.zFL {α β:Type}{g:α->T β}{Q:β->Prop}:∀ (t:T α),(t.bind g).holds Q ↔ t.holds fun a=>(g a).holds Q
 | .fail=>Iff.rfl
 | .ret a=>Iff.rfl
 | .ch n k=>by
   constructor
   ·intro h i hi;exact (T.zFL (k i)).1 (h i hi)
   ·intro h i hi;exact (T.zFL (k i)).2 (h i hi)
 | .sp p k=>by
   constructor
   ·intro h i hi;exact (T.zFL (k i)).1 (h i hi)
   ·intro h i hi;exact (T.zFL (k i)).2 (h i hi)
theorem T.all_bind {α β:Type}{g:α->T β}{Q:β->Prop}:∀ (t:T α),(t.bind g).all Q ↔ t.all fun a=>(g a).all Q
 | .fail=>Iff.rfl
 | .ret a=>Iff.rfl
 | .ch n k=>by
   constructor
   ·intro h i hi;exact (T.all_bind (k i)).1 (h i hi)
   ·intro h i hi;exact (T.all_bind (k i)).2 (h i hi)
 | .sp _ _=>Iff.rfl
theorem q2H {α β:Type}(g:α->Option β):∀ (l:List α) (r:List β),l.mapM g=some r->∀ (i:Nat) a,l[i]?=some a->∃ b,r[i]?=some b∧g a=some b:=by
 intro l r h i a ha;have:=qFO g l r h;have h1:=congrArg (fun l=>l[i]?) this;simp only[zNC,ha,zNE] at h1
 cases hb:r[i]? with
 | none=>rw[hb] at h1;cases h1
 | some b=>rw[hb] at h1;simp at h1;exact⟨b,rfl,h1⟩
theorem T.zGC {α:Type}{Q:α->Prop}:∀ (t:T α) (l:List α),t.leaves=some l->((∀ a∈l,Q a)->t.holds Q)∧(t.all Q->∀ a∈l,Q a)
 | .fail,l,h=>by simp[T.leaves] at h
 | .sp _ _,l,h=>by simp[T.leaves] at h
 | .ret a,l,h=>by
   simp[T.leaves] at h;subst h;exact⟨fun h=>h a (by simp),fun h b hb=>by simp at hb;subst hb;exact h⟩
 | .ch n k,l,h=>by
   simp only[T.leaves,zM8] at h;obtain⟨ls,h1,rfl⟩:=h;have h2:∀ i,i < n->∃ b,ls[i]?=some b∧(k i).leaves=some b:=fun i hi=>q2H _ _ _ h1 i i (by simp[hi])
   constructor
   ·intro hq i hi;obtain⟨b,hb,hl⟩:=h2 i hi;exact ((k i).zGC b hl).1 fun a ha=>hq a (zP4.2 ⟨b,zN5 hb,ha⟩)
   ·intro hall a ha;obtain⟨b,hb,hab⟩:=zP4.1 ha;obtain⟨i,hi⟩:=List.mem_iff_getElem?.1 hb
    have hlen:ls.length=n:=by
     have:=congrArg List.length (qFO _ _ _ h1);simpa using this.symm
    have hin:i < n:=by rw[<-hlen];exact (zM6.1 hi).1
    obtain⟨b',hb',hl⟩:=h2 i hin;rw[hi] at hb';cases hb';exact ((k i).zGC b hl).2 (hall i hin) a hab
structure Ext (H H':IH):Prop where
 size:H.size<=H'.size
 log:∃ l,H'.log=l++H.log∧∀ b,b < H.size->b ∉ l->H'.get b=H.get b
theorem Ext.refl (H:IH):Ext H H:=⟨zM0 _,[],rfl,fun _ _ _=>rfl⟩
theorem Ext.trans {H1 H2:IH}(a:Ext H H1)(b:Ext H1 H2):Ext H H2:=by
 obtain⟨s1,l1,h1,g1⟩:=a;obtain⟨s2,l2,h2,g2⟩:=b;refine⟨zNP s1 s2,l2++l1,by rw[h2,h1,zNN],fun x hx hn=>?_⟩;simp only[zNM,not_or] at hn;rw[g2 x (zM4 hx s1) hn.1,g1 x hx hn.2]
theorem Ext.put (H:IH)(b:Nat)(o:Obj):Ext H (H.put b o) :=
 ⟨zM0 _,[b],rfl,fun x _ hn=>by rw[IH.get_put,if_neg (by simpa using hn)]⟩
theorem Ext.push (H:IH)(o:Obj):Ext H (H.push o) :=
 ⟨by simp,[],rfl,fun x hx _=>by rw[IH.zFK,if_neg (by omega)]⟩
theorem Ext.stores {H H':IH}{b i:Nat}{vs:List Value}(h:H.stores b i vs=some H'):Ext H H':=by
 unfold IH.stores at h;split at h
 ·split at h
  ·cases h;exact .put _ _ _
  ·cases h
 ·cases h
def qYT (H:IH):zFH->Prop
 | .val _ H'=>Ext H H'
 | .enter _ _ H'=>H'=H
 | .round _ _ H'=>H'=H
 | .choice n k=>∀ i,i < n->∀ v H',k i=some (v,H')->Ext H H'
theorem qLL {s:zFH}(h:uV P ts as H=some s):qYT H s:=by
 unfold uV wD at h
 repeat' split at h
 all_goals first | (cases h;done) | skip
 ·unfold qLJ at h
  repeat' split at h
  all_goals first | (cases h;exact .refl _) | (rename_i hst;cases h;exact .stores hst) | cases h
 ·unfold qSA at h;split at h
  ·split at h
   ·rename_i old H2 _ hk;cases h;refine .trans ?_ (.push _ _);unfold qJL at hk
    repeat' split at hk
    all_goals first | (cases hk;exact .refl _) | (cases hk;exact .put _ _ _) | cases hk
   ·cases h
  ·cases h
theorem qTT {s:zFH}(h:qDG P ts as H=some s):qYT H s:=by
 unfold qDG wZ at h
 repeat' split at h
 all_goals first | (cases h;exact .refl _) | (rename_i hst;cases h;exact .stores hst) | cases h
theorem qK5 {b:Builtin}{s:zFH}(h:yE P b c as H=some s):qYT H s:=by
 unfold yE at h;split at h
 ·exact qLL h
 ·exact qTT h
 ·unfold oJ at h
  repeat' split at h
  all_goals first | (cases h;exact .refl _) | cases h
 ·repeat' split at h
  all_goals first | (cases h;exact .refl _) | cases h
 ·unfold xM at h
  repeat' split at h
  all_goals first | (cases h;exact .refl _) | (cases h;exact .put _ _ _) | cases h
 ·cases h
theorem gT {s:zFH}(h:kG P o env H=some s):qYT H s:=by
 obtain⟨v,rfl,_⟩:=qFJ h;exact .refl _
theorem qXG {s:zFH}(h:yI P o c env H=some s):qYT H s:=by
 unfold yI at h;split at h
 ·rename_i r hr;cases h;unfold fG at hr;simp only at hr;split at hr
  ·exact qK5 hr
  ·cases hr
  ·repeat' split at hr
   all_goals first | (cases hr;rfl) | (cases hr;exact .refl _) | cases hr
 ·exact gT h
theorem qOI {r:Option IH}{s:zFH}(h:qLS r=some s)(hr:∀ H',r=some H'->Ext H H'):qYT H s:=by
 cases r with
 | none=>cases h
 | some H2=>cases h;exact hr H2 rfl
theorem qF2 {r:Option Value}{s:zFH}(h:zFH.ofO H r=some s):qYT H s:=by
 obtain⟨v,rfl,_⟩:=gX h;exact .refl _
theorem qWA {b:Bool}{s:zFH}(h:qC9 x b H=some s):qYT H s:=by
 unfold qC9 at h;split at h
 ·split at h
  ·repeat' split at h
   all_goals first | (cases h;exact .refl _) | (cases h;exact .put _ _ _) | cases h
  ·split at h
   ·split at h
    ·unfold qHA at h;split at h
     ·cases h;exact .put _ _ _
     ·cases h;intro i _ v H' hk;simp only at hk;split at hk
      ·split at hk
       ·cases hk
       ·cases hk;exact .put _ _ _
      ·cases hk
    ·cases h
   ·cases h
  ·cases h
 ·cases h
theorem qDL {op:BinOp}{t:TypeId}{y:Value}{s:zFH}(h:zFP P o op t x y env H=some s):qYT H s:=by
 unfold zFP at h
 repeat' split at h
 all_goals first | (cases h;exact .refl _) | exact gT h
theorem qA2 {s:zFH}(h:iop P o env H=some s):qYT H s:=by
 unfold iop at h
 split at h <;> first
  | exact qF2 h
  | exact gT h
  | exact qXG h
  | exact qWA h
  | (cases h;exact .refl _)
  | (cases h;done)
  | skip
 ·unfold qMI at h;split at h <;> cases h;exact .refl _
 ·unfold sG at h;split at h <;> cases h;exact .push _ _
 ·unfold q67 at h;split at h <;> cases h;exact .push _ _
 ·unfold kJ at h
  repeat' split at h
  all_goals first | (cases h;exact .push _ _) | cases h
 ·refine qOI h fun H' h'=>?_
  unfold gY at h'
  repeat' split at h'
  all_goals first | exact .stores h' | cases h'
 ·unfold wJ at h
  repeat' split at h
  all_goals first | (cases h;exact .refl _) | cases h
 ·unfold yS at h;split at h
  ·split at h
   ·unfold zF0 at h;rw[cond_eq_ite] at h
    repeat' split at h
    all_goals first | (cases h;exact .refl _) | exact gT h
   ·exact qDL h
  ·exact qDL h
 ·unfold gU at h;split at h
  ·exact qF2 h
  ·exact gT h
 ·unfold wN at h;split at h <;> cases h;exact .refl _
 ·unfold bM at h;split at h <;> cases h;exact .push _ _
 ·unfold jG at h
  repeat' split at h
  all_goals first | (cases h;exact .push _ _) | cases h
 ·unfold wY at h;split at h
  ·exact gT h
  ·exact qF2 h
 ·unfold uF at h;split at h
  ·exact gT h
  ·exact qF2 h
 ·refine qOI h fun H' h'=>?_
  unfold jM at h'
  repeat' split at h'
  all_goals first | (cases h';exact .put _ _ _) | cases h'
 ·unfold rY at h
  repeat' split at h
  all_goals first | (cases h;exact .push _ _) | cases h
 ·unfold fE at h;split at h
  ·unfold wH at h;split at h
   ·rw[cond_eq_ite] at h;split at h
    ·cases h;exact .refl _
    ·cases h
   ·cases h
  ·cases h
end Go.Idl
namespace Go.Idl
theorem qSF (n:Nat):∀ v w,zBW n v w=true->v=w:=by
 induction n with
 | zero=>intro v w h;exact absurd h (by show ¬ (false=true);simp)
 | succ n ih =>
   intro v w h;have hl:∀ (a b:Array Value),eqL (zBW n) a.toList b.toList=true->a=b:=fun a b hab=>zOJ (nZ ih hab)
   have hs:∀ (a b:ByteArray),eqL (·==·) a.data.toList b.data.toList=true->a=b:=fun a b hab=>by
    have:=nZ (fun x y (h:(x==y)=true)=>by simpa using h) hab;cases a;cases b;simp only at this;congr 1;exact zOJ this
   cases v <;> cases w <;> first | (exact absurd h (by show ¬ (false=true);simp)) | skip
   case bool.bool a b=>have h':(a==b)=true:=h;simp at h';rw[h']
   case int.int k a k' b=>have h':(k==k'&&a==b)=true:=h;simp at h';rw[h'.1,h'.2]
   case string.string a b=>rw[hs a b h]
   case pointer.pointer a b=>have h':(a==b)=true:=h;simp at h';rw[h']
   case slice.slice a l c a' l' c'=>have h':(a==a'&&(l==l'&&c==c'))=true:=h;simp at h';rw[h'.1,h'.2.1,h'.2.2]
   case map.map a b=>have h':(a==b)=true:=h;simp at h';rw[h']
   case func.func f a b f' a' b' =>
    have h':(f==f'&&(eqL (zBW n) a.toList a'.toList&&eqL (zBW n) b.toList b'.toList))=true:=h;simp only[zMY,beq_iff_eq] at h';rw[h'.1,hl _ _ h'.2.1,hl _ _ h'.2.2]
   case nilFunc.nilFunc=>rfl
   case nilIface.nilIface=>rfl
   case agg.agg a b=>rw[hl _ _ h]
   case tuple.tuple a b=>rw[hl _ _ h]
theorem qBH {v w:Value}(h:veq v w=true):v=w:=qSF 4 v w h
theorem cK {l m:List Value}(h:q84 l m=true):l=m:=nZ (fun _ _=>qBH) h
theorem qMQ {es es':Array MapEntry}(hk:es.toList.map (·.key)=es'.toList.map (·.key))(hv:es.toList.map (·.val)=es'.toList.map (·.val))(hb:es.toList.map (·.born)=es'.toList.map (·.born)):es=es':=by
 have key:∀ (l l':List MapEntry),l.map (·.key)=l'.map (·.key)->l.map (·.val)=l'.map (·.val)->l.map (·.born)=l'.map (·.born)->l=l':=by
  intro l
  induction l with
  | nil=>intro l' h _ _;cases l' with
    | nil=>rfl
    | cons a b=>simp at h
  | cons a l ih=>intro l' h1 h2 h3;cases l' with
    | nil=>simp at h1
    | cons b l' =>
      simp only[zNH,zNW] at h1 h2 h3;rw[ih l' h1.2 h2.2 h3.2];cases a;cases b;simp only at h1 h2 h3;rw[h1.1,h2.1,h3.1]
 exact zOJ (key _ _ hk hv hb)
theorem qXD {o o':Obj}(h:oeq o o'=true):o=o':=by
 unfold oeq at h;split at h
 ·simp only[zMY,beq_iff_eq] at h;rw[zOJ (cK h.1.1),h.1.2,h.2]
 ·simp only[zMY,beq_iff_eq] at h;rw[zOJ (cK h.1),h.2]
 ·simp only[zMY,beq_iff_eq] at h;rename_i s p s' p';have:=nZ (fun x y (h:(x==y)=true)=>by simpa using h) h.1;rw[h.2];cases s;cases s';simp only at this;rw[zOJ this]
 ·simp only[zMY,beq_iff_eq] at h;rw[h.1.1.1,h.1.1.2,zOJ h.1.2,h.2]
 ·simp only[zMY,beq_iff_eq] at h;rw[h.1.1.1,qMQ (cK h.1.1.2) (cK h.1.2) h.2]
 ·cases h
theorem pK {o o':Option Obj}(h:q8X o o'=true):o=o':=by
 unfold q8X at h;split at h
 ·rfl
 ·rw[qXD h]
 ·cases h
structure Sub (H0:IH) (p o:Out):Prop where
 e:o.e=p.e
 env:∀ (P:Program) (f:Inj) (l:List Value),qE P f p.env l->qE P f o.env l
 rel:∀ (P:Program) (f:Inj) (w:World),Rel P f p.H w->Rel P f o.H w
 keep:∀ f,Keep f H0 p.H->Keep f H0 o.H
 size:p.H.size<=o.H.size
theorem dY:∀ (a b:Env),a.length=b.length->(eT a b).length=a.length
 | [],[],_=>rfl
 | x::a,y::b,h=>by simp[eT,dY a b (by simpa using h)]
 | [],_::_,h=>by simp at h
 | _::_,[],h=>by simp at h
theorem sF {P:Program}{f:Inj}:∀ (a b l:List Value),a.length=b.length->qE P f a l->qE P f (eT a b) l
 | [],[],l,_,h=>by rw[h.zFF];exact .nil
 | x::a,y::b,l,hl,h=>by
   obtain⟨v',t',rfl,hv,ht⟩:=h.zFD;refine .cons ?_ (sF a b t' (by simpa using hl) ht);split
   ·exact hv
   ·exact .any _
 | [],_::_,l,h,_=>by simp at h
 | _::_,[],l,h,_=>by simp at h
theorem nM {P:Program}{f:Inj}:∀ (a b l:List Value),a.length=b.length->qE P f b l->qE P f (eT a b) l
 | [],[],l,_,h=>by rw[h.zFF];exact .nil
 | x::a,y::b,l,hl,h=>by
   obtain⟨v',t',rfl,hv,ht⟩:=h.zFD;refine .cons ?_ (nM a b t' (by simpa using hl) ht);split
   ·rename_i he;rw[qBH he];exact hv
   ·exact .any _
 | [],_::_,l,h,_=>by simp at h
 | _::_,[],l,h,_=>by simp at h
theorem qXS {P:Program}{f:Inj}{l:List Value}:∀ (rest:List Out) (e:Env),(∀ p∈rest,p.env.length=e.length)->(qE P f e l∨∃ p∈rest,qE P f p.env l) ->
 qE P f (rest.foldl (fun e p=>eT e p.env) e) l
 | [],e,_,h=>by
   rcases h with h | ⟨p,hp,_⟩
   ·exact h
   ·cases hp
 | q::rest,e,hl,h=>by
   have hq:e.length=q.env.length:=(hl q (by simp)).symm;refine qXS rest _ (fun p hp=>by rw[dY _ _ hq];exact hl p (by simp[hp])) ?_
   rcases h with h | ⟨p,hp,h⟩
   ·exact .inl (sF _ _ _ hq h)
   ·rcases zNF.1 hp with rfl | hp
    ·exact .inl (nM _ _ _ hq h)
    ·exact .inr ⟨p,hp,h⟩
theorem zAN (H:IH)(l:List Nat)(hl:∀ b∈l,(H.get b).isSome=true):∀ (t:Tr Obj) (b:Nat),(l.foldl (fun t b=>match H.get b with
 | some ob=>t.set b ob
 | none=>t) t).get b=if b∈l then H.get b else t.get b:=by
 induction l with
 | nil=>intro t b;simp
 | cons x l ih =>
   intro t b;simp only[zOR];rw[ih (fun y hy=>hl y (by simp[hy]))];have hx:=hl x (by simp)
   cases hg:H.get x with
   | none=>rw[hg] at hx;cases hx
   | some ob =>
     simp only;by_cases hb:b∈l
     ·simp[hb]
     ·rw[if_neg hb,Tr.zGK];by_cases hbx:b=x
      ·subst hbx;simp[hg]
      ·simp[hb,hbx]
theorem q6N (l:List Out):∀ (m:Nat),m<=l.foldl (fun m p=>Nat.max m p.H.size) m∧∀ p∈l,p.H.size<=l.foldl (fun m p=>Nat.max m p.H.size) m:=by
 induction l with
 | nil=>intro m;simp
 | cons x l ih =>
   intro m;obtain⟨h1,h2⟩:=ih (Nat.max m x.H.size);simp only[zOR];refine⟨zNP (Nat.le_max_left _ _) h1,fun p hp=>?_⟩;rcases zNF.1 hp with rfl | hp
   ·exact zNP (Nat.le_max_right _ _) h1
   ·exact h2 p hp
theorem Ext.since {H H':IH}(h:Ext H H'){b:Nat}(hb:b < H.size)(hn:b ∉ H'.since H.log.length):H'.get b=H.get b:=by
 obtain⟨l,hl,hg⟩:=h.log;refine hg b hb ?_;unfold IH.since at hn;rw[hl] at hn;simpa using hn
theorem qCD {H0:IH}{l:List Out}{o:Out}(h:qNV H0 H0.log.length l=some o)(hext:∀ p∈l,Ext H0 p.H) :
 ((∀ b,H0.size<=b->H0.get b=none)->∀ p∈l,Sub H0 p o)∧Ext H0 o.H:=by
 unfold qNV at h;split at h
 ·cases h
 ·rename_i o1 rest;split at h
  ·rename_i hc;cases h;simp only[zMY,zM1,decide_eq_true_eq] at hc;obtain⟨hsome,hrest⟩:=hc;have hb1:∀ b,b∈(o1.H.since H0.log.length).filter (· < H0.size) ↔ b∈o1.H.since H0.log.length∧b < H0.size:=fun b=>by simp
   -- the joined heap,block by block
   have hget:∀ b,(IH.mk (((o1.H.since H0.log.length).filter (· < H0.size)).foldl (fun t b=>match o1.H.get b with
    | some ob=>t.set b ob
    | none=>t) H0.tr) ((o1::rest).foldl (fun m p=>Nat.max m p.H.size) 0) H0.base ((o1.H.since H0.log.length).filter (· < H0.size)++H0.log)).get b =
    if b∈(o1.H.since H0.log.length).filter (· < H0.size) then o1.H.get b else H0.get b:=fun b=>zAN o1.H _ hsome H0.tr b
   generalize hJ:(IH.mk (((o1.H.since H0.log.length).filter (· < H0.size)).foldl (fun t b=>match o1.H.get b with
    | some ob=>t.set b ob
    | none=>t) H0.tr) ((o1::rest).foldl (fun m p=>Nat.max m p.H.size) 0) H0.base ((o1.H.since H0.log.length).filter (· < H0.size)++H0.log))=J at *
   have zJ1:J.size=(o1::rest).foldl (fun m p=>Nat.max m p.H.size) 0:=by rw[<-hJ]
   have zKM:J.log=(o1.H.since H0.log.length).filter (· < H0.size)++H0.log:=by rw[<-hJ]
   have zJO:∀ b,b < H0.size->J.get b=o1.H.get b:=by
    intro b hb;rw[hget];split
    ·rfl
    ·rename_i hn;exact ((hext o1 (by simp)).since hb (fun hx=>hn ((hb1 b).2 ⟨hx,hb⟩))).symm
   have hlow:∀ p∈o1::rest,∀ b,b < H0.size->J.get b=p.H.get b:=by
    intro p hp b hb;rcases zNF.1 hp with rfl | hp
    ·exact zJO b hb
    ·obtain⟨⟨⟨_,_⟩,hs1⟩,hs2⟩:=hrest p hp;rw[zJO b hb];by_cases hm1:b∈o1.H.since H0.log.length
     ·exact pK (zM1.1 hs1 b ((hb1 b).2 ⟨hm1,hb⟩))
     ·by_cases hm2:b∈p.H.since H0.log.length
      ·exact pK (zM1.1 hs2 b (by simp[hm2,hb]))
      ·rw[(hext o1 (by simp)).since hb hm1,(hext p (by simp[hp])).since hb hm2]
   have hhigh:(∀ b,H0.size<=b->H0.get b=none)->∀ b,H0.size<=b->J.get b=none:=by
    intro hfresh b hb;rw[hget,if_neg (fun hx=>by have:=((hb1 b).1 hx).2;omega)];exact hfresh b hb
   have hsize:∀ p∈o1::rest,p.H.size<=J.size:=fun p hp=>by rw[zJ1];exact (q6N _ 0).2 p hp
   refine⟨fun hfresh p hp=>⟨?_,?_,?_,?_,hsize p hp⟩,?_,?_⟩
   ·rcases zNF.1 hp with rfl | hp
    ·rfl
    ·exact (hrest p hp).1.1.1.symm
   ·intro P f l hl;refine qXS rest o1.env (fun q hq=>(hrest q hq).1.1.2) ?_;rcases zNF.1 hp with rfl | hp
    ·exact .inl hl
    ·exact .inr ⟨p,hp,hl⟩
   ·intro P f w hR
    have zGX:∀ b ob,J.get b=some ob->p.H.get b=some ob:=by
     intro b ob hb;by_cases hlt:b < H0.size
     ·rw[<-hlow p hp b hlt];exact hb
     ·rw[hhigh hfresh b (by omega)] at hb;cases hb
    refine⟨fun b e hb=>zM4 (hR.dom b e hb) (hsize p hp),fun b hb=>?_,hR.bound,fun b e ob hb hob=>hR.obj b e ob hb (zGX b ob hob),?_,hR.zFU⟩
    ·by_cases hlt:b < H0.size
     ·have h1:=(hext p hp).size;have h2:=hsize p hp;simp only at hb;omega
     ·exact hhigh hfresh b (by omega)
    ·intro b1 b2 e1 e2 o1' o2' hne h1 h2 g1 g2;exact hR.sep b1 b2 e1 e2 o1' o2' hne h1 h2 (zGX _ _ g1) (zGX _ _ g2)
   ·intro f hK;exact⟨zNP hK.1 (hsize p hp),fun b hb hn=>by rw[hlow p hp b hb];exact hK.2 b hb hn⟩
   ·exact zNP (hext o1 (by simp)).size (hsize o1 (by simp))
   ·exact⟨_,zKM,fun b hb hn=>by rw[hget,if_neg hn]⟩
  ·cases h
theorem Sub.refl (H0:IH)(p:Out):Sub H0 p p:=⟨rfl,fun _ _ _ h=>h,fun _ _ _ h=>h,fun _ h=>h,zM0 _⟩
theorem qD9 {H:IH}{Q:Out->Prop}(hfresh:∀ b,H.size<=b->H.get b=none)(t:T Out)(ha:t.all fun o=>Ext H o.H)(h:(join H t).holds Q):t.holds fun p=>∃ o,Q o∧Sub H p o:=by
 have zJ2:t.holds Q->t.holds fun p=>∃ o,Q o∧Sub H p o:=fun h=>T.zFM (fun p hp=>⟨p,hp,.refl _ _⟩) t h
 unfold join at h;split at h
 ·rename_i n k;split at h
  ·rename_i l hl;split at h
   ·rename_i o ho;obtain⟨h1,h2⟩:=(T.ch n k).zGC (Q:=fun p=>∃ o,Q o∧Sub H p o) l hl;obtain⟨_,h4⟩:=(T.ch n k).zGC (Q:=fun o=>Ext H o.H) l hl
    exact h1 fun p hp=>⟨o,h,(qCD ho (h4 ha)).1 hfresh p hp⟩
   ·exact zJ2 h
  ·exact zJ2 h
 ·exact zJ2 h
theorem qPB {H:IH}(t:T Out)(ha:t.all fun o=>Ext H o.H):(join H t).all fun o=>Ext H o.H:=by
 unfold join;split
 ·rename_i n k;split
  ·rename_i l hl;split
   ·rename_i o ho;obtain⟨_,h4⟩:=(T.ch n k).zGC (Q:=fun o=>Ext H o.H) l hl;exact (qCD ho (h4 ha)).2
   ·exact ha
  ·exact ha
 ·exact ha
variable {P:Program}{good:FuncId->Bool}{nat:xA}
variable {H:IH}{env:Env}{ops:Array Oper}
def wM (nat:xA):Prop:=∀ f g,nat f=some g->∀ args H,(g args H).all fun r=>Ext H r.2
def fP (run:Job->IH->T Out):Prop:=∀ j H,(run j H).all fun o=>Ext H o.H
theorem fB {α:Type}{g:α->IH}{H1:IH}(h:Ext H H1){t:T α}(ht:t.all fun a=>Ext H1 (g a)):t.all fun a=>Ext H (g a):=T.zF8 (fun _ ha=>h.trans ha) t ht
theorem qAH {r:Out}(h:Ext H r.H):(wO r).all fun r=>Ext H r.2:=by
 unfold wO;split
 ·exact h
 ·exact trivial
theorem qDW {run:Job->IH->T Out}(hn:wM nat)(hr:fP run)(f:FuncId)(args:List Value)(H:IH):(yJ run nat f args H).all fun r=>Ext H r.2:=by
 unfold yJ;split
 ·rename_i g hg;exact hn f g hg args H
 ·rw[T.all_bind];exact T.zF8 (fun o ho=>qAH ho) _ (hr _ H)
theorem qPI {run:Job->IH->T Out}(hn:wM nat)(hr:fP run)(o:Oper)(env:Env)(H:IH):(rU P run nat o env H).all fun r=>Ext H r.2:=by
 unfold rU qIE;split
 ·rename_i v H' h;exact qA2 h
 ·rename_i f args H' h;have:H'=H:=qA2 h;subst this;exact qDW hn hr f args H'
 ·rename_i l args H' h;have:H'=H:=qA2 h;subst this;rw[T.all_bind];exact T.zF8 (fun o ho=>qAH ho) _ (hr _ H')
 ·rename_i n k h;intro i hi;have:=qA2 h i hi;show (T.ofO (k i)).all _
  cases hk:k i with
  | none=>exact trivial
  | some r=>exact this r.1 r.2 hk
 ·exact trivial
theorem qHM {run:Job->IH->T Out}(hn:wM nat)(hr:fP run)(ops:Array Oper):∀ (l:List Oper) (env:Env) (H:IH),(q8P P run nat ops l env H).all fun r=>Ext H r.2
 | [],env,H=>.refl _
 | o::l,env,H=>by
   rw[qID];unfold vB;split
   ·rw[T.all_bind];exact T.zF8 (fun r hrr=>fB hrr (qHM hn hr ops l _ _)) _ (qPI hn hr o env H)
   ·exact qHM hn hr ops l _ _
   ·exact trivial
theorem qB4:∀ (l:List Oper) (env zFG:Env) (H H1:IH),qGU P l env H=some (zFG,H1)->Ext H H1
 | [],env,zFG,H,H1,h=>by simp[qGU] at h;rw[h.2];exact .refl _
 | o::l,env,zFG,H,H1,h=>by
   unfold qGU at h;split at h
   ·split at h
    ·rename_i v H' hv;exact .trans (qA2 hv) (qB4 l _ _ _ _ h)
    ·cases h
   ·exact qB4 l _ _ _ _ h
theorem q1Q {Q:Value×IH->Prop}{t:T (Value×IH)}{r:Value×IH}(h:q3Z t=some r)(ha:t.all Q):Q r:=by
 unfold q3Z at h;split at h
 ·cases h;exact ha
 ·cases h
theorem qDZ {run:Job->IH->T Out}{lo:List (Nat×Nat×Nat)}{o:Oper}{l:List Oper}{i:Nat} :
 qMW P run nat ops lo (o::l) i env H=cond (qL o) (qMW P run nat ops lo l (i+1) env H)
  (vB (kH ops o env) (qZP o i env lo (qMW P run nat ops lo l (i+1)) (q3Z (rU P run nat o env H)))
    (q2J o H (qMW P run nat ops lo l (i+1) (env.zFT o.dst undef) H)) none):=rfl
theorem nQ {run:Job->IH->T Out}(hn:wM nat)(hr:fP run)(ops:Array Oper)(lo:List (Nat×Nat×Nat)):∀ (l:List Oper) (i:Nat) (env:Env) (H:IH) (r:Env×IH×List IH×List Rec),
 qMW P run nat ops lo l i env H=some r->Ext H r.2.1
 | [],i,env,H,r,h=>by
   have h':some (env,H,[],[])=some r:=h;cases h';exact .refl _
 | o::l,i,env,H,r,h=>by
   rw[qDZ] at h
   cases ha:qL o with
   | true=>rw[ha] at h;exact nQ hn hr ops lo l _ _ _ _ h
   | false =>
     rw[ha] at h;simp only[cond_false] at h;unfold vB at h;split at h
     ·cases ho:q3Z (rU P run nat o env H) with
      | none=>rw[ho] at h;cases h
      | some q =>
        rw[ho] at h;simp only[qZP,q46] at h;split at h
        ·rename_i e hh hs rs hq;cases h;exact .trans (q1Q ho (qPI hn hr o env H)) (nQ hn hr ops lo l _ _ _ (e,hh,hs,rs) hq)
        ·cases h
     ·simp only[q2J] at h;split at h
      ·rename_i e hh hs rs hq;cases h;exact nQ hn hr ops lo l _ _ _ (e,hh,hs,rs) hq
      ·cases h
     ·cases h
theorem qT1 {run:Job->IH->T Out}(hn:wM nat)(hr:fP run){r:Env×IH}(h:qR0 P run nat ops env H=some r):Ext H r.2:=by
 unfold qR0 at h;split at h
 ·rename_i zFG H1 h1;unfold qMB at h;split at h
  ·rename_i zFS H2 hs rs h2;rw[cond_eq_ite] at h;split at h
   ·cases h;exact .trans (qB4 _ _ _ _ _ h1) (nQ hn hr _ _ _ _ _ _ _ h2)
   ·cases h
  ·cases h
 ·cases h
theorem uI {run:Job->IH->T Out}(hr:fP run){j:Job}{k:Out->T Out}(hk:∀ o,(k o).all fun o'=>Ext o.H o'.H):((run j H).bind k).all fun o=>Ext H o.H:=by
 rw[T.all_bind];exact T.zF8 (fun o ho=>fB ho (hk o)) _ (hr j H)
theorem qFQ {run:Job->IH->T Out}(hr:fP run)(l:Nat)(args:List Value)(H:IH):(aI run l args H).all fun o=>Ext H o.H:=by
 unfold aI;split
 ·split
  ·refine uI hr fun o=>?_
   unfold qCH;split
   ·split
    ·split
     ·rw[T.all_bind];refine T.zF8 (fun s hs=>?_) _ (hr _ _);have hs':Ext o.H s.H:=.trans (.put _ _ _) hs;unfold roundEnd;split
      ·exact .trans hs' (.put _ _ _)
      ·exact trivial
     ·exact trivial
    ·exact trivial
   ·exact trivial
  ·exact trivial
 ·exact trivial
theorem qFC {run:Job->IH->T Out}(hn:wM nat)(hr:fP run)(v:Value)(params:Array Tmp)(assign body:Code)(env:Env)(H:IH):(kT P run nat v params assign body env H).all fun o=>Ext H o.H:=by
 unfold kT;split
 ·rw[cond_eq_ite];split
  case isFalse=>exact trivial
  rw[T.all_bind];refine T.zF8 (fun r hrr=>?_) _ (qDW hn hr _ _ _);have h1:Ext H r.2:=.trans (.push _ _) hrr;unfold kQ;split
  ·split
   ·exact trivial
   ·split
    ·exact .trans h1 (.put _ _ _)
    ·exact fB (.trans h1 (.put _ _ _)) (hr _ _)
  ·exact trivial
 ·exact trivial
theorem qJV {run:Job->IH->T Out}(hn:wM nat)(hr:fP run)(c:Code)(env:Env)(H:IH):(tH P run nat c env H).all fun o=>Ext H o.H:=by
 unfold tH;split
 ·exact .refl _
 ·exact .refl _
 ·exact .refl _
 ·exact .refl _
 ·refine uI hr fun o=>?_
  unfold qGL;split
  ·exact hr _ _
  ·exact .refl _
 ·unfold tY;split
  ·exact hr _ _
  ·exact trivial
 ·refine uI hr fun o=>?_
  unfold oF;split
  ·rw[cond_eq_ite];split
   ·exact .refl _
   ·exact .refl _
  ·exact .refl _
 ·refine qPB _ (uI hr fun o=>?_);unfold bS;split
  ·exact hr _ _
  ·exact .refl _
 ·refine uI hr fun o=>?_
  unfold nS;split
  ·exact trivial
  ·exact .refl _
 ·unfold bZ;rw[cond_eq_ite];split
  ·unfold qF0;split
   ·rename_i zFS H2 h;exact qT1 hn hr h
   ·exact trivial
  ·rw[T.all_bind];exact qHM hn hr _ _ _ _
 ·exact qFC hn hr _ _ _ _ _ _
 ·exact trivial
theorem qIG {run:Job->IH->T Out}(hr:fP run)(f:FuncId)(args:List Value)(H:IH):(nJ P good run f args H).all fun o=>Ext H o.H:=by
 unfold nJ;split
 ·split
  ·rw[cond_eq_ite];split
   ·refine qPB _ (uI hr fun o=>?_);unfold qCO;split
    ·split
     ·exact .refl _
     ·exact trivial
    ·split
     ·exact .refl _
     ·exact trivial
    ·exact trivial
   ·exact trivial
  ·exact trivial
 ·exact trivial
theorem qA5 (hn:wM nat):∀ (n:Nat),fP (iex P good nat n)
 | 0,j,H=>trivial
 | n+1,j,H=>by
   rw[q0K];have hr:=qA5 hn n;unfold qNF;split
   ·exact qJV hn hr _ _ _
   ·exact qIG hr _ _ _
   ·exact qFQ hr _ _ _
end Go.Idl
namespace Go.Idl
variable {P:Program}{nat:xA}
variable {F:Fence}{G:Nat->Bool}{H:IH}{a:Act}{env:Env}{f:Inj}{g:FuncId}{n:Nat}{o:Oper}{v':Value}{w:World}
def uY (G:Nat->Bool)(f:Inj):Prop:=∀ g,G g=true->qX f g=true
theorem uY.mono {f':Inj}(h:uY G f)(hl:f.le f'):uY G f':=fun g hg=>zF hl g (h g hg)
theorem qW0 (h:qE P f env a.tmps.toList)(t:Nat):zFB P f ((zJ env t).getD undef) (a.tmps.getD t undef):=by
 rw[qG]
 cases ht:env[t]? with
 | some v =>
   obtain⟨v',h1,h2⟩:=h.get ht;have h1':a.tmps[t]?=some v':=by simpa using h1
   simpa [zND,h1'] using h2
 | none =>
   have hlen:env.length<=t:=zPZ.1 ht
   have h1':a.tmps[t]?=none:=by
    have:=h.1;rw[zQW];simp only[zN8] at this;omega
   simpa [zND,h1'] using zFB.undef
theorem nE (h:qE P f env a.tmps.toList){x:Operand}(hx:kR (qX f) x=true):zFB P f (env.val x) (a.eval x):=by
 cases x with
 | tmp t=>exact qW0 h t
 | const v=>exact .base _ hx
 | global g =>
   obtain⟨e,h1,h2,h3,_⟩:=dK.1 hx;have:=zFB.ptr (P:=P) (o:=0) h1;rw[h2,h3] at this;exact this
 | func g=>exact .base _ rfl
theorem kV (h:qE P f env a.tmps.toList){v:Value}(hv:zFB P f v v')(d:Option Tmp):qE P f (env.zFT d v) (a.put d v').tmps.toList:=by
 cases d with
 | none=>exact h
 | some t =>
   simp only[Env.zFT,Act.put,qV];rw[zPV];exact h.set hv t
def aV (F:Fence):Prop:=F=Fence.wide∨∃ l,F=Fence.wide.inRound l
theorem qKB:aV Fence.wide:=.inl rfl
theorem bT (l:Nat):aV (Fence.wide.inRound l):=.inr ⟨l,rfl⟩
theorem aV.fn (h:aV F)(g:FuncId):F.fn g:=by rcases h with rfl | ⟨l,rfl⟩ <;> exact trivial
theorem aV.depth (h:aV F):F.depth=none:=by rcases h with rfl | ⟨l,rfl⟩ <;> rfl
theorem aV.calls (h:aV F){args:Array Value}{R:Ending->World->Prop}(hc:CallsIn Fence.wide n P g args w R):CallsIn F n P g args w R:=by
 rcases h with rfl | ⟨l,rfl⟩ <;> exact hc
theorem aV.round (h:aV F){l:Nat}{tmps:Array Value}{x y:Code}{R:Ending->World->Prop}(hc:RoundIn Fence.wide n P l g tmps x y w R):RoundIn F n P l g tmps x y w R:=by
 rcases h with rfl | ⟨l,rfl⟩ <;> exact hc
def q9N:Value->Option Bool
 | .bool b=>some b
 | _=>none
theorem zFB.zH4 (h:zFB P f (.tuple #[]) v'):v'=.tuple #[]:=by
 generalize hv:(Value.tuple #[])=v at h
 cases h with
 | any _=>simp[unk] at hv
 | undef=>rfl
 | base _ _=>rfl
 | tuple ha _ =>
   cases hv;simp at ha;rw[zOS ha.symm]
 | _=>cases hv
theorem y7 {ops:Array Oper}{b:Bool}(h:qE P f env a.tmps.toList)(hw:kH ops o env=some b):Region.wanted o (yielded ops a.tmps)=b:=by
 unfold kH at hw;unfold Region.wanted;split at hw
 ·rename_i hg;cases hw;rw[hg]
 ·rename_i j want hg;rw[hg];split at hw
  ·rename_i t ht;split at hw
   ·rename_i v hv;rw[qG] at hv;obtain⟨v',h1,h2⟩:=h.get hv;have h1':a.tmps[t]?=some v':=by simpa using h1
    have hy:yielded ops a.tmps j=q9N v':=by
     unfold yielded;simp only[ht,zNI,h1'];cases v' <;> rfl
    simp only[hy];unfold qV6 at hw;split at hw
    ·cases hw;rw[h2.zHG];rename_i c;cases c <;> cases want <;> rfl
    ·rename_i vs
     cases hve:vs.isEmpty with
     | false=>rw[hve] at hw;cases hw
     | true =>
       rw[hve] at hw;cases hw;have:vs=#[]:=by simpa using hve
       subst this;rw[h2.zH4];rfl
    ·cases hw
   ·cases hw
  ·rename_i ht;cases hw
   have hy:yielded ops a.tmps j=none:=by
    unfold yielded;rw[ht];rfl
   simp[hy]
def Comes (P:Program)(f:Inj)(H:IH)(w:World)(Q:Value×IH->Prop):Ending->World->Prop:=fun e w' =>
 ∃ v' r f',e=.returned v'∧Q r∧Rel P f' r.2 w'∧Grow f H w f' r.2 w'∧zFB P f' r.1 v'
def kF (P:Program)(G:Nat->Bool)(en:FuncId->List Value->IH->T (Value×IH)):Prop :=
 ∀ (g:FuncId) (args args':List Value) (H:IH) (f:Inj) (w:World) (Q:Value×IH->Prop),Rel P f H w->uY G f->qE P f args args'->(en g args H).holds Q ->
  CallsIn Fence.wide 0 P g args'.toArray w (Comes P f H w Q)
def kS (P:Program)(G:Nat->Bool)(run:Job->IH->T Out):Prop :=
 ∀ (l:Nat) (args args':List Value) (H:IH) (f:Inj) (w:World) (e:Emb) (Q:Value×IH->Prop),Rel P f H w->uY G f->f l=some e->qE P f args args' ->
  ((run (.round l args) H).bind wO).holds Q ->
  ∃ fn tmps assign body,(Instr.yield e.r args'.toArray).run P w=.ok (.round e.r fn tmps assign body) w∧RoundIn Fence.wide 0 P e.r fn tmps assign body w (Comes P f H w Q)
theorem qDB {s:zFH}(h:iop P o env H=some s):∀ c,o.op≠.defer c:=by
 intro c hc;unfold iop at h;rw[hc] at h;cases h
theorem vW {run:Job->IH->T Out}{Q:Value×IH->Prop}{K:Act->World->Prop}{Qx:Exit->Act->World->Prop}
 (hF:aV F) (hc:kF P G (yJ run nat)) (hr:kS P G run) (hR:Rel P f H w) (hG:uY G f) (zFI:qE P f env a.tmps.toList) (hok:o.op.operands.toList.all (kR (qX f))=true)
 (h:(rU P run nat o env H).holds Q)
 (hK:∀ r v' w' f',Q r->Rel P f' r.2 w'->Grow f H w f' r.2 w'->zFB P f' r.1 v'->K (a.put o.dst v') w'):o.wpIn F 0 P a w K Qx:=by
 have hρ:∀ x∈o.op.operands,zFB P f (env.val x) (a.eval x):=fun x hx=>nE zFI (zM1.1 hok x (zN9.1 hx))
 refine⟨fun g _=>hF.fn g,?_⟩;unfold rU at h
 cases hs:iop P o env H with
 | none=>rw[hs] at h;exact h.elim
 | some s =>
   rw[hs] at h;have hd:=qDB hs
   have zJ3:o.semAt F.round a.eval=execOp a.eval o:=by
    cases F.round with
    | none=>rfl
    | some l=>exact Oper.semAt_some l _ _ hd
   rw[zJ3];have hpost:=q7J hR hs hρ
   have value:∀ v H',pU P f H w v H' ((execOp a.eval o).run P w)->Q (v,H')->o.uponIn F 0 P a K Qx ((execOp a.eval o).run P w):=by
    rintro v H' ⟨nx,v',w',f',h1,h2,h3,h4,h5,h6⟩ hq;rw[h1]
    rcases h2 with rfl | ⟨rfl,rfl⟩
    ·exact hK (v,H') v' w' f' hq h3 h4 h5
    ·exact hK (v,H') undef w' f' hq h3 h4 h5
   cases s with
   | val v H'=>exact value v H' hpost h
   | enter g args H' =>
     obtain⟨rfl,args',ha,hrun⟩:=hpost;rw[hrun];refine⟨(fun zJ4=>absurd zJ4 (by rw[hF.depth];simp)),?_⟩;have:=hc g args args' H' f w Q hR hG ha h;have h2:CallsIn F 0 P g args'.toArray w (Comes P f H' w Q):=hF.calls this;refine CallsIn.mono h2 ?_;rintro e w'' ⟨v',r,f',rfl,hq,h3,h4,h5⟩;exact hK r v' w'' f' hq h3 h4 h5
   | round l args H' =>
     obtain⟨rfl,e,args',he,ha,hrun⟩:=hpost;obtain⟨fn,tmps,assign,body,hy,zGJ⟩:=hr l args args' H' f w e Q hR hG he ha h;rw[hrun,hy];refine⟨(fun zJ4=>absurd zJ4 (by rw[hF.depth];simp)),?_⟩;have h2:RoundIn F 0 P e.r fn tmps assign body w (Comes P f H' w Q):=hF.round zGJ;refine RoundIn.mono h2 ?_;rintro e w'' ⟨v',r,f',rfl,hq,h3,h4,h5⟩;exact hK r v' w'' f' hq h3 h4 h5
   | choice n k =>
     obtain⟨i,hi,hpi⟩:=hpost;have hq:=h i hi;have hq:(T.ofO (k i)).holds Q:=hq
     cases hk:k i with
     | none=>rw[hk] at hq;exact hq.elim
     | some r=>rw[hk] at hq;exact value r.1 r.2 (hpi r.1 r.2 hk) hq
def Marks (B:Nat)(f:Inj)(w:World):List Deferred->Prop
 | []=>B<=w.heap.size
 | d::ds=>(∃ r,d.target=.collected r∧B<=r∧r < w.heap.size∧w.heap[r]?=some (.deferred (some []))∧(∀ b e,f b=some e->e.r≠r)∧∀ d'∈ds,d'.target≠.collected r)∧Marks B f w ds
theorem Marks.grow {B:Nat}{f f':Inj}{H H':IH}{w w':World}(hg:Grow f H w f' H' w'):∀ (ds:List Deferred),Marks B f w ds->Marks B f' w' ds
 | [],h=>zNP h hg.size
 | d::ds,⟨⟨r,h1,hB,h2,h3,h4,h5⟩,h6⟩=>by
   obtain⟨_,g2⟩:=hg.keep r h2 (fun ⟨b,e,hb,he,_⟩=>h4 b e hb he);exact⟨⟨r,h1,hB,zM4 h2 hg.size,by rw[g2];exact h3,hg.un r h2 h4,h5⟩,Marks.grow hg ds h6⟩
theorem Marks.le {B:Nat}{f:Inj}{w:World}:∀ {ds:List Deferred},Marks B f w ds->B<=w.heap.size
 | [],h=>h
 | _::_,h=>Marks.le h.2
theorem put_defers (a:Act)(d:Option Tmp)(v:Value):(a.put d v).defers=a.defers:=by cases d <;> rfl
theorem qAU {B:Nat}{G:Nat->Bool}{F:Fence}{run:Job->IH->T Out}{ops:Array Oper}(hF:aV F)(hc:kF P G (yJ run nat))(hr:kS P G run){Qx:Exit->Act->World->Prop}:∀ (l:List Oper)
 (env:Env) (H:IH) (f:Inj) (a:Act) (w:World) (Q:Env×IH->Prop),Rel P f H w->uY G f->qE P f env a.tmps.toList->Marks B f w a.defers->(∀ o∈l,o.op.operands.toList.all (kR (qX f))=true) ->
 (q8P P run nat ops l env H).holds Q->(∀ r a' w' f',Q r->Rel P f' r.2 w'->Grow f H w f' r.2 w'->qE P f' r.1 a'.tmps.toList->Marks B f' w' a'.defers->Qx .normal a' w') ->
 wpListIn F 0 P ops Qx l a w
 | [],env,H,f,a,w,Q,hR,hG,zFI,hm,_,h,hK=>hK (env,H) a w f h hR (.refl _ _ _) zFI hm
 | o::l,env,H,f,a,w,Q,hR,hG,zFI,hm,hok,h,hK=>by
   rw[qID] at h;unfold wpListIn;unfold vB at h;split at h
   ·rename_i hw;rw[y7 zFI hw,if_pos rfl];rw[T.zFL] at h;refine vW hF hc hr hR hG zFI (hok o (by simp)) h fun r v' w' f' hq h1 h2 h3=>?_
    refine qAU hF hc hr l (env.zFT o.dst r.1) r.2 f' (a.put o.dst v') w' Q h1 (hG.mono h2.le) (kV (zFI.mono h2.le) h3 _) (by rw[put_defers];exact Marks.grow h2 _ hm)
     (fun o' ho'=>zM1.2 fun x hx=>jI (zF h2.le) (zM1.1 (hok o' (by simp[ho'])) x hx)) hq
     fun r' a' w'' f'' hq' g1 g2 g3 g4=>hK r' a' w'' f'' hq' g1 (h2.trans g2) g3 g4
   ·rename_i hw;rw[y7 zFI hw,if_neg (by simp)];exact⟨fun g _=>hF.fn g,qAU hF hc hr l (env.zFT o.dst undef) H f (a.put o.dst undef) w Q hR hG (kV zFI .undef _) (by rw[put_defers];exact hm) (fun o' ho'=>hok o' (by simp[ho'])) h hK⟩
   ·exact h.elim
end Go.Idl
namespace Go.Idl
variable {P:Program}{good:FuncId->Bool}{nat:xA}{B:Nat}
variable {F:Fence}{H:IH}{Q:Out->Prop}{a:Act}{e:Exit}{env:Env}{f:Inj}{id:Nat}{rd:Bool}{w:World}{x y:Code}
def qH4:zGB->Exit
 | .normal=>.normal
 | .exit id=>.exit id
 | .goto l=>.goto l
 | .ret=>.ret
def kZ (P:Program)(B:Nat)(f:Inj)(H:IH)(w:World)(Q:Out->Prop):Exit->Act->World->Prop:=fun e a' w' =>
 ∃ o f',Q o∧e=qH4 o.e∧Rel P f' o.H w'∧Grow f H w f' o.H w'∧qE P f' o.env a'.tmps.toList∧Marks B f' w' a'.defers
def xE (P:Program)(G:Nat->Bool)(run:Job->IH->T Out):Prop :=
 ∀ (B:Nat) (F:Fence) (rd:Bool) (c:Code) (env:Env) (H:IH) (f:Inj) (a:Act) (w:World) (Q:Out->Prop),aV F->zGO rd F w->Rel P f H w->uY G f->codeOk (qX f) rd c=true ->
  qE P f env a.tmps.toList->Marks B f w a.defers->(run (.code c env) H).holds Q->c.wpIn F 0 P (kZ P B f H w Q) a w
def qHG (P:Program)(G:Nat->Bool)(nat:xA)(run:Job->IH->T Out):Prop :=
 ∀ (B:Nat) (F:Fence) (id:Nat) (ops:Array Oper) (env:Env) (H:IH) (f:Inj) (a:Act) (w:World) (r:Env×IH),aV F->Rel P f H w->uY G f->gK (qX f) ops=true->fO ops=true ->
  qE P f env a.tmps.toList->Marks B f w a.defers->qR0 P run nat ops env H=some r->(Code.region id ops true).wpIn F 0 P (kZ P B f H w fun o=>o=⟨.normal,r.1,r.2⟩) a w
theorem jT {f1:Inj}{H1:IH}{w1:World}{Q1:Out->Prop}(hg:Grow f H w f1 H1 w1)(hq:∀ o,Q1 o->Q o){w2:World}(h:kZ P B f1 H1 w1 Q1 e a w2):kZ P B f H w Q e a w2:=by
 obtain⟨o,f',h1,h2,h3,h4,h5,h6⟩:=h;exact⟨o,f',hq o h1,h2,h3,hg.trans h4,h5,h6⟩
theorem vG {e:zGB}(hR:Rel P f H w)(zFI:qE P f env a.tmps.toList)(hm:Marks B f w a.defers)(h:(T.ret (⟨e,env,H⟩:Out)).holds Q) :
 kZ P B f H w Q (qH4 e) a w:=⟨_,f,h,rfl,hR,.refl _ _ _,zFI,hm⟩
section
variable {G:Nat->Bool}{run:Job->IH->T Out}
theorem qWT (hrun:xE P G run)(hF:aV F)(hrd:zGO rd F w)(hR:Rel P f H w)(hG:uY G f)
 (hx:codeOk (qX f) rd x=true) (hy:codeOk (qX f) rd y=true) (zFI:qE P f env a.tmps.toList) (hm:Marks B f w a.defers) (h:((run (.code x env) H).bind (qGL run y)).holds Q) :
 (Code.seq x y).wpIn F 0 P (kZ P B f H w Q) a w:=by
 rw[T.zFL] at h;refine wpIn_seq (wpIn_mono (hrun B F rd x env H f a w _ hF hrd hR hG hx zFI hm h) ?_);rintro e a' w' ⟨o,f',hq,rfl,h1,h2,h3,h4⟩;unfold qGL at hq
 cases he:o.e with
 | normal =>
   rw[he] at hq;exact wpIn_mono (hrun B F rd y o.env o.H f' a' w' Q hF (hrd.mono h2.lps) h1 (hG.mono h2.le) (qO (zF h2.le) _ _ hy) h3 h4 hq) fun e a w=>jT h2 fun _ h=>h
 | exit id=>rw[he] at hq;exact⟨o,f',hq,by rw[he],h1,h2,h3,h4⟩
 | goto l=>rw[he] at hq;exact⟨o,f',hq,by rw[he],h1,h2,h3,h4⟩
 | ret=>rw[he] at hq;exact⟨o,f',hq,by rw[he],h1,h2,h3,h4⟩
theorem qNN (hrun:xE P G run)(hF:aV F)(hrd:zGO rd F w)(hR:Rel P f H w)(hG:uY G f)
 (hx:codeOk (qX f) rd x=true) (zFI:qE P f env a.tmps.toList) (hm:Marks B f w a.defers) (h:((run (.code x env) H).bind (oF id)).holds Q) :
 (Code.block id x).wpIn F 0 P (kZ P B f H w Q) a w:=by
 rw[T.zFL] at h;refine wpIn_block (wpIn_mono (hrun B F rd x env H f a w _ hF hrd hR hG hx zFI hm h) ?_);rintro e a' w' ⟨o,f',hq,rfl,h1,h2,h3,h4⟩;unfold oF at hq
 cases he:o.e with
 | normal=>rw[he] at hq;exact⟨o,f',hq,by rw[he],h1,h2,h3,h4⟩
 | exit id' =>
   rw[he] at hq;simp only[qH4,Exit.inBlock];simp only[cond_eq_ite] at hq;by_cases hid:id'=id
   ·rw[if_pos hid];rw[if_pos (by rw[hid];exact zQ5 id)] at hq;exact⟨⟨.normal,o.env,o.H⟩,f',hq,rfl,h1,h2,h3,h4⟩
   ·rw[if_neg hid];rw[if_neg (fun hb=>hid (zMZ hb))] at hq;exact⟨o,f',hq,by rw[he];rfl,h1,h2,h3,h4⟩
 | goto l=>rw[he] at hq;exact⟨o,f',hq,by rw[he],h1,h2,h3,h4⟩
 | ret=>rw[he] at hq;exact⟨o,f',hq,by rw[he],h1,h2,h3,h4⟩
theorem qSI (hrun:xE P G run){v:Operand}(hF:aV F)(hrd:zGO rd F w)(hR:Rel P f H w)(hG:uY G f)
 (hv:kR (qX f) v=true) (hx:codeOk (qX f) rd x=true) (hy:codeOk (qX f) rd y=true) (zFI:qE P f env a.tmps.toList) (hm:Marks B f w a.defers) (h:(tY run (env.val v) x y env H).holds Q) :
 (Code.cond v x y).wpIn F 0 P (kZ P B f H w Q) a w:=by
 have hev:=nE zFI hv;unfold tY at h;split at h
 ·rename_i t ht;rw[ht] at hev;refine wpIn_cond (t:=t) hev.zHG ?_
  cases t with
  | true=>exact hrun B F rd x env H f a w Q hF hrd hR hG hx zFI hm h
  | false=>exact hrun B F rd y env H f a w Q hF hrd hR hG hy zFI hm h
 ·exact h.elim
theorem qJG (hc:kF P G (yJ run nat))(hr:kS P G run)(hd:qHG P G nat run){ops:Array Oper}{draw:Bool}(hF:aV F)
 (hR:Rel P f H w) (hG:uY G f) (hok:gK (qX f) ops=true) (hdr:(!draw||fO ops)=true) (zFI:qE P f env a.tmps.toList) (hm:Marks B f w a.defers) (h:(bZ P run nat ops draw env H).holds Q) :
 (Code.region id ops draw).wpIn F 0 P (kZ P B f H w Q) a w:=by
 unfold bZ at h
 cases draw with
 | true =>
   simp only[cond_true] at h;unfold qF0 at h;split at h
   ·rename_i zFS H2 hi;refine wpIn_mono (hd B F id ops env H f a w (zFS,H2) hF hR hG hok (by simpa using hdr) zFI hm hi) fun e a w=>jT (.refl _ _ _) fun o ho=>?_
    subst ho;exact h
   ·exact h.elim
 | false =>
   simp only[cond_false] at h;rw[T.zFL] at h;refine wpIn_region_list (qAU hF hc hr ops.toList env H f a w _ hR hG zFI hm (fun o ho=>zM1.1 hok o ho) h ?_);intro r a' w' f' hq h1 h2 h3 h4;exact⟨⟨.normal,r.1,r.2⟩,f',hq,rfl,h1,h2,h3,h4⟩
end
theorem exists_least {p:Nat->Prop}(h:∃ n,p n):∃ n,p n∧∀ m,p m->n<=m:=by
 obtain⟨n,hn⟩:=h
 induction n using Nat.strongRecOn with
 | _ n ih =>
   by_cases hx:∃ m,m < n∧p m
   ·obtain⟨m,hm,hpm⟩:=hx;exact ih m hm hpm
   ·exact⟨n,hn,fun m hpm=>by
     by_cases hmn:n<=m
     ·exact hmn
     ·exact absurd ⟨m,by omega,hpm⟩ hx⟩
open Classical in
noncomputable def least (p:Nat->Prop):Nat:=if h:∃ n,p n then Classical.choose (exists_least h) else 0
theorem bN {p:Nat->Prop}(h:∃ n,p n):p (least p)∧∀ m,p m->least p<=m:=by
 unfold least;rw[dif_pos h];exact Classical.choose_spec (exists_least h)
theorem qJH {H0:IH}{w':World}(h:kZ P B f H w (fun p=>∃ o,Q o∧Sub H0 p o) e a w'):kZ P B f H w Q e a w':=by
 obtain⟨p,f',⟨o,hq,hs⟩,h1,h2,h3,h4,h5⟩:=h;exact⟨o,f',hq,by rw[hs.e];exact h1,hs.rel _ _ _ h2,h3.sizes (zM0 _) hs.size,hs.env _ _ _ h4,h5⟩
theorem qRF {G:Nat->Bool}(hn:wM nat)(hF:aV F)(hrd:zGO rd F w)(n:Nat)(hrun:∀ m,m < n->xE P G (iex P good nat m))
 (hR:Rel P f H w) (hG:uY G f)
 (hx:codeOk (qX f) rd x=true) (zFI:qE P f env a.tmps.toList) (hm:Marks B f w a.defers) (h:(iex P good nat n (.code (.loop x) env) H).holds Q) :
 (Code.loop x).wpIn F 0 P (kZ P B f H w Q) a w:=by
 let J:Act->World->Nat->Prop:=fun a1 w1 m=>m<=n∧∃ zFG H1 f1 Q1,Rel P f1 H1 w1∧Grow f H w f1 H1 w1∧qE P f1 zFG a1.tmps.toList∧Marks B f1 w1 a1.defers∧(iex P good nat m (.code (.loop x) zFG) H1).holds Q1 ∧
  ∀ e a2 w2,kZ P B f1 H1 w1 Q1 e a2 w2->kZ P B f H w Q e a2 w2
 refine wpIn_loop (fun a1 w1=>∃ m,J a1 w1 m) (fun a1 w1=>least (J a1 w1)) ⟨n,zM0 _,env,H,f,Q,hR,.refl _ _ _,zFI,hm,h,fun _ _ _ h=>h⟩ ?_;intro a1 w1 hI;obtain⟨⟨hle,zFG,H1,f1,Q1,r1,g1,v1,m1,hh,hq1⟩,hmin⟩:=bN hI;generalize hm0:least (J a1 w1)=m at *
 cases m with
 | zero=>exact hh.elim
 | succ m =>
   have hh':(join H1 ((iex P good nat m (.code x zFG) H1).bind (bS (iex P good nat m) x))).holds Q1:=hh
   have hext:((iex P good nat m (.code x zFG) H1).bind (bS (iex P good nat m) x)).all fun o=>Ext H1 o.H:=by
    refine uI (qA5 hn m) fun o=>?_
    unfold bS;split
    ·exact qA5 hn m _ _
    ·exact .refl _
   have h2:=qD9 r1.fresh _ hext hh';rw[T.zFL] at h2;refine wpIn_mono (hrun m (by omega) B F rd x zFG H1 f1 a1 w1 _ hF (hrd.mono g1.lps) r1 (hG.mono g1.le) (qO (zF g1.le) _ _ hx) v1 m1 h2) ?_;rintro e a2 w2 ⟨o,f2,hq,rfl,k1,k2,k3,k4⟩;unfold bS at hq
   have out:∀ {e:zGB},o.e=e->(T.ret o).holds (fun p=>∃ o,Q1 o∧Sub H1 p o)->kZ P B f H w Q (qH4 e) a2 w2:=fun {e} he hq=>by
    refine hq1 _ _ _ (qJH (H0:=H1) ⟨o,f2,hq,by rw[he],k1,k2,k3,k4⟩)
   cases he:o.e with
   | normal =>
     rw[he] at hq
     have hJ:J a2 w2 m:=⟨by omega,o.env,o.H,f2,_,k1,g1.trans k2,k3,k4,hq,fun e a3 w3 h3=>hq1 e a3 w3 (jT k2 (fun _ h=>h) (qJH (H0:=H1) h3))⟩
     exact⟨⟨m,hJ⟩,by have:=(bN ⟨m,hJ⟩).2 m hJ;show least (J a2 w2) < _;omega⟩
   | exit id=>rw[he] at hq;exact out he hq
   | goto l=>rw[he] at hq;exact out he hq
   | ret=>rw[he] at hq;exact out he hq
end Go.Idl
namespace Go.Idl
variable {P:Program}{good:FuncId->Bool}{nat:xA}{B:Nat}
variable {H:IH}{env:Env}{f:Inj}{tmps:Array Value}{v:Value}{w:World}
theorem Rel.other {w':World}{r:Nat}(hR:Rel P f H w)(hu:∀ b e,f b=some e->e.r≠r)(hs:w'.heap.size=w.heap.size)(hw:∀ x:Nat,x≠r->w'.heap[x]?=w.heap[x]?):Rel P f H w' :=
 ⟨hR.dom,hR.fresh,fun b e hb=>by rw[hs];exact hR.bound b e hb,fun b e o hb ho=>by rw[hw _ (hu b e hb)];exact hR.obj b e o hb ho,hR.sep,hR.zFU⟩
theorem aQ {F:Fence}{fn:Func}{tmps:Array Value}{R:Ending->World->Prop}{f:Inj}{H:IH}:∀ (ds:List Deferred) (w:World),Rel P f H w->Marks B f w ds ->
 (∀ w',Rel P f H w'->(∀ r,(∀ d∈ds,d.target≠.collected r)->w'.heap[r]?=w.heap[r]?)->w'.heap.size=w.heap.size->(w'.os=w.os∧w'.output=w.output∧w'.tape=w.tape)->∃ v,(results fn tmps).run P w'=.ok v w'∧R (.returned v) w') ->
 LeavesInM F 0 P fn tmps R ds .returning w
 | [],w,hR,_,hK=>by
   obtain⟨v,h1,h2⟩:=hK w hR (fun _ _=>rfl) rfl ⟨rfl,rfl,rfl⟩;exact⟨v,h1,h2⟩
 | d::ds,w,hR,⟨⟨r,h1,hB,h2,h3,h4,h5⟩,h6⟩,hK=>by
   have hsame:∀ x:Nat,x≠r->(w.putObj r (.deferred none)).heap[x]?=w.heap[x]?:=fun x hx=>World.putObj_heap_other hx
   have hR':Rel P f H (w.putObj r (.deferred none)):=hR.other h4 (by simp) hsame;refine⟨by simp,.inl ⟨r,w.putObj r (.deferred none),h1,run_takeDeferred h3,aQ ds _ hR' ?_ fun w' hR2 hs2 hsz hot=>hK w' hR2 (fun x hx=>?_) (by rw[hsz];simp) hot⟩⟩
   ·have key:∀ (ds:List Deferred),(∀ d'∈ds,d'.target≠.collected r)->Marks B f w ds->Marks B f (w.putObj r (.deferred none)) ds:=by
     intro ds
     induction ds with
     | nil=>intro _ hb;simpa [Marks] using hb
     | cons d ds ih =>
       rintro hn ⟨⟨x,g1,gB,g2,g3,g4,g5⟩,g6⟩;have hxr:x≠r:=fun hx=>hn d (by simp) (by rw[g1,hx])
       exact⟨⟨x,g1,gB,by simpa using g2,by rw[hsame x hxr];exact g3,g4,g5⟩,ih (fun d' hd'=>hn d' (by simp[hd'])) g6⟩
    exact key ds h5 h6
   ·rw[hs2 x (fun d' hd'=>hx d' (by simp[hd'])),hsame x (fun hxr=>hx d (by simp) (by rw[h1,hxr]))]
structure Reads (g:ResultVar->Sem Value) (tmps:Array Value):Prop where
 tmp:∀ t,g (.tmp t)=pure (tmps.getD t undef)
 cell:∀ a t,g (.cell a t)=(asAddr (tmps.getD a undef)).bind (loadVar t)
theorem qMP {g:ResultVar->Sem Value}{rv:ResultVar}(hg:Reads g tmps)(zFI:qE P f env tmps.toList)(h:qZ6 P env H rv=some v) :
 ∀ w,Rel P f H w->∃ v',(g rv).run P w=.ok v' w∧zFB P f v v':=by
 intro w hR;have hget:∀ t,zFB P f ((zJ env t).getD undef) (tmps.getD t undef):=fun t=>qW0 (a:={ tmps:=tmps,defers:=[] }) zFI t
 cases rv with
 | tmp t =>
   simp only[qZ6,zM7] at h;subst h;exact⟨_,by rw[hg.tmp];simp,hget t⟩
 | cell a t =>
   have h0:uW P t ((zJ env a).getD undef) H=some v:=h;obtain⟨v',h1,h2⟩:=qDV hR h0 (hget a)
   have hp:∃ x,tmps.getD a undef=.pointer (some x):=by
    have hg:=hget a;unfold uW at h0;split at h0
    ·rename_i b i he;rw[he] at hg;obtain⟨e,_,hv⟩:=hg.zFX;exact⟨_,hv⟩
    ·cases h0
   obtain⟨x,hx⟩:=hp;refine⟨v',?_,h2⟩;rw[hg.cell,hx];rw[hx] at h1;exact h1
theorem qBQ {g:ResultVar->Sem Value}{f:Inj}{H:IH}{env:Env}{tmps:Array Value}(hg:Reads g tmps)(zFI:qE P f env tmps.toList){w:World}(hR:Rel P f H w):∀ (l:List ResultVar) (vs:List Value),qL9 P env H l=some vs ->
 ∃ vs',(l.mapM g).run P w=.ok vs' w∧qE P f vs vs'
 | [],vs,h=>by
   simp only[qL9,zM7] at h;subst h;exact⟨[],by simp,.nil⟩
 | rv::l,vs,h=>by
   unfold qL9 at h;split at h
   ·rename_i v hv;split at h
    ·rename_i us hus;cases h;obtain⟨v',h1,h2⟩:=qMP hg zFI hv w hR;obtain⟨us',h3,h4⟩:=qBQ hg zFI hR l us hus;refine⟨v'::us',?_,.cons h2 h4⟩;rw[zRE];simp only[Sem.run_bind,h1,Result.andThen_ok,h3,Sem.run_pure]
    ·cases h
   ·cases h
theorem q7N {vs vs':List Value}(h:qE P f vs vs'):zFB P f (one vs) (one vs'):=by
 cases vs with
 | nil=>rw[h.zFF];exact .undef
 | cons v vs =>
   obtain⟨v',t',rfl,hv,ht⟩:=h.zFD
   cases vs with
   | nil=>rw[ht.zFF];exact hv
   | cons u vs =>
     obtain⟨u',t2,rfl,hu,ht2⟩:=ht.zFD;exact .zF6 (.cons hv (.cons hu ht2))
theorem q9Z (vs:List Value):(if h:vs.toArray.size=1 then vs.toArray[0] else Value.tuple vs.toArray)=one vs:=by
 cases vs with
 | nil=>rfl
 | cons v vs =>
   cases vs with
   | nil=>rfl
   | cons u vs=>rw[dif_neg (by simp)];rfl
theorem mY {fn:Func}(zFI:qE P f env tmps.toList)(hR:Rel P f H w)(h:vZ P fn env H=some v) :
 ∃ v',(results fn tmps).run P w=.ok v' w∧zFB P f v v':=by
 unfold vZ at h;obtain⟨vs,h1,rfl⟩:=zM8.1 h
 have key:∀ g:ResultVar->Sem Value,Reads g tmps->∃ v',(do let vs <- fn.results.mapM g;pure (if h:vs.size=1 then vs[0] else .tuple vs):Sem Value).run P w=.ok v' w∧zFB P f (one vs) v':=by
  intro g hg;obtain⟨vs',h2,h3⟩:=qBQ hg zFI hR _ _ h1;refine⟨one vs',?_,q7N h3⟩;rw[Array.mapM_eq_mapM_toList];simp only[Sem.run_bind,Sem.run_map,h2,Result.andThen_ok,Sem.run_pure];rw[q9Z]
 exact key _ ⟨fun _=>rfl,fun _ _=>rfl⟩
def qZD (P:Program)(good:FuncId->Bool)(G:Nat->Bool):Prop:=∀ f fn c,good f=true->P.funcs[f]?=some fn->fn.body=some c->codeOk G false c=true
theorem oQ:∀ {B:Nat} {f:Inj} {w:World} (ds:List Deferred),Marks B f w ds->∀ r,r < B->∀ d∈ds,d.target≠.collected r
 | _,_,_,[],_,_,_,d,hd=>by cases hd
 | B,f,w,d::ds,⟨⟨x,g1,gB,_⟩,g6⟩,r,hr,d',hd'=>by
   rcases zNF.1 hd' with rfl | hd'
   ·rw[g1];intro hx;cases hx;omega
   ·exact oQ ds g6 r hr d' hd'
theorem qSC {G:Nat->Bool}(hn:wM nat)(hgood:qZD P good G)(n:Nat)(hrun:xE P G (iex P good nat n))(g:FuncId)(args args':List Value)(H:IH)(f:Inj)(w:World)(Q:Value×IH->Prop)
 (hR:Rel P f H w) (hG:uY G f) (ha:qE P f args args') (h:((nJ P good (iex P good nat n) g args H).bind wO).holds Q):CallsIn Fence.wide 0 P g args'.toArray w (Comes P f H w Q):=by
 unfold nJ at h;split at h
 ·rename_i fn hfn;split at h
  ·rename_i c hb
   cases hgd:good g with
   | false=>rw[hgd] at h;exact h.elim
   | true =>
     rw[hgd] at h;simp only[cond_true] at h;rw[T.zFL] at h
     have hext:((iex P good nat n (.code c (qEO args (List.replicate (fn.ntmps - args.length) undef))) H).bind (qCO P fn)).all fun o=>Ext H o.H:=by
      refine uI (qA5 hn n) fun o=>?_
      unfold qCO;split
      ·split
       ·exact .refl _
       ·exact trivial
      ·split
       ·exact .refl _
       ·exact trivial
      ·exact trivial
     have h2:=qD9 hR.fresh _ hext h;rw[T.zFL,aS] at h2;have hcode:codeOk (qX f) false c=true:=qO hG _ _ (hgood g fn c hgd hfn hb)
     have zFI:qE P f (args++List.replicate (fn.ntmps - args.length) undef) (args'.toArray++Array.replicate (fn.ntmps - args'.toArray.size) undef).toList:=by
      have e1:(args'.toArray++Array.replicate (fn.ntmps - args'.toArray.size) undef).toList=args'++List.replicate (fn.ntmps - args.length) undef:=by simp[ha.1]
      rw[e1];refine ha.append ?_
      have key:∀ n,qE P f (List.replicate n undef) (List.replicate n undef):=by
       intro n
       induction n with
       | zero=>exact .nil
       | succ n ih=>exact .cons .undef ih
      exact key _
     refine callsIn_of_wp_marks hfn hb trivial (wpIn_mono (hrun w.heap.size Fence.wide false c _ H f _ w _ qKB (.none rfl) hR hG hcode zFI (zM0 _) h2) ?_);rintro e a' w' ⟨o,f',hq,rfl,k1,k2,k3,k4⟩
     -- what the function hands back
     have done:∀ v,vZ P fn o.env o.H=some v->(T.ret (⟨.normal,[v],o.H⟩:Out)).holds (fun p=>∃ o',(wO o').holds Q∧Sub H p o') ->
      LeavesInM Fence.wide 0 P fn a'.tmps (Comes P f H w Q) a'.defers .returning w':=by
      rintro v hv ⟨o',hq',hs⟩;refine aQ a'.defers w' k1 k4 fun w2 hR2 hsame hsz hot=>?_
      obtain⟨v',h3,h4⟩:=mY (fn:=fn) k3 hR2 hv;refine⟨v',h3,?_⟩;have zJP:=hs.env P f' [v'] (.cons h4 .nil);unfold wO at hq';split at hq'
      ·rename_i u hu;rw[hu] at zJP;obtain⟨u',t',he,hu',_⟩:=zJP.zFD;cases he;refine⟨v',(u,o'.H),f',rfl,hq',hs.rel _ _ _ hR2,⟨zNP k2.zF7 hs.size,k2.stay,k2.le,by rw[hsz];exact k2.size,fun r hr ho=>?_,k2.un,⟨hot.1.trans k2.out.1,hot.2.1.trans k2.out.2.1,hot.2.2.trans k2.out.2.2⟩,fun r h=>⟨(k2.lps r h).choose,(hsame r (fun d hd=>oQ _ k4 r h.lt d hd)).trans (k2.lps r h).choose_spec⟩⟩,hu'⟩;obtain⟨q1,q2⟩:=k2.keep r hr ho;exact⟨q1,by rw[hsame r (fun d hd=>oQ _ k4 r hr d hd)];exact q2⟩
      ·exact hq'.elim
     unfold qCO at hq
     cases he:o.e with
     | normal =>
       rw[he] at hq;simp only at hq;split at hq
       ·rename_i v hv;exact done v hv hq
       ·exact hq.elim
     | ret =>
       rw[he] at hq;simp only at hq;split at hq
       ·rename_i v hv;exact done v hv hq
       ·exact hq.elim
     | exit id=>rw[he] at hq;exact hq.elim
     | goto l=>rw[he] at hq;exact hq.elim
  ·exact h.elim
 ·exact h.elim
end Go.Idl
namespace Go.Idl
variable {P:Program}{good:FuncId->Bool}{nat:xA}{B:Nat}
variable {H:IH}{f:Inj}{l:Nat}{w:World}
theorem q58 {r:Nat}{o:Obj}(h:r < w.heap.size)(x:Nat):(w.putObj r o).heap[x]?=if x=r then some o else w.heap[x]?:=heap_put h
theorem vY {e:Emb}{lp:Loop}(hR:Rel P f H w)(he:f l=some e)(hg:H.get l=some (.loop lp)) :
 e.ro=false∧∃ lp',w.heap[e.r]?=some (.loop lp')∧lp'.state=lp.state∧lp'.pending=lp.pending∧lp'.params=lp.params∧lp'.assign=lp.assign∧lp'.body=lp.body ∧
  qE P f lp.tmps.toList lp'.tmps.toList∧codeOk (qX f) true lp.assign=true∧codeOk (qX f) true lp.body=true∧(∀ c,lp.pending=some c->qI7 c=true)∧e.shift=0:=hR.obj l e _ he hg
theorem dL {e:Emb}{lp lp':Loop}(st:LoopState)(pd:Option Code)(hpd:∀ c,pd=some c->qI7 c=true)(hR:Rel P f H w)(he:f l=some e)(hg:H.get l=some (.loop lp))
 (h0:w.heap[e.r]?=some (.loop lp')) :
 Rel P f (H.put l (.loop { lp with state:=st,pending:=pd })) (w.putObj e.r (.loop { lp' with state:=st,pending:=pd }))∧Grow f H w f (H.put l (.loop { lp with state:=st,pending:=pd })) (w.putObj e.r (.loop { lp' with state:=st,pending:=pd })):=by
 obtain⟨hro,lp2,h1,g1,g2,g3,g4,g5,g6,g7,g8,g9,g10⟩:=vY hR he hg;rw[h0] at h1;cases h1
 obtain⟨r1,r2,_⟩:=Rel.put (o1:=.loop { lp with state:=st,pending:=pd }) (o1':=.loop { lp' with state:=st,pending:=pd }) (w':=w.putObj e.r (.loop { lp' with state:=st,pending:=pd })) hR he hg rfl hro
  ⟨hro,_,rfl,rfl,rfl,g3,g4,g5,g6,g7,g8,hpd,g10⟩ (q58 (hR.bound l e he)) (by simp)
 exact⟨r1,r2⟩
theorem qFI {f:Inj}:∀ (ps:List Tmp) (args args':List Value) (t t':List Value),qE P f args args'->qE P f t t' ->
 qE P f ((ps.zip args).foldl (fun e p=>yQ e p.1 p.2) t) ((ps.zip args').foldl (fun e p=>e.set p.1 p.2) t')
 | [],args,args',t,t',_,ht=>by simpa using ht
 | p::ps,[],args',t,t',ha,ht=>by rw[ha.zFF];simpa using ht
 | p::ps,a::args,args',t,t',ha,ht=>by
   obtain⟨a',r',rfl,hv,hr⟩:=ha.zFD;simp only[List.zip_cons_cons,zOR];exact qFI ps args r' _ _ hr (by rw[qV];exact ht.set hv p)
theorem qG3:∀ (l:List (Tmp×Value)) (t:Array Value),(l.foldl (fun tmps (p:Tmp×Value)=>tmps.setIfInBounds p.1 p.2) t).toList=l.foldl (fun e p=>e.set p.1 p.2) t.toList
 | [],t=>rfl
 | p::l,t=>by
   simp only[zOR];rw[qG3 l,zPV]
theorem qMF {G:Nat->Bool}(n:Nat)(hrun:xE P G (iex P good nat n))(l:Nat)(args args':List Value)(H:IH)(f:Inj)(w:World)(e:Emb)(Q:Value×IH->Prop)
 (hR:Rel P f H w) (hG:uY G f) (he:f l=some e) (ha:qE P f args args') (h:((aI (iex P good nat n) l args H).bind wO).holds Q) :
 ∃ fn tmps assign body,(Instr.yield e.r args'.toArray).run P w=.ok (.round e.r fn tmps assign body) w∧RoundIn Fence.wide 0 P e.r fn tmps assign body w (Comes P f H w Q):=by
 unfold aI at h;split at h
 ·rename_i lp hg;split at h
  ·rename_i hc;simp only[zMY,beq_iff_eq,decide_eq_true_eq] at hc;obtain⟨hst,hbase,hlen⟩:=hc;have hlen:args.length=lp.params.size:=zMZ hlen;obtain⟨hro,lp',h1,g1,g2,g3,g4,g5,g6,g7,g8,g9,g10⟩:=vY hR he hg;refine⟨lp'.fn,_,lp'.assign,lp'.body,run_yield h1 (by rw[g3,<-hlen,ha.1];simp),?_⟩;rw[T.zFL,T.zFL] at h
   have zFI:qE P f ((lp.params.toList.zip args).foldl (fun e p=>yQ e p.1 p.2) lp.tmps.toList) ((lp'.params.zip args'.toArray).foldl (fun tmps (t,a)=>tmps.setIfInBounds t a) lp'.tmps).toList:=by
    rw[<-zPF,Array.toList_zip];have:=qG3 (lp'.params.toList.zip args') lp'.tmps;simp only[] at this ⊢;rw[this,g3];exact qFI lp.params.toList args args' _ _ ha g6
   refine roundIn_of_wpIn (F:=Fence.wide) trivial ?_;rw[g4,g5];refine wpIn_mono (hrun w.heap.size (Fence.wide.inRound e.r) true lp.assign _ H f _ w _ (bT _) ⟨rfl,fun l h=>by have:=zN0 h;subst this;exact⟨_,h1⟩⟩ hR hG g7 zFI (zM0 _) h) ?_;rintro ex a1 w1 ⟨o,f1,hq,rfl,k1,k2,k3,k4⟩;unfold qCH at hq
   cases heo:o.e with
   | normal =>
     rw[heo] at hq;simp only at hq;split at hq
     ·rename_i lp1 hg1;split at hq
      ·rename_i zJD;simp only[beq_iff_eq] at zJD;have he1:=k2.le _ _ he;obtain⟨_,zIM,q1,q2,q3,q4,q5,q6,q7,q8,q9,q10,q11⟩:=vY k1 he1 hg1;refine⟨_,run_beginRound q1 (by rw[q2,zJD]),?_⟩;obtain⟨p1,p2⟩:=dL .busy lp1.pending q10 k1 he1 hg1 q1;rw[T.zFL] at hq;have e1:({ zIM with state:=.busy,pending:=lp1.pending }:Loop)={ zIM with state:=.busy }:=by rw[<-q3]
       have e2:({ lp1 with state:=.busy,pending:=lp1.pending }:Loop)={ lp1 with state:=.busy }:=rfl;rw[e1,e2] at p1;rw[e1] at p2;have hG1:=hG.mono k2.le;refine wpIn_mono (hrun w.heap.size (Fence.wide.inRound e.r) true lp.body _ _ f1 a1 _ _ (bT _) ⟨rfl,fun l h=>by have:=zN0 h;subst this;exact p2.lps _ ⟨_,q1⟩⟩ p1 hG1 (qO (zF k2.le) _ _ g8) k3 (Marks.grow p2 _ k4) hq) ?_;rintro ex2 a2 w2 ⟨s,f2,hs,rfl,s1,s2,s3,s4⟩;unfold roundEnd at hs;split at hs
       ·rename_i lp2 hg2;have he2:=s2.le _ _ he1;obtain⟨_,zLN,t1,t2,t3,t4,t5,t6,t7,t8,t9,t10,t11⟩:=vY s1 he2 hg2
        have zIN:∀ c,yU s.e=some c->qI7 c=true:=by
         intro c hc;cases hse:s.e <;> rw[hse] at hc <;> simp[yU] at hc <;> subst hc <;> rfl
        obtain⟨u1,u2⟩:=dL (if (yU s.e).isNone then .ready else .done) (yU s.e) zIN s1 he2 hg2 t1
        have fin:∃ v w',(Instr.endRound e.r (yU s.e)).run P w2=.ok v w'∧Comes P f H w Q (.returned v) w' :=
         ⟨_,_,run_endRound (yU s.e) t1,⟨_,_,f2,rfl,hs,u1,((k2.trans p2).trans s2).trans u2,.base _ rfl⟩⟩
        cases hse:s.e with
        | normal=>rw[hse] at fin;exact fin
        | ret=>rw[hse] at fin;exact fin
        | exit id=>rw[hse] at fin;exact fin
        | goto t=>rw[hse] at fin;exact fin
       ·exact hs.elim
      ·exact hq.elim
     ·exact hq.elim
   | exit id=>rw[heo] at hq;exact hq.elim
   | goto t=>rw[heo] at hq;exact hq.elim
   | ret=>rw[heo] at hq;exact hq.elim
  ·exact h.elim
 ·exact h.elim
end Go.Idl
namespace Go.Idl
variable {P:Program}{good:FuncId->Bool}{nat:xA}{B:Nat}
variable {F:Fence}{G:Nat->Bool}{H:IH}{Q:Out->Prop}{a:Act}{env:Env}{f:Inj}{ps:Array Tmp}{v:Operand}{w:World}{x y:Code}
theorem Rel.beside (o:Obj)(hR:Rel P f H w):Rel P f H (w.alloc o)∧Grow f H w f H (w.alloc o)∧∀ b e,f b=some e->e.r≠w.heap.size:=by
 have hne:∀ b e,f b=some e->e.r≠w.heap.size:=fun b e hb=>by have:=hR.bound b e hb;omega
 refine⟨⟨hR.dom,hR.fresh,fun b e hb=>?_,fun b e ob hb ho=>?_,hR.sep,hR.zFU⟩,⟨zM0 _,fun _ _ h=>h,f.le_refl,by simp,fun r hr ho=>⟨ho,?_⟩,fun _ _ h=>h,⟨rfl,rfl,rfl⟩,fun r h=>h.alloc _⟩,hne⟩
 ·have:=hR.bound b e hb;simp;omega
 ·rw[heap_alloc,if_neg (hne b e hb)];exact hR.obj b e ob hb ho
 ·rw[heap_alloc,if_neg (by omega)]
theorem qBG {g:FuncId}(h:entered P g=true):∃ fn,P.funcs[g]?=some fn∧fn.body.isSome=true∧(fn.name != "runtime.NumGoroutine")=true:=by
 unfold entered at h;split at h
 ·rename_i fn hf;simp only[zMY] at h;exact⟨fn,hf,h.1,h.2⟩
 ·cases h
theorem sM {l₀:Nat}{r₀:Loop}(h:w.heap[l₀]?=some (.loop r₀))(fn:FuncId)(tmps:Array Value)(ps:Array Tmp)(assign body:Code) :
 (Instr.enterLoop fn tmps ps assign body (some l₀)).run P w=.ok (w.heap.size,[]) (w.alloc (.loop { state:=.ready,pending:=none,fn,tmps,params:=ps,assign,body,defers:=r₀.defers })):=by
 unfold Instr.enterLoop;simp only[Sem.run_bind,run_getLoop h,run_newObj_alloc,Result.andThen,Sem.run_pure]
theorem qIN {run:Job->IH->T Out}(hc:kF P G (yJ run nat))(hrun:xE P G run)
 (hF:aV F) (hrd:F.round=none) (hR:Rel P f H w) (hG:uY G f) (hv:kR (qX f) v=true) (hx:codeOk (qX f) true x=true) (hy:codeOk (qX f) true y=true)
 (zFI:qE P f env a.tmps.toList) (hm:Marks B f w a.defers) (h:(kT P run nat (env.val v) ps x y env H).holds Q) :
 (Code.rangeFunc v ps x y).wpIn F 0 P (kZ P B f H w Q) a w:=by
 have hev:=nE zFI hv;unfold kT at h;split at h
 ·rename_i g first captured hg
  rw[hg] at hev
  cases hent:entered P g with
  | false=>rw[hent] at h;exact h.elim
  | true =>
    rw[hent] at h;simp only[cond_true] at h;obtain⟨fn,hfn,hbody,hname⟩:=qBG hent
    rcases hev.zGH with ⟨g',a',c',hg',zJ5,h1,h2⟩ | ⟨l,e,hg',_⟩
    ·cases hg';refine wpIn_rangeFunc fun zHS _=>?_
     have zGJ:F.round=none:=hrd;obtain⟨b1,b2,b3⟩:=hR.beside (.deferred (some []));have hnone:f H.size=none:=bI hR
     let e0:Emb:=⟨w.heap.size+1,0,0,false⟩
     have hle:f.le (f.add H.size e0):=Inj.zGG hnone
     have hO:tX P (f.add H.size e0) e0 (.loop { state:=.ready,pending:=none,fn:=0,tmps:=env.toArray,params:=ps,assign:=x,body:=y,defers:=0 })
      (some (.loop { state:=.ready,pending:=none,fn:=zHS,tmps:=a.tmps,params:=ps,assign:=x,body:=y,defers:=w.heap.size })) :=
      ⟨rfl,_,rfl,rfl,rfl,rfl,rfl,rfl,by simpa using zFI.mono hle,qO (zF hle) _ _ hx,qO (zF hle) _ _ hy,(fun c hc=>by cases hc),rfl⟩
     obtain⟨p1,p2⟩:=Rel.push (e:=e0) b1 (by simp[e0]) hO
     let w1:World:=(w.alloc (.deferred (some []))).alloc (.loop { state:=.ready,pending:=none,fn:=zHS,tmps:=a.tmps,params:=ps,assign:=x,body:=y,defers:=w.heap.size })
     refine⟨w.heap.size+1,[{ target:=.collected w.heap.size,args:=#[] }],w1,{ target:=.fn (.func g) c',args:=a'++#[.func (.yield (w.heap.size+1)) #[] #[]] },w1,g,a'++#[.func (.yield (w.heap.size+1)) #[] #[]]++c',w1,
      by rw[zGJ];exact run_enterLoop_outer zHS a.tmps ps x y,?_,fun f' _=>hF.fn f',?_,fun hd=>absurd hd (by rw[hF.depth];simp),?_⟩
     ·simp only[resolve];rw[zJ5];simp[Deferred.ofValue,Act.eval]
     ·simp only[invoke];exact run_callFunc_enter hfn hbody hname
     ·have hall:qE P (f.add H.size e0) (qEO first.toList (Value.func (Fn.yield H.size) #[] #[]::captured.toList)) (a'.toList++(Value.func (Fn.yield (w.heap.size+1)) #[] #[]::c'.toList)):=by
       rw[aS];refine (h1.mono hle).append (.cons ?_ (h2.mono hle));have:=zFB.yield (P:=P) (Inj.add_same (f:=f) (b:=H.size) (e:=e0));exact this
      rw[T.zFL] at h;have hcall:=hc g _ _ _ _ w1 _ p1 (hG.mono hle) hall h;have harr:(a'.toList++(Value.func (Fn.yield (w.heap.size+1)) #[] #[]::c'.toList)).toArray=a'++#[.func (.yield (w.heap.size+1)) #[] #[]]++c':=by apply zOJ;simp
      rw[harr] at hcall;have hg1:Grow f H w (f.add H.size e0) _ w1:=b2.trans p2
      have hmark:Marks B (f.add H.size e0) w1 ([{ target:=.collected w.heap.size,args:=#[] }]++a.defers):=by
       refine⟨⟨w.heap.size,rfl,Marks.le hm,by simp[w1];omega,?_,?_,?_⟩,Marks.grow hg1 _ hm⟩
       ·show w1.heap[w.heap.size]?=_;rw[heap_alloc,if_neg (by simp),heap_alloc,if_pos rfl]
       ·intro b e hb;by_cases hbs:b=H.size
        ·subst hbs;rw[Inj.add_same] at hb;cases hb;simp[e0]
        ·rw[Inj.zFC hbs] at hb;exact b3 b e hb
       ·have key:∀ (ds:List Deferred),Marks B f w ds->∀ d'∈ds,d'.target≠.collected w.heap.size:=by
         intro ds
         induction ds with
         | nil=>intro _ d' hd';cases hd'
         | cons d ds ih =>
           rintro⟨⟨r,q1,_,q2,_⟩,q3⟩ d' hd';rcases zNF.1 hd' with rfl | hd'
           ·rw[q1];intro hx;cases hx;omega
           ·exact ih q3 d' hd'
        exact key _ hm
      refine CallsIn.mono (hF.calls hcall) ?_;rintro e w3 ⟨v',r,f3,rfl,hq,k1,k2,k3⟩;unfold kQ at hq;split at hq
      ·rename_i lp hgl;split at hq
       ·exact hq.elim
       ·rename_i zIO;have he3:f3 H.size=some e0:=k2.le _ _ Inj.add_same;obtain⟨_,lp',t1,t2,t3,t4,t5,t6,t7,t8,t9,t10,t11⟩:=vY k1 he3 hgl;obtain⟨u1,u2⟩:=dL .exhausted lp.pending t10 k1 he3 hgl t1;have hend:=run_endLoop (P:=P) t1 (by rw[t2];simpa using zIO);have hg3:Grow f H w f3 _ _:=(hg1.trans k2).trans u2;have e1:({ lp' with state:=.exhausted,pending:=lp.pending }:Loop)={ lp' with state:=.exhausted }:=by rw[<-t3]
        rw[e1] at u1 u2 hg3
        have hend':(Instr.endLoop (w.heap.size+1)).run P w3=.ok lp.pending (w3.putObj (w.heap.size+1) (.loop { lp' with state:=.exhausted })):=by
         have:=hend;rw[show (Instr.endLoop (w.heap.size+1))=Instr.endLoop e0.r from rfl,this,t3]
        refine⟨lp.pending,_,hend',?_⟩;split at hq
        ·rename_i hp;rw[hp];have e2:({ lp with state:=.exhausted,pending:=lp.pending }:Loop)={ lp with state:=.exhausted }:=rfl;rw[e2] at u1;exact⟨⟨.normal,env,_⟩,f3,hq,rfl,u1,hg3,zFI.mono hg3.le,Marks.grow (k2.trans u2) _ hmark⟩
        ·rename_i c hp;rw[hp];have hj:=t10 c hp
         have hok:codeOk (qX f3) F.round.isSome c=true:=by cases c <;> first | rfl | cases hj
         exact wpIn_mono (hrun B F _ c env _ f3 _ _ Q hF ⟨rfl,fun l h=>by rw[zGJ] at h;cases h⟩ u1 (hG.mono hg3.le) hok (zFI.mono hg3.le) (Marks.grow (k2.trans u2) _ hmark) hq) fun e a w=>jT hg3 fun _ h=>h
      ·exact hq.elim
    ·cases hg'
 ·exact h.elim
theorem qJ1 {run:Job->IH->T Out}(hc:kF P G (yJ run nat))(hrun:xE P G run){l0:Nat}{r0:Loop}
 (hF:aV F) (hrd:F.round=some l0) (hR:Rel P f H w) (hG:uY G f) (hv:kR (qX f) v=true) (hx:codeOk (qX f) true x=true) (hy:codeOk (qX f) true y=true)
 (zFI:qE P f env a.tmps.toList) (hm:Marks B f w a.defers) (hl0:w.heap[l0]?=some (.loop r0)) (h:(kT P run nat (env.val v) ps x y env H).holds Q) :
 (Code.rangeFunc v ps x y).wpIn F 0 P (kZ P B f H w Q) a w:=by
 have hev:=nE zFI hv;unfold kT at h;split at h
 ·rename_i g first captured hg
  rw[hg] at hev
  cases hent:entered P g with
  | false=>rw[hent] at h;exact h.elim
  | true =>
    rw[hent] at h;simp only[cond_true] at h;obtain⟨fn,hfn,hbody,hname⟩:=qBG hent
    rcases hev.zGH with ⟨g',a',c',hg',zJ5,h1,h2⟩ | ⟨l,e,hg',_⟩
    ·cases hg';refine wpIn_rangeFunc fun zHS _=>?_
     have zGJ:F.round=some l0:=hrd;have hnone:f H.size=none:=bI hR
     let e0:Emb:=⟨w.heap.size,0,0,false⟩
     have hle:f.le (f.add H.size e0):=Inj.zGG hnone
     have hO:tX P (f.add H.size e0) e0 (.loop { state:=.ready,pending:=none,fn:=0,tmps:=env.toArray,params:=ps,assign:=x,body:=y,defers:=0 })
      (some (.loop { state:=.ready,pending:=none,fn:=zHS,tmps:=a.tmps,params:=ps,assign:=x,body:=y,defers:=r0.defers })) :=
      ⟨rfl,_,rfl,rfl,rfl,rfl,rfl,rfl,by simpa using zFI.mono hle,qO (zF hle) _ _ hx,qO (zF hle) _ _ hy,(fun c hc=>by cases hc),rfl⟩
     obtain⟨p1,p2⟩:=Rel.push (e:=e0) hR (by simp[e0]) hO
     let w1:World:=w.alloc (.loop { state:=.ready,pending:=none,fn:=zHS,tmps:=a.tmps,params:=ps,assign:=x,body:=y,defers:=r0.defers })
     refine⟨w.heap.size,[],w1,{ target:=.fn (.func g) c',args:=a'++#[.func (.yield w.heap.size) #[] #[]] },w1,g,a'++#[.func (.yield w.heap.size) #[] #[]]++c',w1,
      by rw[zGJ];exact sM hl0 zHS a.tmps ps x y,?_,fun f' _=>hF.fn f',?_,fun hd=>absurd hd (by rw[hF.depth];simp),?_⟩
     ·simp only[resolve];rw[zJ5];simp[Deferred.ofValue,Act.eval]
     ·simp only[invoke];exact run_callFunc_enter hfn hbody hname
     ·have hall:qE P (f.add H.size e0) (qEO first.toList (Value.func (Fn.yield H.size) #[] #[]::captured.toList)) (a'.toList++(Value.func (Fn.yield w.heap.size) #[] #[]::c'.toList)):=by
       rw[aS];refine (h1.mono hle).append (.cons ?_ (h2.mono hle));have:=zFB.yield (P:=P) (Inj.add_same (f:=f) (b:=H.size) (e:=e0));exact this
      rw[T.zFL] at h;have hcall:=hc g _ _ _ _ w1 _ p1 (hG.mono hle) hall h;have harr:(a'.toList++(Value.func (Fn.yield w.heap.size) #[] #[]::c'.toList)).toArray=a'++#[.func (.yield w.heap.size) #[] #[]]++c':=by apply zOJ;simp
      rw[harr] at hcall;have hg1:Grow f H w (f.add H.size e0) _ w1:=p2;have hmark:Marks B (f.add H.size e0) w1 ([]++a.defers):=Marks.grow hg1 _ hm;refine CallsIn.mono (hF.calls hcall) ?_;rintro e w3 ⟨v',r,f3,rfl,hq,k1,k2,k3⟩;unfold kQ at hq;split at hq
      ·rename_i lp hgl;split at hq
       ·exact hq.elim
       ·rename_i zIO;have he3:f3 H.size=some e0:=k2.le _ _ Inj.add_same;obtain⟨_,lp',t1,t2,t3,t4,t5,t6,t7,t8,t9,t10,t11⟩:=vY k1 he3 hgl;obtain⟨u1,u2⟩:=dL .exhausted lp.pending t10 k1 he3 hgl t1;have hend:=run_endLoop (P:=P) t1 (by rw[t2];simpa using zIO);have hg3:Grow f H w f3 _ _:=(hg1.trans k2).trans u2;have e1:({ lp' with state:=.exhausted,pending:=lp.pending }:Loop)={ lp' with state:=.exhausted }:=by rw[<-t3]
        rw[e1] at u1 u2 hg3
        have hend':(Instr.endLoop w.heap.size).run P w3=.ok lp.pending (w3.putObj w.heap.size (.loop { lp' with state:=.exhausted })):=by
         have:=hend;rw[show (Instr.endLoop w.heap.size)=Instr.endLoop e0.r from rfl,this,t3]
        refine⟨lp.pending,_,hend',?_⟩;split at hq
        ·rename_i hp;rw[hp];have e2:({ lp with state:=.exhausted,pending:=lp.pending }:Loop)={ lp with state:=.exhausted }:=rfl;rw[e2] at u1;exact⟨⟨.normal,env,_⟩,f3,hq,rfl,u1,hg3,zFI.mono hg3.le,Marks.grow (k2.trans u2) _ hmark⟩
        ·rename_i c hp;rw[hp];have hj:=t10 c hp
         have hok:codeOk (qX f3) F.round.isSome c=true:=by cases c <;> first | rfl | cases hj
         exact wpIn_mono (hrun B F _ c env _ f3 _ _ Q hF ⟨rfl,fun l h=>by rw[zGJ] at h;cases h;exact hg3.lps _ ⟨_,hl0⟩⟩ u1 (hG.mono hg3.le) hok (zFI.mono hg3.le) (Marks.grow (k2.trans u2) _ hmark) hq) fun e a w=>jT hg3 fun _ h=>h
      ·exact hq.elim
    ·cases hg'
 ·exact h.elim
theorem qBV {run:Job->IH->T Out}(hc:kF P G (yJ run nat))(hrun:xE P G run){rd:Bool}
 (hF:aV F) (hrd:zGO rd F w) (hR:Rel P f H w) (hG:uY G f) (hv:kR (qX f) v=true) (hx:codeOk (qX f) true x=true) (hy:codeOk (qX f) true y=true)
 (zFI:qE P f env a.tmps.toList) (hm:Marks B f w a.defers) (h:(kT P run nat (env.val v) ps x y env H).holds Q) :
 (Code.rangeFunc v ps x y).wpIn F 0 P (kZ P B f H w Q) a w:=by
 cases hF0:F.round with
 | none=>exact qIN hc hrun hF hF0 hR hG hv hx hy zFI hm h
 | some l0 =>
   obtain⟨r0,hl0⟩:=hrd.lp l0 hF0;exact qJ1 hc hrun hF hF0 hR hG hv hx hy zFI hm hl0 h
end Go.Idl
namespace Go.Idl
variable {P:Program}{good:FuncId->Bool}{nat:xA}
def vI (P:Program)(G:Nat->Bool)(nat:xA):Prop :=
 ∀ (g:FuncId) (k:List Value->IH->T (Value×IH)),nat g=some k->∀ (args args':List Value) (H:IH) (f:Inj) (w:World) (Q:Value×IH->Prop),Rel P f H w->uY G f->qE P f args args'->(k args H).holds Q ->
  CallsIn Fence.wide 0 P g args'.toArray w (Comes P f H w Q)
theorem qL4 {G:Nat->Bool}{run:Job->IH->T Out}{B:Nat}(hrun:xE P G run){F:Fence}{rd:Bool}{x:Code}{env:Env}{H:IH}{f:Inj}{a:Act}{w:World}{Q:Out->Prop}(hF:aV F)(hrd:zGO rd F w)(hR:Rel P f H w)(hG:uY G f)
 (hx:codeOk (qX f) rd x=true) (zFI:qE P f env a.tmps.toList) (hm:Marks B f w a.defers) (h:((run (.code x env) H).bind nS).holds Q) :
 (Code.scope x).wpIn F 0 P (kZ P B f H w Q) a w:=by
 rw[T.zFL] at h;refine wG (wpIn_mono (hrun B F rd x env H f a w _ hF hrd hR hG hx zFI hm h) ?_);rintro e a' w' ⟨o,f',hq,rfl,h1,h2,h3,h4⟩;unfold nS at hq
 cases he:o.e with
 | normal=>rw[he] at hq;exact⟨o,f',hq,by rw[he],h1,h2,h3,h4⟩
 | exit id=>rw[he] at hq;exact⟨o,f',hq,by rw[he],h1,h2,h3,h4⟩
 | goto l=>rw[he] at hq;exact hq.elim
 | ret=>rw[he] at hq;exact⟨o,f',hq,by rw[he],h1,h2,h3,h4⟩
theorem qJ5 {G:Nat->Bool}(hn:wM nat)(zLO:vI P G nat)(hgood:qZD P good G)(zKN:∀ run,fP run->kF P G (yJ run nat)->kS P G run->qHG P G nat run) :
 ∀ n,xE P G (iex P good nat n)∧kF P G (yJ (iex P good nat n) nat)∧kS P G (iex P good nat n):=by
 intro n
 induction n using Nat.strongRecOn with
 | _ n ih =>
   have hcode:xE P G (iex P good nat n):=by
    cases n with
    | zero=>intro B F rd c env H f a w Q _ _ _ _ _ _ _ h;exact h.elim
    | succ n =>
      obtain⟨h1,h2,h3⟩:=ih n (zNV n);intro B F rd c env H f a w Q hF hrd hR hG hok zFI hm h;have h':(tH P (iex P good nat n) nat c env H).holds Q:=h
      cases c with
      | skip=>exact wpIn_skip (vG (e:=.normal) hR zFI hm h')
      | label l=>exact wpIn_label (vG (e:=.normal) hR zFI hm h')
      | ret=>exact wpIn_ret (vG (e:=.ret) hR zFI hm h')
      | exit id=>exact wpIn_exit (vG (e:=.exit id) hR zFI hm h')
      | seq x y =>
        simp only[codeOk,zMY] at hok;exact qWT h1 hF hrd hR hG hok.1 hok.2 zFI hm h'
      | cond v x y =>
        simp only[codeOk,zMY] at hok;exact qSI h1 hF hrd hR hG hok.1 hok.2.1 hok.2.2 zFI hm h'
      | block id x=>exact qNN h1 hF hrd hR hG hok zFI hm h'
      | loop x=>exact qRF hn hF hrd (n+1) (fun m hm=>(ih m hm).1) hR hG hok zFI hm h
      | region id ops draw =>
        simp only[codeOk,zMY] at hok;exact qJG h2 h3 (zKN _ (qA5 hn n) h2 h3) hF hR hG hok.1 hok.2 zFI hm h'
      | rangeFunc v ps x y =>
        simp only[codeOk,zMY] at hok;exact qBV h2 h1 hF hrd hR hG hok.2.1 hok.2.2.1 hok.2.2.2 zFI hm h'
      | scope x=>exact qL4 h1 hF hrd hR hG hok zFI hm h'
      | goto l=>exact h'.elim
      | refuse s=>exact h'.elim
   refine⟨hcode,?_,?_⟩
   ·intro g args args' H f w Q hR hG ha h;unfold yJ at h;split at h
    ·rename_i k hk;exact zLO g k hk args args' H f w Q hR hG ha h
    ·cases n with
     | zero=>exact h.elim
     | succ n=>exact qSC hn hgood n (ih n (zNV n)).1 g args args' H f w Q hR hG ha h
   ·intro l args args' H f w e Q hR hG he ha h
    cases n with
    | zero=>exact h.elim
    | succ n=>exact qMF n (ih n (zNV n)).1 l args args' H f w e Q hR hG he ha h
end Go.Idl
namespace Go.Idl
variable {i j:Nat}{ops:Array Oper}
def qHO (acc:Array Nat)(o:Oper):Nat:=o.after.foldl (fun s e=>if Region.binds .any e then s ||| 2 ^ e.on ||| acc.getD e.on 0 else s) 0
def pushB (acc:Array Nat)(o:Oper):Array Nat:=acc.push (qHO acc o)
theorem qBW (ops:Array Oper):Region.before ops=ops.toList.foldl pushB #[]:=by
 unfold Region.before pushB qHO;rw[<-zPF]
theorem qOT (acc:Array Nat)(i:Nat):∀ (l:List Edge) (s:Nat),
 (l.foldl (fun s e=>if Region.binds .any e then s ||| 2 ^ e.on ||| acc.getD e.on 0 else s) s).testBit i=true ↔
   s.testBit i=true∨∃ e∈l,Region.binds .any e=true∧(i=e.on∨(acc.getD e.on 0).testBit i=true)
 | [],s=>by simp
 | e::l,s=>by
   rw[zOR,qOT acc i l];by_cases hb:Region.binds .any e=true
   ·rw[if_pos hb];simp only[Nat.testBit_or,Nat.testBit_two_pow,zN1,decide_eq_true_eq,zNF];constructor
    ·rintro (((h | h) | h) | ⟨e',h1,h2,h3⟩)
     ·exact .inl h
     ·exact .inr ⟨e,.inl rfl,hb,.inl h.symm⟩
     ·exact .inr ⟨e,.inl rfl,hb,.inr h⟩
     ·exact .inr ⟨e',.inr h1,h2,h3⟩
    ·rintro (h | ⟨e',h1 | h1,h2,h3⟩)
     ·exact .inl (.inl (.inl h))
     ·subst h1;rcases h3 with h3 | h3
      ·exact .inl (.inl (.inr h3.symm))
      ·exact .inl (.inr h3)
     ·exact .inr ⟨e',h1,h2,h3⟩
   ·rw[if_neg hb];simp only[zNF];constructor
    ·rintro (h | ⟨e',h1,h2,h3⟩)
     ·exact .inl h
     ·exact .inr ⟨e',.inr h1,h2,h3⟩
    ·rintro (h | ⟨e',h1 | h1,h2,h3⟩)
     ·exact .inl h
     ·subst h1;exact absurd h2 hb
     ·exact .inr ⟨e',h1,h2,h3⟩
theorem row_iff (acc:Array Nat)(o:Oper)(i:Nat):(qHO acc o).testBit i=true ↔ ∃ e∈o.after,Region.binds .any e=true∧(i=e.on∨(acc.getD e.on 0).testBit i=true):=by
 unfold qHO;rw[<-zPF,qOT];simp
theorem qWF (acc:Array Nat)(o:Oper)(k:Nat)(h:k < acc.size):(pushB acc o).getD k 0=acc.getD k 0:=by
 unfold pushB;simp only[zND,Array.getElem?_push];rw[if_neg (by omega)]
theorem qDH (acc:Array Nat)(o:Oper):(pushB acc o).getD acc.size 0=qHO acc o:=by
 unfold pushB;simp[zND]
theorem bW (acc:Array Nat)(o:Oper):(pushB acc o).size=acc.size+1:=by simp[pushB]
theorem qCG:∀ (l:List Oper) (acc:Array Nat) (k:Nat),k < acc.size->(l.foldl pushB acc).getD k 0=acc.getD k 0
 | [],_,_,_=>rfl
 | o::l,acc,k,h=>by
   rw[zOR,qCG l _ _ (by rw[bW];omega),qWF acc o k h]
theorem rA:∀ (l:List Oper) (acc:Array Nat),(l.foldl pushB acc).size=acc.size+l.length
 | [],_=>rfl
 | o::l,acc=>by rw[zOR,rA l,bW,zNZ];omega
theorem fold_at:∀ (l:List Oper) (acc:Array Nat) (k:Nat) (o:Oper),l[k]?=some o->(l.foldl pushB acc).getD (acc.size+k) 0=qHO ((l.take k).foldl pushB acc) o
 | [],_,_,_,h=>by simp at h
 | p::l,acc,0,o,h=>by
   simp only[zNS,zM7] at h;subst h;rw[zOR,qCG l _ _ (by rw[bW];omega),zPL,qDH];rfl
 | p::l,acc,k+1,o,h=>by
   have:=fold_at l (pushB acc p) k o (by simpa using h);rw[bW] at this;rw[zOR,zO2,zOR,show acc.size+(k+1)=acc.size+1+k by omega];exact this
theorem qF6 (hb:∀ j o,ops[j]?=some o->∀ e∈o.after,Region.binds .any e=true->e.on < j){j:Nat}{o:Oper}(ho:ops[j]?=some o) :
 vH (Region.before ops) i j=true ↔ ∃ e∈o.after,Region.binds .any e=true∧(i=e.on∨vH (Region.before ops) i e.on=true):=by
 have ho':ops.toList[j]?=some o:=by simpa using ho
 have hlen:j < ops.toList.length:=(zM6.1 ho').1
 have h1:(Region.before ops).getD j 0=qHO ((ops.toList.take j).foldl pushB #[]) o:=by
  have:=fold_at ops.toList #[] j o ho';rw[qBW];simpa using this
 have h2:∀ k,k < j->((ops.toList.take j).foldl pushB #[]).getD k 0=(Region.before ops).getD k 0:=by
  intro k hk;have e1:ops.toList=ops.toList.take j++ops.toList.drop j:=(zQ2 j _).symm;rw[qBW]
  conv=>rhs;rw[e1,List.foldl_append]
  refine (qCG _ _ _ ?_).symm;rw[rA];simp only[zOA];have:(#[]:Array Nat).size=0:=rfl;omega
 unfold vH;rw[h1,row_iff];constructor
 ·rintro⟨e,he,hbd,h3⟩;refine⟨e,he,hbd,?_⟩;rw[h2 _ (hb j o ho e he hbd)] at h3;exact h3
 ·rintro⟨e,he,hbd,h3⟩;refine⟨e,he,hbd,?_⟩;rw[h2 _ (hb j o ho e he hbd)];exact h3
theorem q0L (ho:ops[j]?=none):vH (Region.before ops) i j=false:=by
 unfold vH
 have:(Region.before ops)[j]?=none:=by
  rw[qBW,zQW];rw[rA];have:=Array.getElem?_eq_none_iff.1 ho;simpa using this
 simp[zND,this]
theorem vP (hb:∀ j o,ops[j]?=some o->∀ e∈o.after,Region.binds .any e=true->e.on < j):∀ (j i:Nat),vH (Region.before ops) i j=true->i < j:=by
 intro j
 induction j using Nat.strongRecOn with
 | _ j ih =>
   intro i h
   cases ho:ops[j]? with
   | none=>rw[q0L ho] at h;cases h
   | some o =>
     obtain⟨e,he,hbd,h3⟩:=(qF6 hb ho).1 h;have hlt:=hb j o ho e he hbd;rcases h3 with h3 | h3
     ·omega
     ·have:=ih e.on hlt i h3;omega
end Go.Idl
namespace Go.Idl
variable {P:Program}
variable {H:IH}{env env':Env}{o:Oper}
theorem o5 {o:Oper}(hs:∀ cs b,o.op≠.select cs b)(h:∀ x∈o.op.operands,env.val x=env'.val x):kG P o env H=kG P o env' H:=by
 unfold kG;rw[execOp_congr o hs h,xC,xC,zOK (g:=env'.val) fun x hx=>h x (zN9.2 hx)]
theorem qUF {o:Oper}(h:∀ x∈o.op.operands,env.val x=env'.val x):iop P o env H=iop P o env' H:=by
 have hd:(∀ cs b,o.op≠.select cs b)->kG P o env H=kG P o env' H:=fun hs=>o5 hs h
 have pairs:∀ ps:Array (Nat×Operand),(∀ x∈ps.map (·.2),env.val x=env'.val x) ->
  (ps.toList.map fun p=>(p.1,env.val p.2))=(ps.toList.map fun p=>(p.1,env'.val p.2)):=fun ps hp =>
  zOK fun p hm=>by
   rw[hp p.2 (Array.mem_map.2 ⟨p,zN9.2 hm,rfl⟩)]
 unfold iop;cases ho:o.op <;> rw[ho] at h hd <;> simp only[Op.operands] at h <;> simp only
 case build t ps=>rw[pairs ps fun x hx=>h x (by simpa using hx)]
 case buildSlice t n ps=>rw[pairs ps fun x hx=>h x (by simpa using hx)]
 case makeFunc fn first captured =>
  rw[Array.map_congr_left (xs:=first) fun x hx=>h x (by simp[hx]),Array.map_congr_left (xs:=captured) fun x hx=>h x (by simp[hx])]
 case binOp op t x y t2 =>
  have hd:=hd (by simp);rw[h x (by simp),h y (by simp)];simp only[yS,zF0,zFP,hd]
 case unOp=>exact hd (by simp)
 case convert src dst x =>
  have hd:=hd (by simp);rw[h x (by simp)];simp only[gU,hd]
 case slice t x lo hi mx =>
  have hd:=hd (by simp);have e1:lo.map env.val=lo.map env'.val:=by cases lo <;> simp_all
  have e2:hi.map env.val=hi.map env'.val:=by cases hi <;> simp_all
  have e3:mx.map env.val=mx.map env'.val:=by cases mx <;> simp_all
  rw[e1,e2,e3,h x (by simp)];simp only[wY,hd]
 case index t x ix =>
  have hd:=hd (by simp);rw[h x (by simp),h ix (by simp)];simp only[uF,hd]
 case call c =>
  have hd:=hd (by simp);simp only[Call.operands] at h
  have ha:kP env.val c.args.toList=kP env'.val c.args.toList:=by
   rw[xC,xC];exact zOK fun x hx=>h x (by cases c.callee <;> simp[zN9,hx])
  have hc:fG P c env H=fG P c env' H:=by
   unfold fG;simp only[ha];split
   ·rfl
   ·rfl
   ·rename_i f hf;rw[hf] at h;rw[h f (by simp)]
  simp only[yI,hd,hc]
 all_goals (first | rfl | (simp_all;done))
def Loose (s:IH->Option zFH):Prop:=∀ H r,s H=some r->∃ v,r=.val v H∧∀ H',s H'=some (.val v H')
theorem Loose.ofO (v:Option Value):Loose fun H=>zFH.ofO H v:=by
 intro H r h
 cases v with
 | none=>cases h
 | some v=>cases h;exact⟨v,rfl,fun _=>rfl⟩
theorem Loose.dry (o:Oper)(env:Env):Loose fun H=>kG P o env H:=by
 intro H r h;simp only[kG] at h ⊢;by_cases hp:zQ (kP env.val o.op.operands.toList)=true
 ·rw[if_pos hp] at h;simp only[hp,if_true]
  cases hs:yB P (execOp env.val o) with
  | none=>rw[hs] at h;cases h
  | some x =>
    rw[hs] at h
    cases x with
    | value v =>
      simp only[qF1,qAX] at h ⊢
      cases hd:qJQ v with
      | false=>rw[hd] at h;cases h
      | true=>rw[hd] at h;cases h;exact⟨v,rfl,fun _=>rfl⟩
    | _=>cases h
 ·rw[if_neg hp] at h;cases h
theorem Loose.val (v:Value):Loose fun H=>some (.val v H):=by
 intro H r h;cases h;exact⟨v,rfl,fun _=>rfl⟩
theorem Loose.none:Loose fun _=>none:=by intro H r h;cases h
theorem Loose.cond {b:Bool}{s t:IH->Option zFH}(hs:Loose s)(ht:Loose t):Loose fun H=>cond b (s H) (t H):=by
 cases b
 ·exact ht
 ·exact hs
theorem Loose.zF0 (o:Oper)(op:BinOp)(k k':IntKind)(a b:Int)(env:Env):Loose fun H=>zF0 P o op k k' a b env H:=by
 unfold Go.Idl.zF0;refine .cond ?_ (.dry _ _);split
 ·exact .val _
 ·exact .dry _ _
theorem Loose.zFP (o:Oper)(op:BinOp)(t:TypeId)(x y:Value)(env:Env):Loose fun H=>zFP P o op t x y env H:=by
 unfold Go.Idl.zFP;split
 ·split
  ·exact .val _
  ·exact .dry _ _
 ·split
  ·exact .val _
  ·exact .dry _ _
 ·exact .dry _ _
theorem Loose.binOp (o:Oper)(op:BinOp)(t:TypeId)(x y:Value)(env:Env):Loose fun H=>yS P o op t x y env H:=by
 unfold yS;split
 ·split
  ·exact .zF0 _ _ _ _ _ _ _
  ·exact .zFP _ _ _ _ _ _
 ·exact .zFP _ _ _ _ _ _
theorem Loose.orElse {s t:IH->Option zFH}(hs:Loose s)(hn:∀ H H',s H=Option.none->s H'=Option.none)(ht:Loose t):Loose fun H=>match s H with
 | some r=>some r
 | .none=>t H:=by
 intro H r h;simp only at h ⊢
 cases hsH:s H with
 | none =>
   rw[hsH] at h;obtain⟨v,h1,h2⟩:=ht H r h;exact⟨v,h1,fun H'=>by rw[hn H H' hsH];exact h2 H'⟩
 | some q =>
   rw[hsH] at h;cases h;obtain⟨v,h1,h2⟩:=hs H r hsH;exact⟨v,h1,fun H'=>by rw[h2 H']⟩
theorem qE2 (hc:xI o=.pure):Loose fun H=>iop P o env H:=by
 unfold iop;unfold xI at hc;cases ho:o.op <;> rw[ho] at hc <;> simp only at hc <;> (try cases hc) <;> simp only
 case move=>exact .val _
 case assign=>exact .val _
 case pick=>unfold qMI;split;exact .val _;exact .none
 case build=>exact .ofO _
 case nilCheck=>unfold wJ;split;exact .val _;exact .val _;exact .val _;exact .none
 case binOp=>exact .binOp _ _ _ _ _ _
 case unOp=>exact .dry _ _
 case makeFunc=>unfold wN;split;exact .val _;exact .none
 case slice=>unfold wY;split;exact .dry _ _;exact .ofO _
 case fieldAddr=>exact .ofO _
 case field=>exact .none
 case indexAddr=>exact .ofO _
 case index=>unfold uF;split;exact .dry _ _;exact .ofO _
 case extract =>
  unfold fE;split
  ·unfold wH;split
   ·exact .cond (.val _) .none
   ·exact .none
  ·exact .none
 case alloc=>split at hc <;> cases hc
 case call c =>
  unfold yI;refine .orElse (s:=fun H=>fG P c env H) ?_ ?_ (.dry _ _)
  ·unfold fG
   split at hc <;> (try cases hc)
   ·rename_i h;simp only[h,yE];exact .none
   ·rename_i h;simp only[h,yE];exact .none
   ·rename_i h;simp only[h,yE];split
    ·exact .val _
    ·split
     ·exact .val _
     ·exact .none
    ·exact .none
  ·intro H H' hn;unfold fG at hn ⊢
   split at hc <;> (try cases hc)
   ·rename_i h;simp only[h,yE]
   ·rename_i h;simp only[h,yE]
   ·rename_i h;simp only[h,yE] at hn ⊢;split at hn
    ·cases hn
    ·split at hn
     ·cases hn
     ·rename_i hc0;simp only[hc0];rfl
    ·rfl
theorem qHE {v:Option Value}{r:zFH}(h:zFH.ofO H v=some r):∃ u,r=.val u H:=by
 cases v with
 | none=>cases h
 | some u=>cases h;exact⟨u,rfl⟩
theorem qJO {r:zFH}(hc:xI o=.read)(h:iop P o env H=some r):∃ v,r=.val v H:=by
 unfold iop at h;unfold xI at hc
 have dry:∀ {r},kG P o env H=some r->∃ v,r=.val v H:=fun h=>by
  obtain⟨v,h1,_⟩:=Loose.dry o env H _ h;exact⟨v,h1⟩
 cases ho:o.op <;> rw[ho] at hc h <;> simp only at hc h <;> (try cases hc)
 case load=>exact qHE h
 case lookup=>exact qHE h
 case entry=>cases h
 case convert =>
  unfold gU at h;split at h
  ·exact qHE h
  ·exact dry h
 case alloc=>split at hc <;> cases hc
 case call c =>
  unfold yI at h;split at h
  ·rename_i q hq;cases h;unfold fG at hq
   split at hc <;> (try cases hc)
   rename_i hb;simp only[hb,yE,oJ] at hq;split at hq
   ·cases hq;exact⟨_,rfl⟩
   ·split at hq
    ·cases hq;exact⟨_,rfl⟩
    ·cases hq
   ·cases hq;exact⟨_,rfl⟩
   ·cases hq
  ·exact dry h
 all_goals (split at h <;> exact absurd h (by simp))
theorem qKR (h:qL o=true):∃ elem,o.op=.alloc elem∧o.guard=none:=by
 unfold qL at h;have hc:=of_decide_eq_true h;unfold xI at hc
 split at hc <;> (try cases hc)
 ·rename_i elem he;refine⟨elem,he,?_⟩;split at hc
  ·rename_i hg;simpa using hg
  ·cases hc
 ·split at hc <;> cases hc
end Go.Idl
namespace Go.Idl
variable {P:Program}{nat:xA}
variable {H:IH}{o:Oper}{t:Nat}{v:Value}
noncomputable def Env.at (env:Env)(t:Nat):Value:=(zJ env t).getD undef
theorem qLO (env:Env)(d:Option Tmp)(v:Value)(t:Nat):(env.zFT d v).at t=if d=some t∧t < env.length then v else env.at t:=by
 cases d with
 | none=>simp[Env.zFT]
 | some d =>
   simp only[Env.zFT,Env.at,qG,qV,zNU,zM7];by_cases h:d=t
   ·subst h;by_cases hl:d < env.length
    ·simp[hl]
    ·simp[hl]
   ·simp[h]
theorem gV (env:Env)(d:Option Tmp)(v:Value):(env.zFT d v).length=env.length:=by
 cases d with
 | none=>rfl
 | some d=>simp[Env.zFT,qV]
theorem qE1 {env:Env}{d:Option Tmp}(h:d≠some t):(env.zFT d v).at t=env.at t:=by
 rw[qLO,if_neg (fun hh=>h hh.1)]
theorem pO {env:Env}(h:t < env.length):(env.zFT (some t) v).at t=v:=by
 rw[qLO,if_pos ⟨rfl,h⟩]
theorem qTO {env env':Env}(hl:env.length=env'.length)(h:env.at t=env'.at t):zJ env t=zJ env' t:=by
 simp only[Env.at,qG] at h ⊢;by_cases ht:t < env.length
 ·have ht':t < env'.length:=by omega
  rw[zM2 ht,zM2 ht'] at h ⊢;simpa using h
 ·rw[zOF (by omega),zOF (by omega)]
def yR (o:Oper):Bool:=(xI o).eff
def bA (l:List Oper):Nat:=l.countP yR
def eB (l:List Oper):Nat:=l.countP qL
theorem nX (h:qL o=true):yR o=false:=by
 unfold qL at h;unfold yR;rw[of_decide_eq_true h];rfl
theorem qGD (h:yR o=false)(ha:qL o=false):xI o=.pure∨xI o=.read:=by
 unfold yR at h;unfold qL at ha
 cases hc:xI o <;> rw[hc] at h ha <;> first | exact .inl rfl | exact .inr rfl | (cases h;done) | (exact absurd ha (by decide))
theorem qAL (o:Oper)(l:List Oper):bA (o::l)=(if yR o then 1 else 0)+bA l:=by
 unfold bA;rw[zQG];omega
theorem aR (o:Oper)(l:List Oper):eB (o::l)=(if qL o then 1 else 0)+eB l:=by
 unfold eB;rw[zQG];omega
theorem qIQ {run:Job->IH->T Out}{env:Env}{r:Value×IH}(he:yR o=false)(ha:qL o=false)(h:rU P run nat o env H=.ret r):r.2=H∧iop P o env H=some (.val r.1 H):=by
 unfold rU at h
 have key:∀ s,iop P o env H=some s->∃ v,s=.val v H:=by
  intro s hs;rcases qGD he ha with hc | hc
  ·obtain⟨v,h1,_⟩:=qE2 hc H s hs;exact⟨v,h1⟩
  ·exact qJO hc hs
 cases hs:iop P o env H with
 | none=>rw[hs] at h;cases h
 | some s =>
   obtain⟨v,rfl⟩:=key s hs;rw[hs] at h;cases h;exact⟨rfl,rfl⟩
theorem q2O {run:Job->IH->T Out}{env:Env}{H':IH}(h:iop P o env H=some (.val v H')):rU P run nat o env H=.ret (v,H'):=by
 unfold rU;rw[h];rfl
theorem qW4 {t:T (Value×IH)}{r:Value×IH}(h:q3Z t=some r):t=.ret r:=by
 unfold q3Z at h;split at h
 ·cases h;rfl
 ·cases h
structure At (P:Program) (run:Job->IH->T Out) (nat:xA) (ops:Array Oper) (lo:List (Nat×Nat×Nat)) (i:Nat) (o:Oper) (env:Env) (H:IH) (eF:Env) (next:Option IH) (rs:List Rec) (later:Nat->Prop):Prop where
 out:(kH ops o env=some false∧(∀ d,o.dst=some d->d < env.length->¬ later d->eF.at d=undef)∧(yR o=true->next=some H)) ∨
  (kH ops o env=some true∧∃ v H',rU P run nat o env H=.ret (v,H')∧(∀ d,o.dst=some d->d < env.length->¬ later d->eF.at d=v)∧(yR o=true->next=some H')∧(yR o=false->H'=H) ∧
    (∀ p,qBF i lo=some p->(⟨i,o,env,v⟩:Rec)∈rs))
def writes (l:List Oper)(lo:Nat->Prop)(t:Nat):Prop:=∃ k o,lo k∧l[k]?=some o∧qL o=false∧o.dst=some t
theorem jO {l:List Oper}{q:Nat->Prop}:writes (o::l) q t ↔ (q 0∧qL o=false∧o.dst=some t)∨writes l (fun k=>q (k+1)) t:=by
 constructor
 ·rintro⟨k,p,h1,h2,h3,h4⟩
  cases k with
  | zero=>simp only[zNS,zM7] at h2;subst h2;exact .inl ⟨h1,h3,h4⟩
  | succ k=>exact .inr ⟨k,p,h1,by simpa using h2,h3,h4⟩
 ·rintro (⟨h1,h3,h4⟩ | ⟨k,p,h1,h2,h3,h4⟩)
  ·exact⟨0,o,h1,rfl,h3,h4⟩
  ·exact⟨k+1,p,h1,by simpa using h2,h3,h4⟩
structure Trace (P:Program) (run:Job->IH->T Out) (nat:xA) (ops:Array Oper) (lo:List (Nat×Nat×Nat)) (l:List Oper) (i:Nat) (env:Env) (H:IH) (eF:Env) (HF:IH) (hs:List IH) (rs:List Rec):Prop where
 len:eF.length=env.length
 last:(H::hs)[bA l]?=some HF
 keep:∀ t,¬ writes l (fun _=>True) t->eF.at t=env.at t
 step:∀ k o,l[k]?=some o->qL o=false->∃ zH5 Hk,zH5.length=env.length∧(∀ t,¬ writes l (fun k'=>k' < k) t->zH5.at t=env.at t)∧(∀ t,¬ writes l (fun k'=>k<=k') t->eF.at t=zH5.at t) ∧
  (H::hs)[bA (l.take k)]?=some Hk∧At P run nat ops lo (i+k) o zH5 Hk eF ((H::hs)[bA (l.take k)+1]?) rs (writes l fun k'=>k < k')
theorem fK {run:Job->IH->T Out}{ops:Array Oper}{lo:List (Nat×Nat×Nat)}:∀ (l:List Oper) (i:Nat) (env:Env) (H:IH) (eF:Env) (HF:IH) (hs:List IH) (rs:List Rec),
 qMW P run nat ops lo l i env H=some (eF,HF,hs,rs)->Trace P run nat ops lo l i env H eF HF hs rs
 | [],i,env,H,eF,HF,hs,rs,h=>by
   have h':some (env,H,[],[])=some (eF,HF,hs,rs):=h;cases h';exact⟨rfl,rfl,fun _ _=>rfl,fun k o hk=>by simp at hk⟩
 | o::l,i,env,H,eF,HF,hs,rs,h=>by
   rw[qDZ] at h
   -- what the rest says,said of the whole
   have lift:∀ (zFG:Env) (H1:IH) (hs1:List IH) (rs1:List Rec) (v:Value),Trace P run nat ops lo l (i+1) zFG H1 eF HF hs1 rs1->zFG=(if qL o=true then env else env.zFT o.dst v) ->
    (∀ r,r∈rs1->r∈rs)->(∀ n,(H::hs)[(if yR o then 1 else 0)+n]?=(H1::hs1)[n]?) ->
    (qL o=false->At P run nat ops lo i o env H eF ((H::hs)[1]?) rs (writes l fun _=>True))->Trace P run nat ops lo (o::l) i env H eF HF hs rs:=by
    intro zFG H1 hs1 rs1 v ht he hrs hh hat;have hlen:zFG.length=env.length:=by rw[he];split;rfl;exact gV _ _ _
    have zJ6:∀ t,¬ (qL o=false∧o.dst=some t)->zFG.at t=env.at t:=by
     intro t hn;rw[he];split
     ·rfl
     ·rename_i ha;exact qE1 fun hd=>hn ⟨by simpa using ha,hd⟩
    refine⟨by rw[ht.len,hlen],by rw[qAL,hh];exact ht.last,?_,?_⟩
    ·intro t hw;rw[jO] at hw;rw[ht.keep t (fun hw'=>hw (.inr hw')),zJ6 t (fun hw'=>hw (.inl ⟨trivial,hw'⟩))]
    ·intro k p hk hp
     cases k with
     | zero =>
       simp only[zNS,zM7] at hk;subst hk;refine⟨env,H,rfl,fun _ _=>rfl,?_,rfl,?_⟩
       ·intro t hw;rw[jO] at hw;rw[ht.keep t (fun hw'=>hw (.inr ?_)),zJ6 t (fun hw'=>hw (.inl ⟨zM0 _,hw'⟩))];obtain⟨k,p,_,h2,h3,h4⟩:=hw';exact⟨k,p,zO1 _,h2,h3,h4⟩
       ·have hq:∀ d,¬ writes (o::l) (fun k'=>0 < k') d->¬ writes l (fun _=>True) d:=by
         intro d hn hw;refine hn (jO.2 (.inr ?_));obtain⟨k,p,_,h2,h3,h4⟩:=hw;exact⟨k,p,Nat.succ_pos _,h2,h3,h4⟩
        rcases (hat hp).out with ⟨a1,a2,a3⟩ | ⟨a1,v',H',a2,a3,a4,a5,a6⟩
        ·exact⟨.inl ⟨a1,fun d hd hl hn=>a2 d hd hl (hq d hn),a3⟩⟩
        ·exact⟨.inr ⟨a1,v',H',a2,fun d hd hl hn=>a3 d hd hl (hq d hn),a4,a5,a6⟩⟩
     | succ k =>
       obtain⟨zH5,Hk,b1,b2,b3,b4,b5⟩:=ht.step k p (by simpa using hk) hp;have hcnt:bA ((o::l).take (k+1))=(if yR o then 1 else 0)+bA (l.take k):=by rw[zO2,qAL]
       refine⟨zH5,Hk,by rw[b1,hlen],?_,?_,by rw[hcnt,hh];exact b4,?_⟩
       ·intro t hw;rw[jO] at hw;rw[b2 t (fun hw'=>hw (.inr ?_)),zJ6 t (fun hw'=>hw (.inl ⟨Nat.succ_pos _,hw'⟩))];obtain⟨k',p',h1,h2,h3,h4⟩:=hw';exact⟨k',p',zQ0 h1,h2,h3,h4⟩
       ·intro t hw;refine b3 t fun hw'=>hw (jO.2 (.inr ?_))
        obtain⟨k',p',h1,h2,h3,h4⟩:=hw';exact⟨k',p',Nat.succ_le_succ h1,h2,h3,h4⟩
       ·have hq:∀ d,¬ writes (o::l) (fun k'=>k+1 < k') d->¬ writes l (fun k'=>k < k') d:=by
         intro d hn hw;refine hn (jO.2 (.inr ?_));obtain⟨k',p',h1,h2,h3,h4⟩:=hw;exact⟨k',p',zQ0 h1,h2,h3,h4⟩
        have hn1:(H::hs)[bA ((o::l).take (k+1))+1]?=(H1::hs1)[bA (l.take k)+1]?:=by rw[hcnt,zOW,hh]
        have hi:i+(k+1)=i+1+k:=by omega
        rw[hn1,hi]
        rcases b5.out with ⟨a1,a2,a3⟩ | ⟨a1,v',H',a2,a3,a4,a5,a6⟩
        ·exact⟨.inl ⟨a1,fun d hd hl hn=>a2 d hd hl (hq d hn),a3⟩⟩
        ·exact⟨.inr ⟨a1,v',H',a2,fun d hd hl hn=>a3 d hd hl (hq d hn),a4,a5,fun p hp=>hrs _ (a6 p hp)⟩⟩
   cases ha:qL o with
   | true =>
     rw[ha] at h;have hne:yR o=false:=nX ha;exact lift env H hs rs undef (fK l _ _ _ _ _ _ _ h) (by rw[ha];rfl) (fun _ h=>h) (fun n=>by rw[hne];simp) (fun h0=>by rw[ha] at h0;cases h0)
   | false =>
     rw[ha] at h;simp only[cond_false] at h;unfold vB at h;split at h
     ·rename_i hw
      cases ho:q3Z (rU P run nat o env H) with
      | none=>rw[ho] at h;cases h
      | some q =>
        rw[ho] at h;simp only[qZP,q46] at h;split at h
        ·rename_i e hh hs1 rs1 hq;have hio:=qW4 ho;have ht:=fK l _ _ _ _ _ _ _ hq;cases h
         have hvl:∀ d,o.dst=some d->d < env.length->¬ writes l (fun _=>True) d->eF.at d=q.1:=by
          intro d hd hl hn;rw[ht.keep d hn,hd];exact pO hl
         have hrec:∀ p,qBF i lo=some p->(⟨i,o,env,q.1⟩:Rec)∈q0J (qBF i lo) i o env q.1 rs1:=by
          intro p hp;rw[hp];exact zM5
         have hin:∀ r,r∈rs1->r∈q0J (qBF i lo) i o env q.1 rs1:=by
          intro r hr;unfold q0J;split;exact zM3 _ hr;exact hr
         cases hE:yR o with
         | true =>
           have hE':(xI o).eff=true:=hE;refine lift _ q.2 hs1 rs1 q.1 ht (by rw[ha];rfl) hin (fun n=>by rw[hE'];simp only[hE,qEJ,cond_true,if_true];rw[zPR,zP8]) fun _=>?_
           exact⟨.inr ⟨hw,q.1,q.2,hio,hvl,fun _=>by rw[hE'];rfl,fun h0=>(by rw[hE] at h0;cases h0),hrec⟩⟩
         | false =>
           have hE':(xI o).eff=false:=hE;obtain⟨g1,g2⟩:=qIQ hE ha hio;refine lift _ q.2 hs1 rs1 q.1 ht (by rw[ha];rfl) hin (fun n=>by rw[hE'];simp[hE,qEJ,g1]) fun _=>?_
           exact⟨.inr ⟨hw,q.1,q.2,hio,hvl,fun h0=>(by rw[hE] at h0;cases h0),fun _=>g1,hrec⟩⟩
        ·cases h
     ·rename_i hw;simp only[q2J] at h;split at h
      ·rename_i e hh hs1 rs1 hq;have ht:=fK l _ _ _ _ _ _ _ hq;cases h
       have hvl:∀ d,o.dst=some d->d < env.length->¬ writes l (fun _=>True) d->eF.at d=undef:=by
        intro d hd hl hn;rw[ht.keep d hn,hd];exact pO hl
       cases hE:yR o with
       | true =>
         have hE':(xI o).eff=true:=hE;refine lift _ H hs1 rs undef ht (by rw[ha];rfl) (fun _ h=>h) (fun n=>by rw[hE'];simp only[hE,qEJ,cond_true,if_true];rw[zPR,zP8]) fun _=>?_
         exact⟨.inl ⟨hw,hvl,fun _=>by rw[hE'];rfl⟩⟩
       | false =>
         have hE':(xI o).eff=false:=hE;refine lift _ H hs1 rs undef ht (by rw[ha];rfl) (fun _ h=>h) (fun n=>by rw[hE'];simp[hE,qEJ]) fun _=>?_
         exact⟨.inl ⟨hw,hvl,fun h0=>(by rw[hE] at h0;cases h0)⟩⟩
      ·cases h
     ·cases h
end Go.Idl
namespace Go.Idl
variable {P:Program}{nat:xA}
variable {H:IH}{f:Inj}{i j:Nat}{l:List Oper}{o:Oper}{ops:Array Oper}{w:World}
def qAZ (l:List Oper)(lo:Nat->Prop)(t:Nat):Prop:=∃ k o,lo k∧l[k]?=some o∧qL o=true∧o.dst=some t
theorem j6 {q:Nat->Prop}{t:Nat}:qAZ (o::l) q t ↔ (q 0∧qL o=true∧o.dst=some t)∨qAZ l (fun k=>q (k+1)) t:=by
 constructor
 ·rintro⟨k,p,h1,h2,h3,h4⟩
  cases k with
  | zero=>simp only[zNS,zM7] at h2;subst h2;exact .inl ⟨h1,h3,h4⟩
  | succ k=>exact .inr ⟨k,p,h1,by simpa using h2,h3,h4⟩
 ·rintro (⟨h1,h3,h4⟩ | ⟨k,p,h1,h2,h3,h4⟩)
  ·exact⟨0,o,h1,rfl,h3,h4⟩
  ·exact⟨k+1,p,h1,by simpa using h2,h3,h4⟩
theorem Rel.zJ7 (o:Obj)(h:Rel P f H w):Rel P f (H.push o) w:=by
 have hne:∀ b e,f b=some e->b≠H.size:=fun b e hb=>by have:=h.dom b e hb;omega
 refine⟨fun b e hb=>by have:=h.dom b e hb;simp;omega,fun b hb=>?_,h.bound,fun b e ob hb hob=>?_,fun b1 b2 e1 e2 o1 o2 hn h1 h2 g1 g2=>?_,h.zFU⟩
 ·simp only[IH.size_push] at hb;rw[IH.zFK,if_neg (by omega)];exact h.fresh b (by omega)
 ·rw[IH.zFK,if_neg (hne b e hb)] at hob;exact h.obj b e ob hb hob
 ·rw[IH.zFK,if_neg (hne b1 e1 h1)] at g1;rw[IH.zFK,if_neg (hne b2 e2 h2)] at g2;exact h.sep b1 b2 e1 e2 o1 o2 hn h1 h2 g1 g2
structure zIP (P:Program) (l:List Oper) (env:Env) (H:IH) (e1:Env) (H1:IH):Prop where
 len:e1.length=env.length
 size:H1.size=H.size+eB l
 old:∀ b,b < H.size->H1.get b=H.get b
 rel:∀ f w,Rel P f H w->Rel P f H1 w
 keep:∀ t,¬ qAZ l (fun _=>True) t->e1.at t=env.at t
 step:∀ k o,l[k]?=some o->qL o=true->∃ elem z,o.op=.alloc elem∧qCC P elem=some z∧H1.get (H.size+eB (l.take k))=some (.cells z.cells elem) ∧
  ∀ d,o.dst=some d->d < env.length->¬ qAZ l (fun k'=>k < k') d->e1.at d=.pointer (some ⟨H.size+eB (l.take k),0,none⟩)
theorem mE:∀ (l:List Oper) (env:Env) (H:IH) (e1:Env) (H1:IH),qGU P l env H=some (e1,H1)->zIP P l env H e1 H1
 | [],env,H,e1,H1,h=>by
   simp only[qGU,zM7,Prod.mk.injEq] at h;obtain⟨rfl,rfl⟩:=h;exact⟨rfl,rfl,fun _ _=>rfl,fun _ _ h=>h,fun _ _=>rfl,fun k o hk=>by simp at hk⟩
 | o::l,env,H,e1,H1,h=>by
   unfold qGU at h;split at h
   ·rename_i ha;split at h
    ·rename_i v H' hv;obtain⟨elem,he,_⟩:=qKR ha;unfold iop at hv;rw[he] at hv;simp only[sG] at hv;split at hv
     ·rename_i z hz;cases hv;have t:=mE l _ _ _ _ h;have hc:∀ k,eB ((o::l).take (k+1))=1+eB (l.take k):=fun k=>by rw[zO2,aR,if_pos ha]
      refine⟨by rw[t.len,gV],by rw[t.size,aR,if_pos ha,IH.size_push];omega,?_,fun f w hR=>t.rel f w (hR.zJ7 _),?_,?_⟩
      ·intro b hb;rw[t.old b (by simp;omega),IH.zFK,if_neg (by omega)]
      ·intro x hw;rw[j6] at hw;rw[t.keep x fun hw'=>hw (.inr hw')];exact qE1 fun hd=>hw (.inl ⟨trivial,ha,hd⟩)
      ·intro k p hk hp
       cases k with
       | zero =>
         simp only[zNS,zM7] at hk;subst hk;refine⟨elem,z,he,hz,?_,?_⟩
         ·simp only[List.take_zero,eB,List.countP_nil,zPL];rw[t.old H.size (by simp),IH.zFK,if_pos rfl]
         ·intro d hd hl hn;rw[t.keep d ?_,hd,pO hl]
          ·rfl
          ·rintro⟨k,p,_,h2,h3,h4⟩;exact hn (j6.2 (.inr ⟨k,p,Nat.succ_pos _,h2,h3,h4⟩))
       | succ k =>
         obtain⟨el,z',b1,b2,b3,b4⟩:=t.step k p (by simpa using hk) hp;have hsz:H.size+eB ((o::l).take (k+1))=(H.push (.cells z.cells elem)).size+eB (l.take k):=by rw[hc,IH.size_push];omega
         refine⟨el,z',b1,b2,by rw[hsz];exact b3,?_⟩;intro d hd hl hn;rw[hsz];refine b4 d hd (by rw[gV];exact hl) ?_;rintro⟨k',p',h1,h2,h3,h4⟩;exact hn (j6.2 (.inr ⟨k',p',zQ0 h1,h2,h3,h4⟩))
     ·cases hv
    ·cases h
   ·rename_i ha;have ha:qL o=false:=by simpa using ha
    have t:=mE l _ _ _ _ h;have hc:∀ k,eB ((o::l).take (k+1))=eB (l.take k):=fun k=>by rw[zO2,aR,ha];simp
    refine⟨t.len,by rw[t.size,aR,ha];simp,t.old,t.rel,?_,?_⟩
    ·intro x hw;rw[j6] at hw;exact t.keep x fun hw'=>hw (.inr hw')
    ·intro k p hk hp
     cases k with
     | zero =>
       simp only[zNS,zM7] at hk;subst hk;rw[ha] at hp;cases hp
     | succ k =>
       obtain⟨el,z',b1,b2,b3,b4⟩:=t.step k p (by simpa using hk) hp;refine⟨el,z',b1,b2,by rw[hc];exact b3,?_⟩;intro d hd hl hn;rw[hc];refine b4 d hd hl ?_;rintro⟨k',p',h1,h2,h3,h4⟩;exact hn (j6.2 (.inr ⟨k',p',zQ0 h1,h2,h3,h4⟩))
theorem Rel.zJ8 {b:Nat}{c:Array Value}{elem:TypeId}(h:Rel P f H w)(hb:b < H.size)(hn:f b=none)(hg:H.get b=some (.cells c elem))(hp:zQ c.toList=true) :
 Rel P (f.add b ⟨w.heap.size,0,c.size,false⟩) H (w.alloc (.cells c elem))∧(∀ H0:IH,H0.size<=b->Grow f H0 w (f.add b ⟨w.heap.size,0,c.size,false⟩) H0 (w.alloc (.cells c elem))):=by
 have hle:f.le (f.add b ⟨w.heap.size,0,c.size,false⟩):=Inj.zGG hn;have old:∀ x y,f x=some y->y.r≠w.heap.size:=fun x y hx=>by have:=h.bound x y hx;omega
 refine⟨⟨?_,h.fresh,?_,?_,?_,?_⟩,fun H0 h0=>⟨zM0 _,fun x hx hxn=>by rw[Inj.zFC (by omega)];exact hxn,hle,by simp,?_,?_,⟨rfl,rfl,rfl⟩,fun r h=>h.alloc _⟩⟩
 ·intro x y hx;by_cases e1:x=b
  ·subst e1;exact hb
  ·rw[Inj.zFC e1] at hx;exact h.dom x y hx
 ·intro x y hx;by_cases e1:x=b
  ·subst e1;rw[Inj.add_same] at hx;cases hx;simp
  ·rw[Inj.zFC e1] at hx;have:=h.bound x y hx;simp;omega
 ·intro x y ob hx hob;by_cases e1:x=b
  ·subst e1;rw[Inj.add_same] at hx;cases hx;rw[hg] at hob;cases hob;rw[heap_alloc,if_pos rfl];refine⟨c,elem,(0,0),rfl,rfl,by simp,?_,fun _=>⟨rfl,rfl,fun j _=>by simp⟩,fun _=>⟨rfl,rfl⟩⟩;intro i v hv;refine⟨v,by simpa using hv,.base v ?_⟩;exact xO.1 hp v (zN9.1 (Array.mem_of_getElem? hv))
  ·rw[Inj.zFC e1] at hx;rw[heap_alloc,if_neg (old x y hx)];exact (h.obj x y ob hx hob).mono hle
 ·intro b1 b2 e1 e2 o1 o2 hne h1 h2 g1 g2 l1 l2 hr;by_cases x1:b1=b
  ·subst x1;rw[Inj.add_same] at h1;cases h1;rw[Inj.zFC (Ne.symm hne)] at h2;exact absurd hr.symm (old b2 e2 h2)
  ·rw[Inj.zFC x1] at h1;by_cases x2:b2=b
   ·subst x2;rw[Inj.add_same] at h2;cases h2;exact absurd hr (old b1 e1 h1)
   ·rw[Inj.zFC x2] at h2;exact h.sep b1 b2 e1 e2 o1 o2 hne h1 h2 g1 g2 l1 l2 hr
 ·intro b1 b2 e1 e2 h1 h2 hr;by_cases x1:b1=b
  ·subst x1;rw[Inj.add_same] at h1;cases h1;by_cases x2:b2=b1
   ·subst x2;rw[Inj.add_same] at h2;cases h2;rfl
   ·rw[Inj.zFC x2] at h2;exact absurd hr.symm (old b2 e2 h2)
  ·rw[Inj.zFC x1] at h1;by_cases x2:b2=b
   ·subst x2;rw[Inj.add_same] at h2;cases h2;exact absurd hr (old b1 e1 h1)
   ·rw[Inj.zFC x2] at h2;exact h.zFU b1 b2 e1 e2 h1 h2 hr
 ·intro r hr hno;refine⟨?_,by rw[heap_alloc,if_neg (by omega)]⟩;rintro⟨x,y,hx,hyr,hro⟩;by_cases e1:x=b
  ·subst e1;rw[Inj.add_same] at hx;cases hx;simp at hyr;omega
  ·rw[Inj.zFC e1] at hx;exact hno ⟨x,y,hx,hyr,hro⟩
 ·intro r hr hu x y hx;by_cases e1:x=b
  ·subst e1;rw[Inj.add_same] at hx;cases hx;simp;omega
  ·rw[Inj.zFC e1] at hx;exact hu x y hx
structure Stat (ops:Array Oper):Prop where
 back:∀ j o,ops[j]?=some o->∀ e∈o.after,Region.binds .any e=true->e.on < j
 dst:∀ (i j:Nat) (o p:Oper) (d:Tmp),i≠j->ops[i]?=some o->ops[j]?=some p->o.dst=some d->p.dst≠some d
 reads:∀ (i j:Nat) (o p:Oper) (d:Tmp),i≠j->ops[i]?=some o->ops[j]?=some p->o.dst=some d->d∈uE ops p ->
  vH (Region.before ops) i j=true∨(qL o=false∧vH (Region.before ops) j i=true)
 zI7:∀ (i j:Nat) (o p:Oper),i≠j->ops[i]?=some o->ops[j]?=some p->yR o=true->yR p=true->vH (Region.before ops) i j=true∨vH (Region.before ops) j i=true
theorem bE:(o,i)∈l.zipIdx ↔ l[i]?=some o:=by
 rw[zPJ]
theorem qM9 (h:fO ops=true):Stat ops:=by
 unfold fO qTD at h;simp only[zM1] at h
 have h1:∀ i o,ops[i]?=some o->∀ e∈o.after,Region.binds .any e=true->e.on < i:=by
  intro i o ho e he hb;have:=h (o,i) (bE.2 (by simpa using ho));simp only[zMY,zPB] at this;have:=this.1 e he;rw[hb] at this;simpa using this
 have h2:∀ i j o p,i≠j->ops[i]?=some o->ops[j]?=some p ->
  (match o.dst with
    | some d=>p.dst != some d&&(!((uE ops p).contains d)||cond (qL o) (vH (Region.before ops) i j) (qPJ (Region.before ops) i j))
    | none=>true)=true∧(!((xI o).eff&&(xI p).eff)||qPJ (Region.before ops) i j)=true:=by
  intro i j o p hij ho hp;have h3:=h (o,i) (bE.2 (by simpa using ho));simp only[zMY,zM1] at h3;have h4:=h3.2 (p,j) (bE.2 (by simpa using hp));simp only[hij,decide_false,zPW,zMY] at h4;exact⟨h4.1.1,h4.1.2⟩
 refine⟨h1,?_,?_,?_⟩
 ·intro i j o p d hij ho hp hd;have:=(h2 i j o p hij ho hp).1;rw[hd] at this;simp only[zMY,bne_iff_ne,ne_eq] at this;exact this.1
 ·intro i j o p d hij ho hp hd hr;have:=(h2 i j o p hij ho hp).1;rw[hd] at this;simp only[zMY] at this;have:=this.2;have hc:(uE ops p).contains d=true:=List.contains_iff_mem.2 hr;rw[hc] at this;simp only[zQY,zPW] at this
  cases ha:qL o with
  | true=>rw[ha] at this;exact .inl this
  | false =>
    rw[ha] at this;simp only[cond_false,qPJ,zN1] at this;rcases this with h | h
    ·exact .inl h
    ·exact .inr ⟨rfl,h⟩
 ·intro i j o p hij ho hp he1 he2;have:=(h2 i j o p hij ho hp).2;have e1:(xI o).eff=true:=he1;have e2:(xI p).eff=true:=he2;rw[e1,e2] at this;simpa [qPJ] using this
def eH (ops:Array Oper):List (Oper×Nat):=ops.toList.zipIdx.filter fun q=>(xI q.1).eff
theorem qSX:∀ (l:List Oper) (n m:Nat),(((l.zipIdx n).filter fun q=>(xI q.1).eff).filter fun q=>decide (q.2 < m)).length=bA (l.take (m - n))
 | [],n,m=>by simp[bA]
 | o::l,n,m=>by
   rw[zQF,zP3];have ih:=qSX l (n+1) m;by_cases hm:n < m
   ·have e1:m - n=(m - (n+1))+1:=by omega
    rw[e1,zO2,qAL,<-ih];by_cases he:yR o=true
    ·have he':(xI o).eff=true:=he;rw[if_pos he',if_pos he,zP3];simp only[hm,decide_true,if_true,zNZ];omega
    ·have he':¬ (xI o).eff=true:=he;rw[if_neg he',if_neg he];omega
   ·have e1:m - n=0:=by omega
    have e2:m - (n+1)=0:=by omega
    rw[e2] at ih;rw[e1];simp only[List.take_zero] at ih ⊢;by_cases he':(xI o).eff=true
    ·rw[if_pos he',zP3];simp only[hm,decide_false,zOY,if_false];exact ih
    ·rw[if_neg he'];exact ih
theorem qN3 (ops:Array Oper)(m:Nat):((eH ops).filter fun q=>decide (q.2 < m)).length=bA (ops.toList.take m):=by
 have:=qSX ops.toList 0 m;simpa [eH] using this
theorem filter_le {α:Type}{l:List α}{p q:α->Bool}(h:∀ a∈l,p a=true->q a=true):(l.filter p).length<=(l.filter q).length:=by
 rw[<-List.countP_eq_length_filter,<-List.countP_eq_length_filter];exact List.countP_mono_left h
theorem qD1 {i:Nat}{v:Nat×Nat}:∀ (l:List (Nat×Nat×Nat)),(∀ a∈l,a.1=i->a.2=v)->(∃ a∈l,a.1=i)->qBF i l=some v
 | [],_,⟨a,ha,_⟩=>by cases ha
 | a::l,h,hx=>by
   have hdef:qBF i (a::l)=cond (Nat.beq a.1 i) (some a.2) (qBF i l):=rfl;rw[hdef]
   cases hb:Nat.beq a.1 i with
   | true=>rw[cond_true,h a zM5 (zMZ hb)]
   | false =>
     rw[cond_false];refine qD1 l (fun b hb=>h b (zM3 _ hb)) ?_;obtain⟨b,hb1,hb2⟩:=hx;rcases zNF.1 hb1 with rfl | hb1
     ·rw[hb2,zQ5] at hb;cases hb
     ·exact⟨b,hb1,hb2⟩
def q8Q (ops:Array Oper)(j:Nat):Nat:=((eH ops).filter fun q=>vH (Region.before ops) q.2 j).length
def qZG (ops:Array Oper)(j:Nat):Nat:=((eH ops).filter fun q=>!vH (Region.before ops) j q.2).length
theorem qRI (ho:ops[j]?=some o)(hc:xI o=.read)(hne:q8Q ops j≠qZG ops j):qBF j (loose ops)=some (q8Q ops j,qZG ops j):=by
 refine qD1 _ ?_ ?_
 ·intro a ha hj;unfold loose qNM at ha;rw[zPG] at ha;obtain⟨⟨p,k⟩,hp,ha⟩:=ha;simp only at ha;split at ha
  ·cases ha
  ·cases ha;simp only at hj;subst hj;rfl
 ·refine⟨(j,q8Q ops j,qZG ops j),?_,rfl⟩;unfold loose qNM;rw[zPG];refine⟨(o,j),zQ9.2 ⟨bE.2 (by simpa using ho),by simpa using hc⟩,?_⟩;exact if_neg hne
theorem qKY {lo hi:Nat}{r:Rec}:∀ (hs:List IH) (m:Nat),gM P lo hi r hs m=true->∀ k E,hs[k]?=some E->lo<=m+k->m+k<=hi->mI r.v (iop P r.o r.env E)=true
 | [],_,_,k,E,hk,_,_=>by simp at hk
 | h::hs,m,hst,k,E,hk,h1,h2=>by
   have hst':cond (Nat.ble lo m&&Nat.ble m hi) (cond (mI r.v (iop P r.o r.env h)) (gM P lo hi r hs (m+1)) false) (gM P lo hi r hs (m+1))=true:=hst
   cases k with
   | zero =>
     simp only[zNS,zM7] at hk;subst hk;have e1:Nat.ble lo m=true:=zNL (by omega);have e2:Nat.ble m hi=true:=zNL (by omega);rw[e1,e2] at hst'
     cases hs:mI r.v (iop P r.o r.env h) with
     | true=>rfl
     | false=>rw[hs] at hst';cases hst'
   | succ k =>
     have hnext:gM P lo hi r hs (m+1)=true:=by
      cases hc:(Nat.ble lo m&&Nat.ble m hi) with
      | true =>
        rw[hc] at hst'
        cases hs:mI r.v (iop P r.o r.env h) with
        | true=>rw[hs] at hst';exact hst'
        | false=>rw[hs] at hst';cases hst'
      | false=>rw[hc] at hst';exact hst'
     exact qKY hs (m+1) hnext k E (by simpa using hk) (by omega) (by omega)
theorem qNC {v:Value}{r:Option zFH}(h:mI v r=true):∃ H,r=some (.val v H):=by
 unfold mI at h;split at h
 ·rename_i u H;exact⟨H,by rw[qBH h]⟩
 ·cases h
theorem qDR {b:Nat}{o:Option Obj}:∀ (hs:List IH) (n:Nat),qBP b o hs n=true->∀ m E,m < n->hs[m]?=some E->E.get b=o
 | [],_,_,m,E,_,hm=>by simp at hm
 | h::hs,0,_,m,E,hlt,_=>by omega
 | h::hs,n+1,hst,m,E,hlt,hm=>by
   have hst':cond (q8X (h.get b) o) (qBP b o hs n) false=true:=hst
   cases hc:q8X (h.get b) o with
   | false=>rw[hc] at hst';cases hst'
   | true =>
     rw[hc] at hst'
     cases m with
     | zero =>
       simp only[zNS,zM7] at hm;subst hm;exact pK hc
     | succ m=>exact qDR hs n hst' m E (by omega) (by simpa using hm)
theorem qB6 {H1:IH}{hs:List IH}:∀ (al:List Nat) (b:Nat),nO H1 hs al b=true->∀ k hi,al[k]?=some hi->∀ m E,m < hi->hs[m]?=some E->E.get (b+k)=H1.get (b+k)
 | [],_,_,k,hi,hk=>by simp at hk
 | a::al,b,h,k,hi,hk=>by
   have h':cond (qBP b (H1.get b) hs a) (nO H1 hs al (b+1)) false=true:=h
   cases hc:qBP b (H1.get b) hs a with
   | false=>rw[hc] at h';cases h'
   | true =>
     rw[hc] at h'
     cases k with
     | zero =>
       simp only[zNS,zM7] at hk;subst hk;exact fun m E hm he=>qDR hs a hc m E hm he
     | succ k =>
       intro m E hm he;have:=qB6 al (b+1) h' k hi (by simpa using hk) m E hm he
       rwa [show b+(k+1)=b+1+k by omega]
theorem qHW:∀ (l:List Oper) (n i:Nat) (o:Oper),l[i]?=some o->qL o=true->((l.zipIdx n).filter fun p=>qL p.1)[eB (l.take i)]?=some (o,n+i)
 | [],n,i,o,h,_=>by simp at h
 | p::l,n,0,o,h,ha=>by
   simp only[zNS,zM7] at h;subst h;rw[zQF,zP3,if_pos ha];rfl
 | p::l,n,i+1,o,h,ha=>by
   have ih:=qHW l (n+1) i o (by simpa using h) ha;rw[zQF,zP3,zO2,aR];by_cases hp:qL p=true
   ·rw[if_pos hp,if_pos hp,zPR 1,zP8,ih];simp;omega
   ·rw[if_neg hp,if_neg hp,zNY,ih];simp;omega
theorem qWO (ho:ops[i]?=some o)(ha:qL o=true):(qEQ ops)[eB (ops.toList.take i)]?=some (qZG ops i):=by
 unfold qEQ qPD;rw[zNC,qHW ops.toList 0 i o (by simpa using ho) ha];simp[qZG,eH]
theorem qM8 (ho:l[i]?=some o)(ha:qL o=true):eB (l.take i) < eB l:=by
 have e1:l=l.take i++l.drop i:=(zQ2 i l).symm;have hlt:i < l.length:=(zM6.1 ho).1
 have e2:l.drop i=o::l.drop (i+1):=by
  rw[zP0 hlt]
  congr 1
  have:=zM2 hlt;rw[ho] at this;simpa using this.symm
 conv=>rhs;rw[e1,e2]
 unfold eB;rw[List.countP_append,zQG,if_pos ha];omega
theorem qWE (ho:l[i]?=some o)(ha:qL o=true)(hij:i < j):eB (l.take i) < eB (l.take j):=by
 have h1:(l.take j)[i]?=some o:=by rw[zOO,if_pos hij];exact ho
 have:=qM8 h1 ha
 rwa [zQD,zOP (by omega)] at this
end Go.Idl
namespace Go.Idl
variable {P:Program}{nat:xA}{B:Nat}
variable {E H:IH}{G:Nat->Bool}{S:Array Bool}{a b env zHD:Env}{f f0:Inj}{i j:Nat}{o:Oper}{q:Oper×Nat->Bool}{t:Tmp}{v:Value}{w w0:World}
structure DR (P:Program) (run:Job->IH->T Out) (nat:xA) (ops:Array Oper) (zFE:Env) (H0:IH) (e1:Env) (H1:IH) (eF:Env) (HF:IH) (hs:List IH) (rs:List Rec):Prop where
 st:Stat ops
 ta:zIP P ops.toList zFE H0 e1 H1
 tr:Trace P run nat ops (loose ops) ops.toList 0 e1 H1 eF HF hs rs
 stable:∀ r∈rs,tJ P (loose ops) (H1::hs) r=true
 fresh:nO H1 hs (qEQ ops) H0.size=true
theorem zDV {run:Job->IH->T Out}{ops:Array Oper}{r:Env×IH}(hd:fO ops=true)(h:qR0 P run nat ops env H=some r) :
 ∃ e1 H1 hs rs,DR P run nat ops env H e1 H1 r.1 r.2 hs rs:=by
 unfold qR0 at h;split at h
 ·rename_i e1 H1 ha;unfold qMB at h;split at h
  ·rename_i zFS H2 hs rs hD
   cases hst:jZ (tJ P (loose ops) (H1::hs)) rs with
   | false=>rw[hst] at h;cases h
   | true =>
     rw[hst] at h
     cases hf:nO H1 hs (qEQ ops) H.size with
     | false=>rw[hf] at h;cases h
     | true =>
       rw[hf] at h;cases h;exact⟨e1,H1,hs,rs,qM9 hd,mE _ _ _ _ _ ha,fK _ _ _ _ _ _ _ _ hD,fun r hr=>xN.1 hst r hr,hf⟩
  ·cases h
 ·cases h
def sel (S:Array Bool)(j:Nat):Prop:=S.getD j false=true
def wr (ops:Array Oper)(S:Array Bool)(t:Nat):Prop:=∃ j o,ops[j]?=some o∧sel S j∧o.dst=some t
open Classical in
noncomputable def cur (ops:Array Oper)(S:Array Bool)(zFE eF:Env):Env:=(List.range zFE.length).map fun t=>if wr ops S t then eF.at t else zFE.at t
theorem jS (ops:Array Oper)(S:Array Bool)(zFE eF:Env):(cur ops S zFE eF).length=zFE.length:=by simp[cur]
theorem qVI {t:Nat}(h:env.length<=t):env.at t=undef:=by
 simp[Env.at,qG,zOF h]
open Classical in
theorem qIS {ops:Array Oper}{zFE eF:Env}(hl:eF.length=zFE.length)(t:Nat):(cur ops S zFE eF).at t=if wr ops S t then eF.at t else zFE.at t:=by
 by_cases ht:t < zFE.length
 ·simp[cur,Env.at,qG,zRC ht]
 ·rw[qVI (by rw[jS];omega),qVI (by omega),qVI (by omega)];simp
theorem qMM (hl:a.length=b.length)(h:∀ t,a.at t=b.at t):a=b:=by
 apply zOI;intro t;have:=qTO hl (h t)
 rwa [qG,qG] at this
theorem yM (hj:j < S.size):sel (S.setIfInBounds j true) i ↔ i=j∨sel S i:=by
 unfold sel;by_cases h:i=j
 ·subst h;simp[zND,hj]
 ·simp only[zND,zO0 (Ne.symm h),h,false_or]
theorem q4I:env.val (.tmp t)=env.at t:=rfl
theorem val_congr {ops:Array Oper}{o:Oper}(h:∀ t∈uE ops o,a.at t=b.at t):∀ x∈o.op.operands,a.val x=b.val x:=by
 intro x hx
 cases x with
 | tmp t =>
   rw[q4I,q4I];refine h t (zOC _ (zPG.2 ⟨.tmp t,zN9.1 hx,rfl⟩))
 | _=>rfl
theorem qKE {ops:Array Oper}{o:Oper}(hl:a.length=b.length)(h:∀ t∈uE ops o,a.at t=b.at t):kH ops o a=kH ops o b:=by
 unfold kH;split
 ·rfl
 ·rename_i g want hg;split
  ·rename_i t ht;rw[qTO hl (h t (zOX _ (by rw[hg];simp[ht])))]
  ·rfl
theorem qER {run:Job->IH->T Out}{o:Oper}(h:∀ x∈o.op.operands,a.val x=b.val x):rU P run nat o a H=rU P run nat o b H:=by
 unfold rU;rw[qUF h]
section
variable {run:Job->IH->T Out}{ops:Array Oper}{zFE:Env}{H0:IH}{e1:Env}{H1:IH}{eF:Env}{HF:IH}{hs:List IH}{rs:List Rec}
def Clo (ops:Array Oper)(S:Array Bool):Prop:=∀ i j,vH (Region.before ops) i j=true->sel S j->sel S i
def Cut (ops:Array Oper)(S:Array Bool)(p:Nat):Prop:=∀ (j:Nat) (o:Oper),ops[j]?=some o->yR o=true->(sel S j ↔ j < p)
theorem toL (h:ops[j]?=some o):ops.toList[j]?=some o:=by simpa using h
theorem qB0 (d:DR P run nat ops zFE H0 e1 H1 eF HF hs rs):eF.length=zFE.length:=by rw[d.tr.len,d.ta.len]
theorem agree (d:DR P run nat ops zFE H0 e1 H1 eF HF hs rs)(zGY:Clo ops S){o:Oper}(ho:ops[j]?=some o)(ha:qL o=false)(hj:¬ sel S j)
 (hp:∀ i,vH (Region.before ops) i j=true->sel S i) (h1:∀ t,¬ writes ops.toList (fun k'=>k' < j) t->zHD.at t=e1.at t) (h2:∀ t,¬ writes ops.toList (fun k'=>j<=k') t->eF.at t=zHD.at t) :
 ∀ t∈uE ops o,(cur ops S zFE eF).at t=zHD.at t:=by
 intro t ht;rw[qIS (qB0 d)];by_cases hw:wr ops S t
 ·rw[if_pos hw];obtain⟨i,oi,hi,hs,hd⟩:=hw;have hij:i≠j:=fun e=>hj (e ▸ hs)
  have hb:vH (Region.before ops) i j=true:=by
   rcases d.st.reads i j oi o t hij hi ho hd ht with h | ⟨_,h⟩
   ·exact h
   ·exact absurd (zGY j i h hs) hj
  have hlt:=vP d.st.back j i hb;refine h2 t ?_;rintro⟨k,p,hk,hp',_,hdp⟩;have hp'':ops[k]?=some p:=by simpa using hp'
  exact d.st.dst i k oi p t (by omega) hi hp'' hd hdp
 ·rw[if_neg hw]
  have hA:¬ qAZ ops.toList (fun _=>True) t:=by
   rintro⟨k,p,_,hp',hpa,hdp⟩;have hp'':ops[k]?=some p:=by simpa using hp'
   have hkj:k≠j:=by intro e;subst e;rw[ho] at hp'';cases hp'';rw[ha] at hpa;cases hpa
   rcases d.st.reads k j p o t hkj hp'' ho hdp ht with h | ⟨h,_⟩
   ·exact hw ⟨k,p,hp'',hp k h,hdp⟩
   ·rw[hpa] at h;cases h
  rw[<-d.ta.keep t hA];refine (h1 t ?_).symm;rintro⟨k,p,hk,hp',_,hdp⟩;have hp'':ops[k]?=some p:=by simpa using hp'
  rcases d.st.reads k j p o t (by omega) hp'' ho hdp ht with h | ⟨_,h⟩
  ·exact hw ⟨k,p,hp'',hp k h,hdp⟩
  ·have:=vP d.st.back k j h;omega
theorem qM6 (d:DR P run nat ops zFE H0 e1 H1 eF HF hs rs)(ho:ops[j]?=some o)(hjs:j < S.size)(hv:∀ t,o.dst=some t->t < zFE.length->eF.at t=v) :
 cur ops (S.setIfInBounds j true) zFE eF=(cur ops S zFE eF).zFT o.dst v:=by
 apply qMM
 ·rw[gV,jS,jS]
 intro t;rw[qLO,jS,qIS (qB0 d),qIS (qB0 d)];by_cases hd:o.dst=some t
 ·have hw:wr ops (S.setIfInBounds j true) t:=⟨j,o,ho,(yM hjs).2 (.inl rfl),hd⟩
  rw[if_pos hw];by_cases ht:t < zFE.length
  ·rw[if_pos ⟨hd,ht⟩,hv t hd ht]
  ·rw[if_neg (c:=o.dst=some t∧t < zFE.length) (fun h=>ht h.2),qVI (by rw[qB0 d];omega),qVI (by omega)];simp
 ·rw[if_neg (c:=o.dst=some t∧t < zFE.length) (fun h=>hd h.1)]
  have:wr ops (S.setIfInBounds j true) t ↔ wr ops S t:=by
   constructor
   ·rintro⟨i,oi,h1,h2,h3⟩;rcases (yM hjs).1 h2 with rfl | h2
    ·rw[ho] at h1;cases h1;exact absurd h3 hd
    ·exact⟨i,oi,h1,h2,h3⟩
   ·rintro⟨i,oi,h1,h2,h3⟩;exact⟨i,oi,h1,(yM hjs).2 (.inr h2),h3⟩
  by_cases hw:wr ops S t
  ·rw[if_pos hw,if_pos (this.2 hw)]
  ·rw[if_neg hw,if_neg (fun h=>hw (this.1 h))]
theorem qCV {p:Nat}(h:∀ x∈eH ops,x.2 < p->q x=true):bA (ops.toList.take p)<=((eH ops).filter q).length:=by
 rw[<-qN3];exact filter_le fun a ha hp=>h a ha (by simpa using hp)
theorem qH1 {p:Nat}(h:∀ x∈eH ops,q x=true->x.2 < p):((eH ops).filter q).length<=bA (ops.toList.take p):=by
 rw[<-qN3];exact filter_le fun a ha hp=>by simpa using h a ha hp
theorem sZ {x:Oper×Nat}(h:x∈eH ops):ops[x.2]?=some x.1∧yR x.1=true:=by
 obtain⟨h1,h2⟩:=zQ9.1 h;exact⟨by have:=bE.1 (show (x.1,x.2)∈ops.toList.zipIdx from h1);simpa using this,h2⟩
theorem q7I (d:DR P run nat ops zFE H0 e1 H1 eF HF hs rs)(zGY:Clo ops S)(ho:ops[j]?=some o)(he:yR o=true)(hj:¬ sel S j)
 (hp:∀ i,vH (Region.before ops) i j=true->sel S i):∀ (k:Nat) (q:Oper),ops[k]?=some q->yR q=true->(sel S k ↔ k < j):=by
 intro k q hk hq;by_cases hkj:k=j
 ·subst hkj;exact⟨fun h=>absurd h hj,fun h=>absurd h (zQB _)⟩
 ·rcases d.st.zI7 k j q o hkj hk ho hq he with h | h
  ·have:=vP d.st.back j k h;exact⟨fun _=>this,fun _=>hp k h⟩
  ·have:=vP d.st.back k j h;exact⟨fun hs=>absurd (zGY j k h hs) hj,fun hlt=>by omega⟩
theorem qWB {p q:Nat}(h1:Cut ops S p)(h2:Cut ops S q):bA (ops.toList.take p)=bA (ops.toList.take q):=by
 rw[<-qN3,<-qN3]
 congr 1
 refine List.filter_congr fun x hx=>?_
 obtain⟨g1,g2⟩:=sZ hx;have e1:=h1 _ _ g1 g2;have e2:=h2 _ _ g1 g2;have:(x.2 < p) ↔ (x.2 < q):=e1.symm.trans e2;simp[this]
theorem qMG (d:DR P run nat ops zFE H0 e1 H1 eF HF hs rs){p:Nat}(zGY:Clo ops S)(hcut:Cut ops S p)(hE:(H1::hs)[bA (ops.toList.take p)]?=some E)(ho:ops[i]?=some o)
 (ha:qL o=true) (hi:¬ sel S i):E.get (H0.size+eB (ops.toList.take i))=H1.get (H0.size+eB (ops.toList.take i)):=by
 have hle:bA (ops.toList.take p)<=qZG ops i:=qCV fun x hx hlt=>by
  obtain⟨g1,g2⟩:=sZ hx;have hs:=(hcut _ _ g1 g2).2 hlt
  cases hb:vH (Region.before ops) i x.2 with
  | false=>rfl
  | true=>exact absurd (zGY i x.2 hb hs) hi
 cases hc:bA (ops.toList.take p) with
 | zero=>rw[hc] at hE;simp at hE;rw[hE]
 | succ m =>
   rw[hc] at hE hle;rw[zP8] at hE;exact qB6 (qEQ ops) H0.size d.fresh _ _ (qWO ho ha) m E (by omega) hE
theorem q5Q (d:DR P run nat ops zFE H0 e1 H1 eF HF hs rs){p:Nat}(zGY:Clo ops S)(hcut:Cut ops S p)(hE:(H1::hs)[bA (ops.toList.take p)]?=some E)(ho:ops[j]?=some o)
 (he:yR o=false) (ha:qL o=false) (hj:¬ sel S j) (hp:∀ i,vH (Region.before ops) i j=true->sel S i) {Hj:IH} (hH:(H1::hs)[bA (ops.toList.take j)]?=some Hj)
 (hv:iop P o zHD Hj=some (.val v Hj)) (hrec:∀ p,qBF j (loose ops)=some p->(⟨j,o,zHD,v⟩:Rec)∈rs):iop P o zHD E=some (.val v E):=by
 rcases qGD he ha with hc | hc
 ·obtain⟨u,h1,h2⟩:=qE2 hc Hj _ hv;cases h1;exact h2 E
 ·have l1:q8Q ops j<=bA (ops.toList.take p):=qH1 fun x hx hb=>by
   obtain⟨g1,g2⟩:=sZ hx;exact (hcut _ _ g1 g2).1 (hp _ hb)
  have l2:q8Q ops j<=bA (ops.toList.take j):=qH1 fun x hx hb=>vP d.st.back _ _ hb
  have u1:bA (ops.toList.take p)<=qZG ops j:=qCV fun x hx hlt=>by
   obtain⟨g1,g2⟩:=sZ hx;have hs:=(hcut _ _ g1 g2).2 hlt
   cases hb:vH (Region.before ops) j x.2 with
   | false=>rfl
   | true=>exact absurd (zGY j x.2 hb hs) hj
  have u2:bA (ops.toList.take j)<=qZG ops j:=qCV fun x hx hlt=>by
   cases hb:vH (Region.before ops) j x.2 with
   | false=>rfl
   | true=>have:=vP d.st.back _ _ hb;omega
  by_cases heq:q8Q ops j=qZG ops j
  ·have:bA (ops.toList.take p)=bA (ops.toList.take j):=by omega
   rw[this,hH] at hE;cases hE;exact hv
  ·have hf:=qRI ho hc heq;have hst:=d.stable _ (hrec _ hf);unfold tJ at hst;simp only[hf] at hst;have hsv:=qKY (H1::hs) 0 hst _ E hE (by omega) (by omega);obtain⟨H',hH'⟩:=qNC hsv;simp only at hH';obtain⟨u,hu⟩:=qJO hc hH';cases hu;exact hH'
def unl (ops:Array Oper)(S:Array Bool):Nat:=(List.range ops.size).countP fun j=>!S.getD j false
theorem qJJ {α:Type}{p q:α->Bool}:∀ (l:List α),(∀ a∈l,p a=true->q a=true)->(∃ a∈l,q a=true∧p a=false)->l.countP p < l.countP q
 | [],_,⟨a,ha,_⟩=>by cases ha
 | b::l,h,⟨a,ha,h1,h2⟩=>by
   rw[zQG,zQG];have hle:l.countP p<=l.countP q:=List.countP_mono_left fun a ha=>h a (zM3 _ ha)
   rcases zNF.1 ha with rfl | ha
   ·rw[h1,h2];simp;omega
   ·have:=qJJ l (fun a ha=>h a (zM3 _ ha)) ⟨a,ha,h1,h2⟩;by_cases hb:p b=true
    ·rw[if_pos hb,if_pos (h b zM5 hb)];omega
    ·rw[if_neg hb];omega
theorem qNU (hj:j < ops.size)(hs:S.size=ops.size)(hn:¬ sel S j):unl ops (S.setIfInBounds j true) < unl ops S:=by
 refine qJJ _ ?_ ⟨j,zPH.2 hj,?_,?_⟩
 ·intro i _ h;simp only[zNJ] at h ⊢
  cases hi:S.getD i false with
  | false=>rfl
  | true =>
    have:=(yM (S:=S) (j:=j) (i:=i) (by omega)).2 (.inr hi);unfold sel at this;rw[h] at this;cases this
 ·simp only[zNJ]
  cases hi:S.getD j false with
  | false=>rfl
  | true=>exact absurd hi hn
 ·have:=(yM (S:=S) (j:=j) (i:=j) (by omega)).2 (.inl rfl);unfold sel at this;rw[this];rfl
structure Stand (P:Program) (B:Nat) (ops:Array Oper) (zFE:Env) (H0:IH) (H1:IH) (eF:Env) (hs:List IH) (f0:Inj) (w0:World) (S:Array Bool) (a:Act) (w:World) (p:Nat) (E:IH) (f:Inj):Prop where
 size:S.size=ops.size
 clo:Clo ops S
 cut:Cut ops S p
 heap:(H1::hs)[bA (ops.toList.take p)]?=some E
 rel:Rel P f E w
 grow:Grow f0 H0 w0 f H0 w
 env:qE P f (cur ops S zFE eF) a.tmps.toList
 marks:Marks B f w a.defers
 zF7:H1.size<=E.size
 un:∀ i o,ops[i]?=some o->qL o=true->¬ sel S i->f (H0.size+eB (ops.toList.take i))=none
theorem Grow.at {f':Inj}{H' H0:IH}{w':World}(h:Grow f H w f' H' w')(h0:H0.size<=H.size):Grow f H0 w f' H0 w' :=
 ⟨zM0 _,fun b hb hn=>h.stay b (zM4 hb h0) hn,h.le,h.size,h.keep,h.un,h.out,h.lps⟩
theorem qLI (hjs:j < S.size)(zGY:Clo ops S)(hp:∀ i,vH (Region.before ops) i j=true->sel S i):Clo ops (S.setIfInBounds j true):=by
 intro i k hb hk;rw[yM hjs] at hk ⊢;rcases hk with rfl | hk
 ·exact .inr (hp i hb)
 ·exact .inr (zGY i k hb hk)
theorem qR2 {l:List Oper}(h:l[j]?=some o):l.take (j+1)=l.take j++[o]:=by
 rw[zRJ,h];rfl
theorem qX5 (h:ops[j]?=some o)(he:yR o=true):bA (ops.toList.take (j+1))=bA (ops.toList.take j)+1:=by
 rw[qR2 (toL h)];unfold bA;rw[List.countP_append,List.countP_singleton,if_pos he]
theorem qI8 (d:DR P run nat ops zFE H0 e1 H1 eF HF hs rs)(ho:ops[j]?=some o)(hd:o.dst=some t):¬ writes ops.toList (fun k=>j < k) t:=by
 rintro⟨k,p,hk,hp,_,hdp⟩;exact d.st.dst j k o p t (by omega) ho (by simpa using hp) hd hdp
theorem Stand.done (d:DR P run nat ops zFE H0 e1 H1 eF HF hs rs){a:Act}{p:Nat}(s:Stand P B ops zFE H0 H1 eF hs f0 w0 S a w p E f)(hall:∀ j,j < ops.size->sel S j) :
 kZ P B f0 H0 w0 (fun o=>o=⟨.normal,eF,HF⟩) .normal a w:=by
 have hcut:Cut ops S ops.size:=fun j o ho _=>⟨fun _=>(zNB.1 ho).1,fun h=>hall j h⟩
 have hc:=qWB s.cut hcut
 have hfull:ops.toList.take ops.size=ops.toList:=by
  apply zNR;simp
 rw[hfull] at hc
 have hE:E=HF:=by
  have h1:=s.heap;rw[hc,d.tr.last] at h1;cases h1;rfl
 subst hE
 have hcur:cur ops S zFE eF=eF:=by
  apply qMM
  ·rw[jS,qB0 d]
  intro t;rw[qIS (qB0 d)];by_cases hw:wr ops S t
  ·rw[if_pos hw]
  ·rw[if_neg hw];have hn:∀ (k:Nat) (o:Oper),ops[k]?=some o->o.dst≠some t:=fun k o hk hd=>hw ⟨k,o,hk,hall k (zNB.1 hk).1,hd⟩
   rw[d.tr.keep t,d.ta.keep t]
   ·rintro⟨k,o,_,h2,_,h4⟩;exact hn k o (by simpa using h2) h4
   ·rintro⟨k,o,_,h2,_,h4⟩;exact hn k o (by simpa using h2) h4
 have h0:H0.size<=E.size:=zNP (by rw[d.ta.size];omega) s.zF7;exact⟨⟨.normal,eF,E⟩,f,rfl,rfl,s.rel,s.grow.sizes (zM0 _) h0,hcur ▸ s.env,s.marks⟩
theorem qUO {F:Fence}(hF:aV F)(hc:kF P G (yJ run nat))(hr:kS P G run)(d:DR P run nat ops zFE H0 e1 H1 eF HF hs rs)(hG:uY G f0)(hok:gK (qX f0) ops=true) :
 ∀ (fuel:Nat) (S:Array Bool) (a:Act) (w:World),unl ops S<=fuel->(∃ p E f,Stand P B ops zFE H0 H1 eF hs f0 w0 S a w p E f) ->
  wpAnyIn F 0 P .any ops (kZ P B f0 H0 w0 fun o=>o=⟨.normal,eF,HF⟩) fuel S a w:=by
 intro fuel
 have zF1:∀ {S:Array Bool},S.size=ops.size->Region.ready .any ops S=[]->∀ j,j < ops.size->sel S j:=by
  intro S hsz hr j
  induction j using Nat.strongRecOn with
  | _ j ih =>
    intro hj;by_cases hs:sel S j
    ·exact hs
    ·exfalso
     have:j∈Region.ready .any ops S:=by
      rw[mem_ready];refine⟨?_,ops[j],by simp[hj],fun e he hb=>?_⟩
      ·unfold sel at hs;rw[zND] at hs ⊢;rw[zNG (by omega)] at hs ⊢;simpa using hs
      ·have hlt:=d.st.back j ops[j] (by simp[hj]) e he hb;exact ih e.on hlt (by omega)
     rw[hr] at this;cases this
 induction fuel with
 | zero =>
   rintro S a w hu ⟨p,E,f,s⟩
   have hall:∀ j,j < ops.size->sel S j:=by
    intro j hj;have hz:unl ops S=0:=by omega
    unfold unl at hz;have:=zQM.1 hz j (zPH.2 hj);unfold sel;simpa using this
   refine⟨?_,s.done d hall⟩
   cases hrd:Region.ready .any ops S with
   | nil=>rfl
   | cons x l =>
     have hx:x∈Region.ready .any ops S:=by rw[hrd];exact zM5
     rw[mem_ready] at hx;obtain⟨h1,o,ho,_⟩:=hx;have hlt:=(zNB.1 ho).1;have:=hall x hlt;unfold sel at this;rw[zND,zNG (by rw[s.size];exact hlt)] at h1 this;simp only[zO4] at h1 this;rw[h1] at this;cases this
 | succ fuel ih =>
   rintro S a w hu ⟨p,E,f,s⟩;refine⟨fun hrd=>s.done d (zF1 s.size hrd),fun j hj=>?_⟩;rw[mem_ready] at hj;obtain⟨hjl,o,ho,zHK⟩:=hj;have hlt:=(zNB.1 ho).1;have hjs:j < S.size:=by rw[s.size];exact hlt
   have hnj:¬ sel S j:=by
    unfold sel;rw[zND,zNG hjs] at hjl ⊢;simp only[zO4] at hjl ⊢;rw[hjl];simp
   have hp:∀ i,vH (Region.before ops) i j=true->sel S i:=by
    intro i hb;obtain⟨e,he,hbd,h3⟩:=(qF6 d.st.back ho).1 hb;have:=zHK e he hbd;rcases h3 with rfl | h3
    ·exact this
    ·exact s.clo _ _ h3 this
   have hu':unl ops (S.setIfInBounds j true)<=fuel:=by
    have:=qNU hlt s.size hnj;omega
   have hH0:H0.size<=E.size:=zNP (by rw[d.ta.size];omega) s.zF7;have zGM:=qLI hjs s.clo hp
   have hok':o.op.operands.toList.all (kR (qX f))=true:=by
    have h1:=kN (zF s.grow.le) hok;unfold gK at h1;exact zM1.1 h1 o (zN9.1 (Array.mem_of_getElem? ho))
   have hG':uY G f:=hG.mono s.grow.le;unfold wpOpIn;simp only[ho]
   cases hal:qL o with
   | true =>
     obtain⟨elem,hop,hguard⟩:=qKR hal;obtain⟨elem',z,hop',hz,hcell,hval⟩:=d.ta.step j o (toL ho) hal;rw[hop] at hop';cases hop';obtain⟨hz0,hplain⟩:=jN hz;have hwant:Region.wanted o (yielded ops a.tmps)=true:=by unfold Region.wanted;rw[hguard]
     rw[hwant,if_pos rfl]
     have hb:H0.size+eB (ops.toList.take j) < E.size:=by
      have h1:=qM8 (toL ho) hal;have h2:=d.ta.size;have h3:=s.zF7;omega
     have hcells:E.get (H0.size+eB (ops.toList.take j))=some (.cells z.cells elem):=by
      rw[qMG d s.clo s.cut s.heap ho hal hnj];exact hcell
     have hun:=s.un j o ho hal hnj;obtain⟨r1,r2⟩:=s.rel.zJ8 hb hun hcells hplain;refine⟨fun g _=>hF.fn g,?_⟩
     have zJ3:o.semAt F.round a.eval=execOp a.eval o:=by
      cases F.round with
      | none=>rfl
      | some l=>exact Oper.semAt_some l _ _ (fun c hc=>by rw[hop] at hc;cases hc)
     have hrun:(execOp a.eval o).run P w=.ok (.value (.pointer (some ⟨w.heap.size,0,none⟩))) (w.alloc (.cells z.cells elem)):=by
      unfold execOp;rw[hop];simp[Instr.alloc,wU hz0,newVar,newRow]
     rw[zJ3,hrun];show wpAnyIn F 0 P .any ops _ fuel (S.setIfInBounds j true) (a.put o.dst (.pointer (some ⟨w.heap.size,0,none⟩))) (w.alloc (.cells z.cells elem));refine ih _ _ _ hu' ⟨p,E,f.add (H0.size+eB (ops.toList.take j)) ⟨w.heap.size,0,z.cells.size,false⟩,?_⟩;have hg1:=r2 H0 (by omega);refine⟨by simp[s.size],zGM,?_,s.heap,r1,s.grow.trans hg1,?_,?_,s.zF7,?_⟩
     ·intro k q hk hq;rw[yM hjs];have hkj:k≠j:=by intro e;subst e;rw[ho] at hk;cases hk;rw[nX hal] at hq;cases hq
      simp only[hkj,false_or];exact s.cut k q hk hq
     ·rw[qM6 d (v:=.pointer (some ⟨H0.size+eB (ops.toList.take j),0,none⟩)) ho hjs]
      ·refine kV (s.env.mono hg1.le) ?_ _;have:=zFB.ptr (P:=P) (o:=0) (Inj.add_same (f:=f) (b:=H0.size+eB (ops.toList.take j)) (e:=⟨w.heap.size,0,z.cells.size,false⟩));exact this
      ·intro t hd ht;rw[d.tr.keep t,hval t hd ht]
       ·rintro⟨k,q,hk,hq,_,hdq⟩;exact d.st.dst j k o q t (by omega) ho (by simpa using hq) hd hdq
       ·rintro⟨k,q,_,hq,hqa,hdq⟩;have hq':ops[k]?=some q:=by simpa using hq
        have hkj:j≠k:=by intro e;subst e;rw[ho] at hq';cases hq';rw[hal] at hqa;cases hqa
        exact d.st.dst j k o q t hkj ho hq' hd hdq
     ·rw[put_defers];exact Marks.grow hg1 _ s.marks
     ·intro i q hi hq hni;rw[yM hjs] at hni;have hij:i≠j:=fun e=>hni (.inl e)
      have hne:H0.size+eB (ops.toList.take i)≠H0.size+eB (ops.toList.take j):=by
       rcases Nat.lt_or_gt_of_ne hij with h | h
       ·have:=qWE (toL hi) hq h;omega
       ·have:=qWE (toL ho) hal h;omega
      rw[Inj.zFC hne];exact s.un i q hi hq (fun h=>hni (.inr h))
   | false =>
     obtain⟨zHD,Hj,b1,b2,b3,b4,b5⟩:=d.tr.step j o (toL ho) hal;rw[zNY] at b5;have hag:=agree d s.clo ho hal hnj hp b2 b3;have hlen:(cur ops S zFE eF).length=zHD.length:=by rw[jS,b1,d.ta.len]
     have hle':zHD.length=zFE.length:=by rw[b1,d.ta.len]
     have hval:=val_congr hag;have hwc:=qKE hlen hag
     -- the cut behind the operation,and the heap there
     have zG6:yR o=true->Cut ops S j:=fun he=>q7I d s.clo ho he hnj hp
     have hEj:yR o=true->E=Hj:=fun he=>by
      have h1:=s.heap;rw[qWB s.cut (zG6 he),b4] at h1;cases h1;rfl
     have cut':∀ (E':IH),(yR o=true->(H1::hs)[bA (ops.toList.take j)+1]?=some E')->(yR o=false->E'=E) ->
      ∃ p',Cut ops (S.setIfInBounds j true) p'∧(H1::hs)[bA (ops.toList.take p')]?=some E':=by
      intro E' h1 h2
      cases he:yR o with
      | true =>
        refine⟨j+1,?_,by rw[qX5 ho he];exact h1 he⟩;intro k q hk hq;rw[yM hjs,zG6 he k q hk hq];omega
      | false =>
        refine⟨p,?_,by rw[h2 he];exact s.heap⟩;intro k q hk hq;rw[yM hjs];have hkj:k≠j:=by intro e;subst e;rw[ho] at hk;cases hk;rw[he] at hq;cases hq
        simp only[hkj,false_or];exact s.cut k q hk hq
     have un':∀ (f':Inj),(∀ b,b < E.size->f b=none->f' b=none)->∀ i q,ops[i]?=some q->qL q=true->¬ sel (S.setIfInBounds j true) i->f' (H0.size+eB (ops.toList.take i))=none:=by
      intro f' hst i q hi hq hni;rw[yM hjs] at hni;have h1:=qM8 (toL hi) hq;have h2:=d.ta.size;have h3:=s.zF7;exact hst _ (by omega) (s.un i q hi hq (fun h=>hni (.inr h)))
     rcases b5.out with ⟨c1,c2,c3⟩ | ⟨c1,v,H',c2,c3,c4,c5,c6⟩
     ·rw[<-hwc] at c1;rw[y7 s.env c1,if_neg (by simp)];refine⟨fun g _=>hF.fn g,ih _ _ _ hu' ?_⟩;obtain⟨p',k1,k2⟩:=cut' E (fun he=>by rw[hEj he];exact c3 he) (fun _=>rfl);refine⟨p',E,f,by simp[s.size],zGM,k1,k2,s.rel,s.grow,?_,by rw[put_defers];exact s.marks,s.zF7,un' f fun _ _ h=>h⟩;rw[qM6 d ho hjs (v:=undef) fun t hd ht=>c2 t hd (Nat.lt_of_lt_of_eq ht hle'.symm) (qI8 d ho hd)];exact kV s.env .undef _
     ·rw[<-hwc] at c1;rw[y7 s.env c1,if_pos rfl]
      have hrun:∃ E',rU P run nat o (cur ops S zFE eF) E=.ret (v,E')∧(yR o=true->E'=H')∧(yR o=false->E'=E):=by
       cases he:yR o with
       | true=>exact⟨H',by rw[qER hval,hEj he];exact c2,fun _=>rfl,fun h=>absurd h (by simp)⟩
       | false =>
         obtain⟨g1,g2⟩:=qIQ he hal c2;simp only at g1 g2;have:=q5Q d s.clo s.cut s.heap ho he hal hnj hp b4 g2 c6;exact⟨E,by rw[qER hval];exact q2O this,fun h=>absurd h (by simp),fun _=>rfl⟩
      obtain⟨E',q1,q2,q3⟩:=hrun;refine vW (Q:=fun r=>r=(v,E')) hF hc hr s.rel hG' s.env hok' (by rw[q1];rfl) ?_;rintro r v' w' f' rfl k1 k2 k3;refine ih _ _ _ hu' ?_;obtain⟨p',m1,m2⟩:=cut' E' (fun he=>by rw[q2 he];exact c4 he) q3;refine⟨p',E',f',by simp[s.size],zGM,m1,m2,k1,s.grow.trans (k2.at hH0),?_,by rw[put_defers];exact Marks.grow k2 _ s.marks,zNP s.zF7 k2.zF7,un' f' k2.stay⟩;rw[qM6 d ho hjs (v:=v) fun t hd ht=>c3 t hd (Nat.lt_of_lt_of_eq ht hle'.symm) (qI8 d ho hd)];exact kV (s.env.mono k2.le) k3 _
theorem qDP (zLP:P.follows .mixedOrders=true)(hc:kF P G (yJ run nat))(hr:kS P G run):qHG P G nat run:=by
 intro B F id ops env H f a w r hF hR hG hok hdr zFI hm h;obtain⟨e1,H1,hs,rs,d⟩:=zDV hdr h;refine wpIn_region_any zLP (qUO hF hc hr d hG hok _ _ _ _ ?_ ⟨0,H1,f,?_⟩)
 ·unfold unl;have:=zQ3 (p:=fun j=>!(Array.replicate ops.size false).getD j false) (l:=List.range ops.size);simpa using this
 ·have hsel:∀ i,¬ sel (Array.replicate ops.size false) i:=by
   intro i h;unfold sel at h;rw[zND,zQQ] at h;split at h <;> simp at h
  have hcur:cur ops (Array.replicate ops.size false) env r.1=env:=by
   apply qMM (jS _ _ _ _);intro t;rw[qIS (qB0 d),if_neg];rintro⟨j,o,_,h2,_⟩;exact hsel j h2
  have hw:Grow f H w f H { w with drawn:=w.drawn+1 }:=Grow.world rfl;refine⟨by simp,fun i j _ hj=>absurd hj (hsel j),fun j o _ _=>⟨fun h=>absurd h (hsel j),fun h=>by omega⟩,?_,(d.ta.rel f w hR).world rfl,hw,by rw[hcur];exact zFI,Marks.grow hw _ hm,zM0 _,?_⟩
  ·simp[bA]
  ·intro i o ho ha _
   cases hx:f (H.size+eB (ops.toList.take i)) with
   | none=>rfl
   | some y=>have:=hR.dom _ _ hx;omega
end
end Go.Idl
