/- Trees of choices, what a run writes, operations in a frame, code, calls, rounds, drawn regions: an ideal run is a run of the model. Conditions: none. -/
import Derived.Test.YtmojbdabaigobaaGreatDoorIdlD
import Derived.TacticsIn
import Derived.RangeFuncRecord
import Derived.Test.YtmojbdabaigobaaGreatDoorIdlA
import Derived.OrdersIn
set_option linter.all false
namespace Go.Idl
variable {H:IH}{P:Program}{as:List Value}{c:Call}{env:Env}{o:Oper}{ts:Array TypeId}
def T.holds {α:Type}(Q:α->Prop)(t:T α):Prop:=T.rec False (fun a=>Q a) (fun n _ ih=>∀ i,i < n->ih i) (fun p _ ih=>∀ r,p r->ih r) t
def T.all {α:Type}(Q:α->Prop)(t:T α):Prop:=T.rec True (fun a=>Q a) (fun n _ ih=>∀ i,i < n->ih i) (fun _ _ _=>True) t
theorem T.zFB {α:Type}{Q R:α->Prop}(h:∀ a,Q a->R a):∀ (t:T α),t.holds Q->t.holds R
 | .fail,hq=>hq
 | .ret a,hq=>h a hq
 | .ch n k,hq=>fun i hi=>T.zFB h (k i) (hq i hi)
 | .sp p k,hq=>fun r hr=>T.zFB h (k r) (hq r hr)
theorem T.zFY {α:Type}{Q R:α->Prop}(h:∀ a,Q a->R a):∀ (t:T α),t.all Q->t.all R
 | .fail,_=>trivial
 | .ret a,hq=>h a hq
 | .ch n k,hq=>fun i hi=>T.zFY h (k i) (hq i hi)
 | .sp _ _,_=>trivial
theorem T.zFA {α β:Type}{g:α->T β}{Q:β->Prop}:∀ (t:T α),(t.bind g).holds Q ↔ t.holds fun a=>(g a).holds Q
 | .fail=>Iff.rfl
 | .ret a=>Iff.rfl
 | .ch n k=>by
   constructor
   ·intro h i hi;exact (T.zFA (k i)).1 (h i hi)
   ·intro h i hi;exact (T.zFA (k i)).2 (h i hi)
 | .sp p k=>by
   constructor
   ·intro h i hi;exact (T.zFA (k i)).1 (h i hi)
   ·intro h i hi;exact (T.zFA (k i)).2 (h i hi)
theorem T.all_bind {α β:Type}{g:α->T β}{Q:β->Prop}:∀ (t:T α),(t.bind g).all Q ↔ t.all fun a=>(g a).all Q
 | .fail=>Iff.rfl
 | .ret a=>Iff.rfl
 | .ch n k=>by
   constructor
   ·intro h i hi;exact (T.all_bind (k i)).1 (h i hi)
   ·intro h i hi;exact (T.all_bind (k i)).2 (h i hi)
 | .sp _ _=>Iff.rfl
theorem qZF {α β:Type}(g:α->Option β):∀ (l:List α) (r:List β),l.mapM g=some r->∀ (i:Nat) a,l[i]?=some a->∃ b,r[i]?=some b∧g a=some b:=by
 intro l r h i a ha;have:=qGJ g l r h;have h1:=congrArg (fun l=>l[i]?) this;simp only[zOX,ha,zOW] at h1
 cases hb:r[i]? with
 | none=>rw[hb] at h1;cases h1
 | some b=>rw[hb] at h1;simp at h1;exact⟨b,rfl,h1⟩
theorem T.zF2 {α:Type}{Q:α->Prop}:∀ (t:T α) (l:List α),t.leaves=some l->((∀ a∈l,Q a)->t.holds Q)∧(t.all Q->∀ a∈l,Q a)
 | .fail,l,h=>by simp[T.leaves] at h
 | .sp _ _,l,h=>by simp[T.leaves] at h
 | .ret a,l,h=>by
   simp[T.leaves] at h;subst h;exact⟨fun h=>h a (by simp),fun h b hb=>by simp at hb;subst hb;exact h⟩
 | .ch n k,l,h=>by
   simp only[T.leaves,zOR] at h;obtain⟨ls,h1,rfl⟩:=h;have h2:∀ i,i < n->∃ b,ls[i]?=some b∧(k i).leaves=some b:=fun i hi=>qZF _ _ _ h1 i i (by simp[hi])
   constructor
   ·intro hq i hi;obtain⟨b,hb,hl⟩:=h2 i hi;exact ((k i).zF2 b hl).1 fun a ha=>hq a (zRL.2 ⟨b,zPP hb,ha⟩)
   ·intro hall a ha;obtain⟨b,hb,hab⟩:=zRL.1 ha;obtain⟨i,hi⟩:=List.mem_iff_getElem?.1 hb
    have hlen:ls.length=n:=by
     have:=congrArg List.length (qGJ _ _ _ h1);simpa using this.symm
    have hin:i < n:=by rw[<-hlen];exact (zOO.1 hi).1
    obtain⟨b',hb',hl⟩:=h2 i hin;rw[hi] at hb';cases hb';exact ((k i).zF2 b hl).2 (hall i hin) a hab
structure Ext (H H':IH):Prop where
 size:H.size<=H'.size
 log:∃ l,H'.log=l++H.log∧∀ b,b < H.size->b ∉ l->H'.get b=H.get b
theorem Ext.refl (H:IH):Ext H H:=⟨zOI _,[],rfl,fun _ _ _=>rfl⟩
theorem Ext.trans {H1 H2:IH}(a:Ext H H1)(b:Ext H1 H2):Ext H H2:=by
 obtain⟨s1,l1,h1,g1⟩:=a;obtain⟨s2,l2,h2,g2⟩:=b;refine⟨zO7 s1 s2,l2++l1,by rw[h2,h1,zPE],fun x hx hn=>?_⟩;simp only[zPJ,not_or] at hn;rw[g2 x (zOM hx s1) hn.1,g1 x hx hn.2]
theorem Ext.put (H:IH)(b:Nat)(o:Obj):Ext H (H.put b o) :=
 ⟨zOI _,[b],rfl,fun x _ hn=>by rw[IH.get_put,if_neg (by simpa using hn)]⟩
theorem Ext.push (H:IH)(o:Obj):Ext H (H.push o) :=
 ⟨by simp,[],rfl,fun x hx _=>by rw[IH.zE9,if_neg (by omega)]⟩
theorem Ext.stores {H H':IH}{b i:Nat}{vs:List Value}(h:H.stores b i vs=some H'):Ext H H':=by
 unfold IH.stores at h;split at h
 ·split at h
  ·cases h;exact .put _ _ _
  ·cases h
 ·cases h
def qZ1 (H:IH):zE7->Prop
 | .val _ H'=>Ext H H'
 | .enter _ _ H'=>H'=H
 | .round _ _ H'=>H'=H
 | .choice n k=>∀ i,i < n->∀ v H',k i=some (v,H')->Ext H H'
theorem qMO {s:zE7}(h:uV P ts as H=some s):qZ1 H s:=by
 unfold uV wC at h
 repeat' split at h
 all_goals first | (cases h;done) | skip
 ·unfold qMS at h
  repeat' split at h
  all_goals first | (cases h;exact .refl _) | (rename_i hst;cases h;exact .stores hst) | cases h
 ·unfold qSS at h;split at h
  ·split at h
   ·rename_i old H2 _ hk;cases h;refine .trans ?_ (.push _ _);unfold qKN at hk
    repeat' split at hk
    all_goals first | (cases hk;exact .refl _) | (cases hk;exact .put _ _ _) | cases hk
   ·cases h
  ·cases h
theorem qTF {s:zE7}(h:qDB P ts as H=some s):qZ1 H s:=by
 unfold qDB uF at h
 repeat' split at h
 all_goals first | (cases h;exact .refl _) | (rename_i hst;cases h;exact .stores hst) | cases h
theorem qKS {b:Builtin}{s:zE7}(h:yG P b c as H=some s):qZ1 H s:=by
 unfold yG at h;split at h
 ·exact qMO h
 ·exact qTF h
 ·unfold nL at h
  repeat' split at h
  all_goals first | (cases h;exact .refl _) | cases h
 ·repeat' split at h
  all_goals first | (cases h;exact .refl _) | cases h
 ·unfold xU at h
  repeat' split at h
  all_goals first | (cases h;exact .refl _) | (cases h;exact .put _ _ _) | cases h
 ·cases h
theorem fP {s:zE7}(h:kL P o env H=some s):qZ1 H s:=by
 obtain⟨v,rfl,_⟩:=qHM h;exact .refl _
theorem qTO {s:zE7}(h:yJ P o c env H=some s):qZ1 H s:=by
 unfold yJ at h;split at h
 ·rename_i r hr;cases h;unfold fQ at hr;simp only at hr;split at hr
  ·exact qKS hr
  ·cases hr
  ·repeat' split at hr
   all_goals first | (cases hr;rfl) | (cases hr;exact .refl _) | cases hr
 ·exact fP h
theorem qPU {r:Option IH}{s:zE7}(h:qLX r=some s)(hr:∀ H',r=some H'->Ext H H'):qZ1 H s:=by
 cases r with
 | none=>cases h
 | some H2=>cases h;exact hr H2 rfl
theorem qGT {r:Option Value}{s:zE7}(h:zE7.ofO H r=some s):qZ1 H s:=by
 obtain⟨v,rfl,_⟩:=fG h;exact .refl _
theorem qDP {op:BinOp}{t:TypeId}{x y:Value}{s:zE7}(h:zFE P o op t x y env H=some s):qZ1 H s:=by
 unfold zFE at h
 repeat' split at h
 all_goals first | (cases h;exact .refl _) | exact fP h
theorem qBK {s:zE7}(h:iop P o env H=some s):qZ1 H s:=by
 unfold iop at h
 split at h <;> first
  | exact qGT h
  | exact fP h
  | exact qTO h
  | (cases h;exact .refl _)
  | (cases h;done)
  | skip
 ·unfold qNB at h;split at h <;> cases h;exact .refl _
 ·unfold r9 at h;split at h <;> cases h;exact .push _ _
 ·unfold q4V at h;split at h <;> cases h;exact .push _ _
 ·unfold kJ at h
  repeat' split at h
  all_goals first | (cases h;exact .push _ _) | cases h
 ·refine qPU h fun H' h'=>?_
  unfold fF at h'
  repeat' split at h'
  all_goals first | exact .stores h' | cases h'
 ·unfold wG at h
  repeat' split at h
  all_goals first | (cases h;exact .refl _) | cases h
 ·unfold yT at h;split at h
  ·split at h
   ·unfold zFR at h;rw[cond_eq_ite] at h
    repeat' split at h
    all_goals first | (cases h;exact .refl _) | exact fP h
   ·exact qDP h
  ·exact qDP h
 ·unfold gY at h;split at h
  ·exact qGT h
  ·exact fP h
 ·unfold wN at h;split at h <;> cases h;exact .refl _
 ·unfold bK at h;split at h <;> cases h;exact .push _ _
 ·unfold jU at h
  repeat' split at h
  all_goals first | (cases h;exact .push _ _) | cases h
 ·unfold wZ at h;split at h
  ·exact fP h
  ·exact qGT h
 ·unfold wV at h;split at h
  ·exact fP h
  ·exact qGT h
 ·refine qPU h fun H' h'=>?_
  unfold jS at h'
  repeat' split at h'
  all_goals first | (cases h';exact .put _ _ _) | cases h'
 ·unfold fK at h;split at h
  ·unfold wP at h;split at h
   ·rw[cond_eq_ite] at h;split at h
    ·cases h;exact .refl _
    ·cases h
   ·cases h
  ·cases h
end Go.Idl
namespace Go.Idl
theorem qSJ (n:Nat):∀ v w,zAT n v w=true->v=w:=by
 induction n with
 | zero=>intro v w h;exact absurd h (by show ¬ (false=true);simp)
 | succ n ih =>
   intro v w h;have hl:∀ (a b:Array Value),eqL (zAT n) a.toList b.toList=true->a=b:=fun a b hab=>zP5 (oM ih hab)
   have hs:∀ (a b:ByteArray),eqL (·==·) a.data.toList b.data.toList=true->a=b:=fun a b hab=>by
    have:=oM (fun x y (h:(x==y)=true)=>by simpa using h) hab;cases a;cases b;simp only at this;congr 1;exact zP5 this
   cases v <;> cases w <;> first | (exact absurd h (by show ¬ (false=true);simp)) | skip
   case bool.bool a b=>have h':(a==b)=true:=h;simp at h';rw[h']
   case int.int k a k' b=>have h':(k==k'&&a==b)=true:=h;simp at h';rw[h'.1,h'.2]
   case string.string a b=>rw[hs a b h]
   case pointer.pointer a b=>have h':(a==b)=true:=h;simp at h';rw[h']
   case slice.slice a l c a' l' c'=>have h':(a==a'&&(l==l'&&c==c'))=true:=h;simp at h';rw[h'.1,h'.2.1,h'.2.2]
   case map.map a b=>have h':(a==b)=true:=h;simp at h';rw[h']
   case func.func f a b f' a' b' =>
    have h':(f==f'&&(eqL (zAT n) a.toList a'.toList&&eqL (zAT n) b.toList b'.toList))=true:=h;simp only[zOG,beq_iff_eq] at h';rw[h'.1,hl _ _ h'.2.1,hl _ _ h'.2.2]
   case nilFunc.nilFunc=>rfl
   case nilIface.nilIface=>rfl
   case agg.agg a b=>rw[hl _ _ h]
   case tuple.tuple a b=>rw[hl _ _ h]
theorem qBA {v w:Value}(h:veq v w=true):v=w:=qSJ 4 v w h
theorem bR {l m:List Value}(h:zAF l m=true):l=m:=oM (fun _ _=>qBA) h
theorem qM1 {es es':Array MapEntry}(hk:es.toList.map (·.key)=es'.toList.map (·.key))(hv:es.toList.map (·.val)=es'.toList.map (·.val))(hb:es.toList.map (·.born)=es'.toList.map (·.born)):es=es':=by
 have key:∀ (l l':List MapEntry),l.map (·.key)=l'.map (·.key)->l.map (·.val)=l'.map (·.val)->l.map (·.born)=l'.map (·.born)->l=l':=by
  intro l
  induction l with
  | nil=>intro l' h _ _;cases l' with
    | nil=>rfl
    | cons a b=>simp at h
  | cons a l ih=>intro l' h1 h2 h3;cases l' with
    | nil=>simp at h1
    | cons b l' =>
      simp only[zOZ,zPD] at h1 h2 h3;rw[ih l' h1.2 h2.2 h3.2];cases a;cases b;simp only at h1 h2 h3;rw[h1.1,h2.1,h3.1]
 exact zP5 (key _ _ hk hv hb)
theorem qVV {o o':Obj}(h:oeq o o'=true):o=o':=by
 unfold oeq at h;split at h
 ·simp only[zOG,beq_iff_eq] at h;rw[zP5 (bR h.1.1),h.1.2,h.2]
 ·simp only[zOG,beq_iff_eq] at h;rw[zP5 (bR h.1),h.2]
 ·simp only[zOG,beq_iff_eq] at h;rename_i s p s' p';have:=oM (fun x y (h:(x==y)=true)=>by simpa using h) h.1;rw[h.2];cases s;cases s';simp only at this;rw[zP5 this]
 ·simp only[zOG,beq_iff_eq] at h;rw[h.1.1.1,h.1.1.2,zP5 h.1.2,h.2]
 ·simp only[zOG,beq_iff_eq] at h;rw[h.1.1.1,qM1 (bR h.1.1.2) (bR h.1.2) h.2]
 ·cases h
theorem pR {o o':Option Obj}(h:q8R o o'=true):o=o':=by
 unfold q8R at h;split at h
 ·rfl
 ·rw[qVV h]
 ·cases h
structure Sub (H0:IH) (p o:Out):Prop where
 e:o.e=p.e
 env:∀ (P:Program) (f:Inj) (l:List Value),qE P f p.env l->qE P f o.env l
 rel:∀ (P:Program) (f:Inj) (w:World),Rel P f p.H w->Rel P f o.H w
 keep:∀ f,Keep f H0 p.H->Keep f H0 o.H
 size:p.H.size<=o.H.size
theorem dZ:∀ (a b:Env),a.length=b.length->(mM a b).length=a.length
 | [],[],_=>rfl
 | x::a,y::b,h=>by simp[mM,dZ a b (by simpa using h)]
 | [],_::_,h=>by simp at h
 | _::_,[],h=>by simp at h
theorem sJ {P:Program}{f:Inj}:∀ (a b l:List Value),a.length=b.length->qE P f a l->qE P f (mM a b) l
 | [],[],l,_,h=>by rw[h.zE5];exact .nil
 | x::a,y::b,l,hl,h=>by
   obtain⟨v',t',rfl,hv,ht⟩:=h.zE2;refine .cons ?_ (sJ a b t' (by simpa using hl) ht);split
   ·exact hv
   ·exact .any _
 | [],_::_,l,h,_=>by simp at h
 | _::_,[],l,h,_=>by simp at h
theorem nX {P:Program}{f:Inj}:∀ (a b l:List Value),a.length=b.length->qE P f b l->qE P f (mM a b) l
 | [],[],l,_,h=>by rw[h.zE5];exact .nil
 | x::a,y::b,l,hl,h=>by
   obtain⟨v',t',rfl,hv,ht⟩:=h.zE2;refine .cons ?_ (nX a b t' (by simpa using hl) ht);split
   ·rename_i he;rw[qBA he];exact hv
   ·exact .any _
 | [],_::_,l,h,_=>by simp at h
 | _::_,[],l,h,_=>by simp at h
theorem qT2 {P:Program}{f:Inj}{l:List Value}:∀ (rest:List Out) (e:Env),(∀ p∈rest,p.env.length=e.length)->(qE P f e l∨∃ p∈rest,qE P f p.env l) ->
 qE P f (rest.foldl (fun e p=>mM e p.env) e) l
 | [],e,_,h=>by
   rcases h with h | ⟨p,hp,_⟩
   ·exact h
   ·cases hp
 | q::rest,e,hl,h=>by
   have hq:e.length=q.env.length:=(hl q (by simp)).symm;refine qT2 rest _ (fun p hp=>by rw[dZ _ _ hq];exact hl p (by simp[hp])) ?_
   rcases h with h | ⟨p,hp,h⟩
   ·exact .inl (sJ _ _ _ hq h)
   ·rcases zO1.1 hp with rfl | hp
    ·exact .inl (nX _ _ _ hq h)
    ·exact .inr ⟨p,hp,h⟩
theorem q8U (H:IH)(l:List Nat)(hl:∀ b∈l,(H.get b).isSome=true):∀ (t:Tr Obj) (b:Nat),(l.foldl (fun t b=>match H.get b with
 | some ob=>t.set b ob
 | none=>t) t).get b=if b∈l then H.get b else t.get b:=by
 induction l with
 | nil=>intro t b;simp
 | cons x l ih =>
   intro t b;simp only[zQA];rw[ih (fun y hy=>hl y (by simp[hy]))];have hx:=hl x (by simp)
   cases hg:H.get x with
   | none=>rw[hg] at hx;cases hx
   | some ob =>
     simp only;by_cases hb:b∈l
     ·simp[hb]
     ·rw[if_neg hb,Tr.zGA];by_cases hbx:b=x
      ·subst hbx;simp[hg]
      ·simp[hb,hbx]
theorem q5G (l:List Out):∀ (m:Nat),m<=l.foldl (fun m p=>Nat.max m p.H.size) m∧∀ p∈l,p.H.size<=l.foldl (fun m p=>Nat.max m p.H.size) m:=by
 induction l with
 | nil=>intro m;simp
 | cons x l ih =>
   intro m;obtain⟨h1,h2⟩:=ih (Nat.max m x.H.size);simp only[zQA];refine⟨zO7 (Nat.le_max_left _ _) h1,fun p hp=>?_⟩;rcases zO1.1 hp with rfl | hp
   ·exact zO7 (Nat.le_max_right _ _) h1
   ·exact h2 p hp
theorem Ext.since {H H':IH}(h:Ext H H'){b:Nat}(hb:b < H.size)(hn:b ∉ H'.since H.log.length):H'.get b=H.get b:=by
 obtain⟨l,hl,hg⟩:=h.log;refine hg b hb ?_;unfold IH.since at hn;rw[hl] at hn;simpa using hn
theorem qA3 {H0:IH}{l:List Out}{o:Out}(h:qNY H0 H0.log.length l=some o)(hext:∀ p∈l,Ext H0 p.H) :
 ((∀ b,H0.size<=b->H0.get b=none)->∀ p∈l,Sub H0 p o)∧Ext H0 o.H:=by
 unfold qNY at h;split at h
 ·cases h
 ·rename_i o1 rest;split at h
  ·rename_i hc;cases h;simp only[zOG,zOJ,decide_eq_true_eq] at hc;obtain⟨hsome,hrest⟩:=hc;have hb1:∀ b,b∈(o1.H.since H0.log.length).filter (· < H0.size) ↔ b∈o1.H.since H0.log.length∧b < H0.size:=fun b=>by simp
   -- the joined heap,block by block
   have hget:∀ b,(IH.mk (((o1.H.since H0.log.length).filter (· < H0.size)).foldl (fun t b=>match o1.H.get b with
    | some ob=>t.set b ob
    | none=>t) H0.tr) ((o1::rest).foldl (fun m p=>Nat.max m p.H.size) 0) H0.base ((o1.H.since H0.log.length).filter (· < H0.size)++H0.log)).get b =
    if b∈(o1.H.since H0.log.length).filter (· < H0.size) then o1.H.get b else H0.get b:=fun b=>q8U o1.H _ hsome H0.tr b
   generalize hJ:(IH.mk (((o1.H.since H0.log.length).filter (· < H0.size)).foldl (fun t b=>match o1.H.get b with
    | some ob=>t.set b ob
    | none=>t) H0.tr) ((o1::rest).foldl (fun m p=>Nat.max m p.H.size) 0) H0.base ((o1.H.since H0.log.length).filter (· < H0.size)++H0.log))=J at *
   have zJ1:J.size=(o1::rest).foldl (fun m p=>Nat.max m p.H.size) 0:=by rw[<-hJ]
   have zKV:J.log=(o1.H.since H0.log.length).filter (· < H0.size)++H0.log:=by rw[<-hJ]
   have zJM:∀ b,b < H0.size->J.get b=o1.H.get b:=by
    intro b hb;rw[hget];split
    ·rfl
    ·rename_i hn;exact ((hext o1 (by simp)).since hb (fun hx=>hn ((hb1 b).2 ⟨hx,hb⟩))).symm
   have hlow:∀ p∈o1::rest,∀ b,b < H0.size->J.get b=p.H.get b:=by
    intro p hp b hb;rcases zO1.1 hp with rfl | hp
    ·exact zJM b hb
    ·obtain⟨⟨⟨_,_⟩,hs1⟩,hs2⟩:=hrest p hp;rw[zJM b hb];by_cases hm1:b∈o1.H.since H0.log.length
     ·exact pR (zOJ.1 hs1 b ((hb1 b).2 ⟨hm1,hb⟩))
     ·by_cases hm2:b∈p.H.since H0.log.length
      ·exact pR (zOJ.1 hs2 b (by simp[hm2,hb]))
      ·rw[(hext o1 (by simp)).since hb hm1,(hext p (by simp[hp])).since hb hm2]
   have hhigh:(∀ b,H0.size<=b->H0.get b=none)->∀ b,H0.size<=b->J.get b=none:=by
    intro hfresh b hb;rw[hget,if_neg (fun hx=>by have:=((hb1 b).1 hx).2;omega)];exact hfresh b hb
   have hsize:∀ p∈o1::rest,p.H.size<=J.size:=fun p hp=>by rw[zJ1];exact (q5G _ 0).2 p hp
   refine⟨fun hfresh p hp=>⟨?_,?_,?_,?_,hsize p hp⟩,?_,?_⟩
   ·rcases zO1.1 hp with rfl | hp
    ·rfl
    ·exact (hrest p hp).1.1.1.symm
   ·intro P f l hl;refine qT2 rest o1.env (fun q hq=>(hrest q hq).1.1.2) ?_;rcases zO1.1 hp with rfl | hp
    ·exact .inl hl
    ·exact .inr ⟨p,hp,hl⟩
   ·intro P f w hR
    have zGO:∀ b ob,J.get b=some ob->p.H.get b=some ob:=by
     intro b ob hb;by_cases hlt:b < H0.size
     ·rw[<-hlow p hp b hlt];exact hb
     ·rw[hhigh hfresh b (by omega)] at hb;cases hb
    refine⟨fun b e hb=>zOM (hR.dom b e hb) (hsize p hp),fun b hb=>?_,hR.bound,fun b e ob hb hob=>hR.obj b e ob hb (zGO b ob hob),?_,hR.zFM⟩
    ·by_cases hlt:b < H0.size
     ·have h1:=(hext p hp).size;have h2:=hsize p hp;simp only at hb;omega
     ·exact hhigh hfresh b (by omega)
    ·intro b1 b2 e1 e2 o1' o2' hne h1 h2 g1 g2;exact hR.sep b1 b2 e1 e2 o1' o2' hne h1 h2 (zGO _ _ g1) (zGO _ _ g2)
   ·intro f hK;exact⟨zO7 hK.1 (hsize p hp),fun b hb hn=>by rw[hlow p hp b hb];exact hK.2 b hb hn⟩
   ·exact zO7 (hext o1 (by simp)).size (hsize o1 (by simp))
   ·exact⟨_,zKV,fun b hb hn=>by rw[hget,if_neg hn]⟩
  ·cases h
theorem Sub.refl (H0:IH)(p:Out):Sub H0 p p:=⟨rfl,fun _ _ _ h=>h,fun _ _ _ h=>h,fun _ h=>h,zOI _⟩
theorem qEJ {H:IH}{Q:Out->Prop}(hfresh:∀ b,H.size<=b->H.get b=none)(t:T Out)(ha:t.all fun o=>Ext H o.H)(h:(join H t).holds Q):t.holds fun p=>∃ o,Q o∧Sub H p o:=by
 have zJ2:t.holds Q->t.holds fun p=>∃ o,Q o∧Sub H p o:=fun h=>T.zFB (fun p hp=>⟨p,hp,.refl _ _⟩) t h
 unfold join at h;split at h
 ·rename_i n k;split at h
  ·rename_i l hl;split at h
   ·rename_i o ho;obtain⟨h1,h2⟩:=(T.ch n k).zF2 (Q:=fun p=>∃ o,Q o∧Sub H p o) l hl;obtain⟨_,h4⟩:=(T.ch n k).zF2 (Q:=fun o=>Ext H o.H) l hl
    exact h1 fun p hp=>⟨o,h,(qA3 ho (h4 ha)).1 hfresh p hp⟩
   ·exact zJ2 h
  ·exact zJ2 h
 ·exact zJ2 h
theorem qOC {H:IH}(t:T Out)(ha:t.all fun o=>Ext H o.H):(join H t).all fun o=>Ext H o.H:=by
 unfold join;split
 ·rename_i n k;split
  ·rename_i l hl;split
   ·rename_i o ho;obtain⟨_,h4⟩:=(T.ch n k).zF2 (Q:=fun o=>Ext H o.H) l hl;exact (qA3 ho (h4 ha)).2
   ·exact ha
  ·exact ha
 ·exact ha
variable {P:Program}{good:FuncId->Bool}{nat:xC}
variable {H:IH}{env:Env}{ops:Array Oper}
def wM (nat:xC):Prop:=∀ f g,nat f=some g->∀ args H,(g args H).all fun r=>Ext H r.2
def aD (run:Job->IH->T Out):Prop:=∀ j H,(run j H).all fun o=>Ext H o.H
theorem gN {α:Type}{g:α->IH}{H1:IH}(h:Ext H H1){t:T α}(ht:t.all fun a=>Ext H1 (g a)):t.all fun a=>Ext H (g a):=T.zFY (fun _ ha=>h.trans ha) t ht
theorem qA0 {r:Out}(h:Ext H r.H):(wQ r).all fun r=>Ext H r.2:=by
 unfold wQ;split
 ·exact h
 ·exact trivial
theorem qEB {run:Job->IH->T Out}(hn:wM nat)(hr:aD run)(f:FuncId)(args:List Value)(H:IH):(yK run nat f args H).all fun r=>Ext H r.2:=by
 unfold yK;split
 ·rename_i g hg;exact hn f g hg args H
 ·rw[T.all_bind];exact T.zFY (fun o ho=>qA0 ho) _ (hr _ H)
theorem qPK {run:Job->IH->T Out}(hn:wM nat)(hr:aD run)(o:Oper)(env:Env)(H:IH):(sI P run nat o env H).all fun r=>Ext H r.2:=by
 unfold sI qI0;split
 ·rename_i v H' h;exact qBK h
 ·rename_i f args H' h;have:H'=H:=qBK h;subst this;exact qEB hn hr f args H'
 ·rename_i l args H' h;have:H'=H:=qBK h;subst this;rw[T.all_bind];exact T.zFY (fun o ho=>qA0 ho) _ (hr _ H')
 ·rename_i n k h;intro i hi;have:=qBK h i hi;show (T.ofO (k i)).all _
  cases hk:k i with
  | none=>exact trivial
  | some r=>exact this r.1 r.2 hk
 ·exact trivial
theorem qFD {run:Job->IH->T Out}(hn:wM nat)(hr:aD run)(ops:Array Oper):∀ (l:List Oper) (env:Env) (H:IH),(q8H P run nat ops l env H).all fun r=>Ext H r.2
 | [],env,H=>.refl _
 | o::l,env,H=>by
   rw[qLA];unfold j6;split
   ·rw[T.all_bind];exact T.zFY (fun r hrr=>gN hrr (qFD hn hr ops l _ _)) _ (qPK hn hr o env H)
   ·exact qFD hn hr ops l _ _
   ·exact trivial
theorem qBY:∀ (l:List Oper) (env zE4:Env) (H H1:IH),qFZ P l env H=some (zE4,H1)->Ext H H1
 | [],env,zE4,H,H1,h=>by simp[qFZ] at h;rw[h.2];exact .refl _
 | o::l,env,zE4,H,H1,h=>by
   unfold qFZ at h;split at h
   ·split at h
    ·rename_i v H' hv;exact .trans (qBK hv) (qBY l _ _ _ _ h)
    ·cases h
   ·exact qBY l _ _ _ _ h
theorem qZ6 {Q:Value×IH->Prop}{t:T (Value×IH)}{r:Value×IH}(h:q3X t=some r)(ha:t.all Q):Q r:=by
 unfold q3X at h;split at h
 ·cases h;exact ha
 ·cases h
theorem qEP {run:Job->IH->T Out}{lo:List (Nat×Nat×Nat)}{o:Oper}{l:List Oper}{i:Nat} :
 qNS P run nat ops lo (o::l) i env H=cond (qL o) (qNS P run nat ops lo l (i+1) env H)
  (j6 (kM ops o env) (q18 o i env lo (qNS P run nat ops lo l (i+1)) (q3X (sI P run nat o env H)))
    (q0N o H (qNS P run nat ops lo l (i+1) (env.zFK o.dst undef) H)) none):=rfl
theorem nI {run:Job->IH->T Out}(hn:wM nat)(hr:aD run)(ops:Array Oper)(lo:List (Nat×Nat×Nat)):∀ (l:List Oper) (i:Nat) (env:Env) (H:IH) (r:Env×IH×List IH×List Rec),
 qNS P run nat ops lo l i env H=some r->Ext H r.2.1
 | [],i,env,H,r,h=>by
   have h':some (env,H,[],[])=some r:=h;cases h';exact .refl _
 | o::l,i,env,H,r,h=>by
   rw[qEP] at h
   cases ha:qL o with
   | true=>rw[ha] at h;exact nI hn hr ops lo l _ _ _ _ h
   | false =>
     rw[ha] at h;simp only[cond_false] at h;unfold j6 at h;split at h
     ·cases ho:q3X (sI P run nat o env H) with
      | none=>rw[ho] at h;cases h
      | some q =>
        rw[ho] at h;simp only[q18,q74] at h;split at h
        ·rename_i e hh hs rs hq;cases h;exact .trans (qZ6 ho (qPK hn hr o env H)) (nI hn hr ops lo l _ _ _ (e,hh,hs,rs) hq)
        ·cases h
     ·simp only[q0N] at h;split at h
      ·rename_i e hh hs rs hq;cases h;exact nI hn hr ops lo l _ _ _ (e,hh,hs,rs) hq
      ·cases h
     ·cases h
theorem qX2 {run:Job->IH->T Out}(hn:wM nat)(hr:aD run){r:Env×IH}(h:qQ9 P run nat ops env H=some r):Ext H r.2:=by
 unfold qQ9 at h;split at h
 ·rename_i zE4 H1 h1;unfold qMN at h;split at h
  ·rename_i zFH H2 hs rs h2;rw[cond_eq_ite] at h;split at h
   ·cases h;exact .trans (qBY _ _ _ _ _ h1) (nI hn hr _ _ _ _ _ _ _ h2)
   ·cases h
  ·cases h
 ·cases h
theorem wY {run:Job->IH->T Out}(hr:aD run){j:Job}{k:Out->T Out}(hk:∀ o,(k o).all fun o'=>Ext o.H o'.H):((run j H).bind k).all fun o=>Ext H o.H:=by
 rw[T.all_bind];exact T.zFY (fun o ho=>gN ho (hk o)) _ (hr j H)
theorem qHJ {run:Job->IH->T Out}(hr:aD run)(l:Nat)(args:List Value)(H:IH):(aY run l args H).all fun o=>Ext H o.H:=by
 unfold aY;split
 ·split
  ·refine wY hr fun o=>?_
   unfold qCD;split
   ·split
    ·split
     ·rw[T.all_bind];refine T.zFY (fun s hs=>?_) _ (hr _ _);have hs':Ext o.H s.H:=.trans (.put _ _ _) hs;unfold roundEnd;split
      ·exact .trans hs' (.put _ _ _)
      ·exact trivial
     ·exact trivial
    ·exact trivial
   ·exact trivial
  ·exact trivial
 ·exact trivial
theorem qGF {run:Job->IH->T Out}(hn:wM nat)(hr:aD run)(v:Value)(params:Array Tmp)(assign body:Code)(env:Env)(H:IH):(jC P run nat v params assign body env H).all fun o=>Ext H o.H:=by
 unfold jC;split
 ·rw[cond_eq_ite];split
  case isFalse=>exact trivial
  rw[T.all_bind];refine T.zFY (fun r hrr=>?_) _ (qEB hn hr _ _ _);have h1:Ext H r.2:=.trans (.push _ _) hrr;unfold kQ;split
  ·split
   ·exact trivial
   ·split
    ·exact .trans h1 (.put _ _ _)
    ·exact gN (.trans h1 (.put _ _ _)) (hr _ _)
  ·exact trivial
 ·exact trivial
theorem qH0 {run:Job->IH->T Out}(hn:wM nat)(hr:aD run)(c:Code)(env:Env)(H:IH):(tQ P run nat c env H).all fun o=>Ext H o.H:=by
 unfold tQ;split
 ·exact .refl _
 ·exact .refl _
 ·exact .refl _
 ·exact .refl _
 ·refine wY hr fun o=>?_
  unfold qFO;split
  ·exact hr _ _
  ·exact .refl _
 ·unfold qAC;split
  ·exact hr _ _
  ·exact trivial
 ·refine wY hr fun o=>?_
  unfold o7;split
  ·rw[cond_eq_ite];split
   ·exact .refl _
   ·exact .refl _
  ·exact .refl _
 ·refine qOC _ (wY hr fun o=>?_);unfold bZ;split
  ·exact hr _ _
  ·exact .refl _
 ·refine wY hr fun o=>?_
  unfold nG;split
  ·exact trivial
  ·exact .refl _
 ·unfold bO;rw[cond_eq_ite];split
  ·unfold qF9;split
   ·rename_i zFH H2 h;exact qX2 hn hr h
   ·exact trivial
  ·rw[T.all_bind];exact qFD hn hr _ _ _ _
 ·exact qGF hn hr _ _ _ _ _ _
 ·exact trivial
theorem qJR {run:Job->IH->T Out}(hr:aD run)(f:FuncId)(args:List Value)(H:IH):(nK P good run f args H).all fun o=>Ext H o.H:=by
 unfold nK;split
 ·split
  ·rw[cond_eq_ite];split
   ·refine qOC _ (wY hr fun o=>?_);unfold qA1;split
    ·split
     ·exact .refl _
     ·exact trivial
    ·split
     ·exact .refl _
     ·exact trivial
    ·exact trivial
   ·exact trivial
  ·exact trivial
 ·exact trivial
theorem qCV (hn:wM nat):∀ (n:Nat),aD (iex P good nat n)
 | 0,j,H=>trivial
 | n+1,j,H=>by
   rw[q2E];have hr:=qCV hn n;unfold qMZ;split
   ·exact qH0 hn hr _ _ _
   ·exact qJR hr _ _ _
   ·exact qHJ hr _ _ _
end Go.Idl
namespace Go.Idl
variable {P:Program}{nat:xC}
variable {F:Fence}{G:Nat->Bool}{H:IH}{a:Act}{env:Env}{f:Inj}{g:FuncId}{n:Nat}{o:Oper}{v':Value}{w:World}
def uX (G:Nat->Bool)(f:Inj):Prop:=∀ g,G g=true->zA f g=true
theorem uX.mono {f':Inj}(h:uX G f)(hl:f.le f'):uX G f':=fun g hg=>zI hl g (h g hg)
theorem qWK (h:qE P f env a.tmps.toList)(t:Nat):zE0 P f ((zL env t).getD undef) (a.tmps.getD t undef):=by
 rw[qF]
 cases ht:env[t]? with
 | some v =>
   obtain⟨v',h1,h2⟩:=h.get ht;have h1':a.tmps[t]?=some v':=by simpa using h1
   simpa [zOU,h1'] using h2
 | none =>
   have hlen:env.length<=t:=zRH.1 ht
   have h1':a.tmps[t]?=none:=by
    have:=h.1;rw[zSD];simp only[zPU] at this;omega
   simpa [zOU,h1'] using zE0.undef
theorem nU (h:qE P f env a.tmps.toList){x:Operand}(hx:kV (zA f) x=true):zE0 P f (env.val x) (a.eval x):=by
 cases x with
 | tmp t=>exact qWK h t
 | const v=>exact .base _ hx
 | global g =>
   obtain⟨e,h1,h2,h3,_⟩:=dA.1 hx;have:=zE0.ptr (P:=P) (o:=0) h1;rw[h2,h3] at this;exact this
 | func g=>exact .base _ rfl
theorem kY (h:qE P f env a.tmps.toList){v:Value}(hv:zE0 P f v v')(d:Option Tmp):qE P f (env.zFK d v) (a.put d v').tmps.toList:=by
 cases d with
 | none=>exact h
 | some t =>
   simp only[Env.zFK,Act.put,qX];rw[zRE];exact h.set hv t
def aW (F:Fence):Prop:=F=Fence.wide∨∃ l,F=Fence.wide.inRound l
theorem qKL:aW Fence.wide:=.inl rfl
theorem dD (l:Nat):aW (Fence.wide.inRound l):=.inr ⟨l,rfl⟩
theorem aW.fn (h:aW F)(g:FuncId):F.fn g:=by rcases h with rfl | ⟨l,rfl⟩ <;> exact trivial
theorem aW.depth (h:aW F):F.depth=none:=by rcases h with rfl | ⟨l,rfl⟩ <;> rfl
theorem aW.calls (h:aW F){args:Array Value}{R:Ending->World->Prop}(hc:CallsIn Fence.wide n P g args w R):CallsIn F n P g args w R:=by
 rcases h with rfl | ⟨l,rfl⟩ <;> exact hc
theorem aW.round (h:aW F){l:Nat}{tmps:Array Value}{x y:Code}{R:Ending->World->Prop}(hc:RoundIn Fence.wide n P l g tmps x y w R):RoundIn F n P l g tmps x y w R:=by
 rcases h with rfl | ⟨l,rfl⟩ <;> exact hc
def zAC:Value->Option Bool
 | .bool b=>some b
 | _=>none
theorem zE0.zHW (h:zE0 P f (.tuple #[]) v'):v'=.tuple #[]:=by
 generalize hv:(Value.tuple #[])=v at h
 cases h with
 | any _=>simp[unk] at hv
 | undef=>rfl
 | base _ _=>rfl
 | tuple ha _ =>
   cases hv;simp at ha;rw[zRR ha.symm]
 | _=>cases hv
theorem xA {ops:Array Oper}{b:Bool}(h:qE P f env a.tmps.toList)(hw:kM ops o env=some b):Region.wanted o (yielded ops a.tmps)=b:=by
 unfold kM at hw;unfold Region.wanted;split at hw
 ·rename_i hg;cases hw;rw[hg]
 ·rename_i j want hg;rw[hg];split at hw
  ·rename_i t ht;split at hw
   ·rename_i v hv;rw[qF] at hv;obtain⟨v',h1,h2⟩:=h.get hv;have h1':a.tmps[t]?=some v':=by simpa using h1
    have hy:yielded ops a.tmps j=zAC v':=by
     unfold yielded;simp only[ht,zO2,h1'];cases v' <;> rfl
    simp only[hy];unfold qTQ at hw;split at hw
    ·cases hw;rw[h2.zG8];rename_i c;cases c <;> cases want <;> rfl
    ·rename_i vs
     cases hve:vs.isEmpty with
     | false=>rw[hve] at hw;cases hw
     | true =>
       rw[hve] at hw;cases hw;have:vs=#[]:=by simpa using hve
       subst this;rw[h2.zHW];rfl
    ·cases hw
   ·cases hw
  ·rename_i ht;cases hw
   have hy:yielded ops a.tmps j=none:=by
    unfold yielded;rw[ht];rfl
   simp[hy]
def Comes (P:Program)(f:Inj)(H:IH)(w:World)(Q:Value×IH->Prop):Ending->World->Prop:=fun e w' =>
 ∃ v' r f',e=.returned v'∧Q r∧Rel P f' r.2 w'∧Grow f H w f' r.2 w'∧zE0 P f' r.1 v'
def kI (P:Program)(G:Nat->Bool)(en:FuncId->List Value->IH->T (Value×IH)):Prop :=
 ∀ (g:FuncId) (args args':List Value) (H:IH) (f:Inj) (w:World) (Q:Value×IH->Prop),Rel P f H w->uX G f->qE P f args args'->(en g args H).holds Q ->
  CallsIn Fence.wide 0 P g args'.toArray w (Comes P f H w Q)
def jA (P:Program)(G:Nat->Bool)(run:Job->IH->T Out):Prop :=
 ∀ (l:Nat) (args args':List Value) (H:IH) (f:Inj) (w:World) (e:Emb) (Q:Value×IH->Prop),Rel P f H w->uX G f->f l=some e->qE P f args args' ->
  ((run (.round l args) H).bind wQ).holds Q ->
  ∃ fn tmps assign body,(Instr.yield e.r args'.toArray).run P w=.ok (.round e.r fn tmps assign body) w∧RoundIn Fence.wide 0 P e.r fn tmps assign body w (Comes P f H w Q)
theorem qDF {s:zE7}(h:iop P o env H=some s):∀ c,o.op≠.defer c:=by
 intro c hc;unfold iop at h;rw[hc] at h;cases h
theorem vY {run:Job->IH->T Out}{Q:Value×IH->Prop}{K:Act->World->Prop}{Qx:Exit->Act->World->Prop}
 (hF:aW F) (hc:kI P G (yK run nat)) (hr:jA P G run) (hR:Rel P f H w) (hG:uX G f) (zE6:qE P f env a.tmps.toList) (hok:o.op.operands.toList.all (kV (zA f))=true)
 (h:(sI P run nat o env H).holds Q)
 (hK:∀ r v' w' f',Q r->Rel P f' r.2 w'->Grow f H w f' r.2 w'->zE0 P f' r.1 v'->K (a.put o.dst v') w'):o.wpIn F 0 P a w K Qx:=by
 have hρ:∀ x∈o.op.operands,zE0 P f (env.val x) (a.eval x):=fun x hx=>nU zE6 (zOJ.1 hok x (zPW.1 hx))
 refine⟨fun g _=>hF.fn g,?_⟩;unfold sI at h
 cases hs:iop P o env H with
 | none=>rw[hs] at h;exact h.elim
 | some s =>
   rw[hs] at h;have hd:=qDF hs
   have zJ3:o.semAt F.round a.eval=execOp a.eval o:=by
    cases F.round with
    | none=>rfl
    | some l=>exact Oper.semAt_some l _ _ hd
   rw[zJ3];have hpost:=q6G hR hs hρ
   have value:∀ v H',sS P f H w v H' ((execOp a.eval o).run P w)->Q (v,H')->o.uponIn F 0 P a K Qx ((execOp a.eval o).run P w):=by
    rintro v H' ⟨nx,v',w',f',h1,h2,h3,h4,h5,h6⟩ hq;rw[h1]
    rcases h2 with rfl | ⟨rfl,rfl⟩
    ·exact hK (v,H') v' w' f' hq h3 h4 h5
    ·exact hK (v,H') undef w' f' hq h3 h4 h5
   cases s with
   | val v H'=>exact value v H' hpost h
   | enter g args H' =>
     obtain⟨rfl,args',ha,hrun⟩:=hpost;rw[hrun];refine⟨(fun zJ4=>absurd zJ4 (by rw[hF.depth];simp)),?_⟩;have:=hc g args args' H' f w Q hR hG ha h;have h2:CallsIn F 0 P g args'.toArray w (Comes P f H' w Q):=hF.calls this;refine CallsIn.mono h2 ?_;rintro e w'' ⟨v',r,f',rfl,hq,h3,h4,h5⟩;exact hK r v' w'' f' hq h3 h4 h5
   | round l args H' =>
     obtain⟨rfl,e,args',he,ha,hrun⟩:=hpost;obtain⟨fn,tmps,assign,body,hy,zF9⟩:=hr l args args' H' f w e Q hR hG he ha h;rw[hrun,hy];refine⟨(fun zJ4=>absurd zJ4 (by rw[hF.depth];simp)),?_⟩;have h2:RoundIn F 0 P e.r fn tmps assign body w (Comes P f H' w Q):=hF.round zF9;refine RoundIn.mono h2 ?_;rintro e w'' ⟨v',r,f',rfl,hq,h3,h4,h5⟩;exact hK r v' w'' f' hq h3 h4 h5
   | choice n k =>
     obtain⟨i,hi,hpi⟩:=hpost;have hq:=h i hi;have hq:(T.ofO (k i)).holds Q:=hq
     cases hk:k i with
     | none=>rw[hk] at hq;exact hq.elim
     | some r=>rw[hk] at hq;exact value r.1 r.2 (hpi r.1 r.2 hk) hq
def Marks (B:Nat)(f:Inj)(w:World):List Deferred->Prop
 | []=>B<=w.heap.size
 | d::ds=>(∃ r,d.target=.collected r∧B<=r∧r < w.heap.size∧w.heap[r]?=some (.deferred (some []))∧(∀ b e,f b=some e->e.r≠r)∧∀ d'∈ds,d'.target≠.collected r)∧Marks B f w ds
theorem Marks.grow {B:Nat}{f f':Inj}{H H':IH}{w w':World}(hg:Grow f H w f' H' w'):∀ (ds:List Deferred),Marks B f w ds->Marks B f' w' ds
 | [],h=>zO7 h hg.size
 | d::ds,⟨⟨r,h1,hB,h2,h3,h4,h5⟩,h6⟩=>by
   obtain⟨_,g2⟩:=hg.keep r h2 (fun ⟨b,e,hb,he,_⟩=>h4 b e hb he);exact⟨⟨r,h1,hB,zOM h2 hg.size,by rw[g2];exact h3,hg.un r h2 h4,h5⟩,Marks.grow hg ds h6⟩
theorem Marks.le {B:Nat}{f:Inj}{w:World}:∀ {ds:List Deferred},Marks B f w ds->B<=w.heap.size
 | [],h=>h
 | _::_,h=>Marks.le h.2
theorem put_defers (a:Act)(d:Option Tmp)(v:Value):(a.put d v).defers=a.defers:=by cases d <;> rfl
theorem qCG {B:Nat}{G:Nat->Bool}{F:Fence}{run:Job->IH->T Out}{ops:Array Oper}(hF:aW F)(hc:kI P G (yK run nat))(hr:jA P G run){Qx:Exit->Act->World->Prop}:∀ (l:List Oper)
 (env:Env) (H:IH) (f:Inj) (a:Act) (w:World) (Q:Env×IH->Prop),Rel P f H w->uX G f->qE P f env a.tmps.toList->Marks B f w a.defers->(∀ o∈l,o.op.operands.toList.all (kV (zA f))=true) ->
 (q8H P run nat ops l env H).holds Q->(∀ r a' w' f',Q r->Rel P f' r.2 w'->Grow f H w f' r.2 w'->qE P f' r.1 a'.tmps.toList->Marks B f' w' a'.defers->Qx .normal a' w') ->
 wpListIn F 0 P ops Qx l a w
 | [],env,H,f,a,w,Q,hR,hG,zE6,hm,_,h,hK=>hK (env,H) a w f h hR (.refl _ _ _) zE6 hm
 | o::l,env,H,f,a,w,Q,hR,hG,zE6,hm,hok,h,hK=>by
   rw[qLA] at h;unfold wpListIn;unfold j6 at h;split at h
   ·rename_i hw;rw[xA zE6 hw,if_pos rfl];rw[T.zFA] at h;refine vY hF hc hr hR hG zE6 (hok o (by simp)) h fun r v' w' f' hq h1 h2 h3=>?_
    refine qCG hF hc hr l (env.zFK o.dst r.1) r.2 f' (a.put o.dst v') w' Q h1 (hG.mono h2.le) (kY (zE6.mono h2.le) h3 _) (by rw[put_defers];exact Marks.grow h2 _ hm)
     (fun o' ho'=>zOJ.2 fun x hx=>jV (zI h2.le) (zOJ.1 (hok o' (by simp[ho'])) x hx)) hq
     fun r' a' w'' f'' hq' g1 g2 g3 g4=>hK r' a' w'' f'' hq' g1 (h2.trans g2) g3 g4
   ·rename_i hw;rw[xA zE6 hw,if_neg (by simp)];exact⟨fun g _=>hF.fn g,qCG hF hc hr l (env.zFK o.dst undef) H f (a.put o.dst undef) w Q hR hG (kY zE6 .undef _) (by rw[put_defers];exact hm) (fun o' ho'=>hok o' (by simp[ho'])) h hK⟩
   ·exact h.elim
end Go.Idl
namespace Go.Idl
variable {P:Program}{good:FuncId->Bool}{nat:xC}{B:Nat}
variable {F:Fence}{H:IH}{Q:Out->Prop}{a:Act}{e:Exit}{env:Env}{f:Inj}{id:Nat}{rd:Bool}{w:World}{x y:Code}
def qKD:zF1->Exit
 | .normal=>.normal
 | .exit id=>.exit id
 | .goto l=>.goto l
 | .ret=>.ret
def jE (P:Program)(B:Nat)(f:Inj)(H:IH)(w:World)(Q:Out->Prop):Exit->Act->World->Prop:=fun e a' w' =>
 ∃ o f',Q o∧e=qKD o.e∧Rel P f' o.H w'∧Grow f H w f' o.H w'∧qE P f' o.env a'.tmps.toList∧Marks B f' w' a'.defers
def xJ (P:Program)(G:Nat->Bool)(run:Job->IH->T Out):Prop :=
 ∀ (B:Nat) (F:Fence) (rd:Bool) (c:Code) (env:Env) (H:IH) (f:Inj) (a:Act) (w:World) (Q:Out->Prop),aW F->zGF rd F w->Rel P f H w->uX G f->codeOk (zA f) rd c=true ->
  qE P f env a.tmps.toList->Marks B f w a.defers->(run (.code c env) H).holds Q->c.wpIn F 0 P (jE P B f H w Q) a w
def qG2 (P:Program)(G:Nat->Bool)(nat:xC)(run:Job->IH->T Out):Prop :=
 ∀ (B:Nat) (F:Fence) (id:Nat) (ops:Array Oper) (env:Env) (H:IH) (f:Inj) (a:Act) (w:World) (r:Env×IH),aW F->Rel P f H w->uX G f->uY (zA f) ops=true->aF ops=true ->
  qE P f env a.tmps.toList->Marks B f w a.defers->qQ9 P run nat ops env H=some r->(Code.region id ops true).wpIn F 0 P (jE P B f H w fun o=>o=⟨.normal,r.1,r.2⟩) a w
theorem jH {f1:Inj}{H1:IH}{w1:World}{Q1:Out->Prop}(hg:Grow f H w f1 H1 w1)(hq:∀ o,Q1 o->Q o){w2:World}(h:jE P B f1 H1 w1 Q1 e a w2):jE P B f H w Q e a w2:=by
 obtain⟨o,f',h1,h2,h3,h4,h5,h6⟩:=h;exact⟨o,f',hq o h1,h2,h3,hg.trans h4,h5,h6⟩
theorem j4 {e:zF1}(hR:Rel P f H w)(zE6:qE P f env a.tmps.toList)(hm:Marks B f w a.defers)(h:(T.ret (⟨e,env,H⟩:Out)).holds Q) :
 jE P B f H w Q (qKD e) a w:=⟨_,f,h,rfl,hR,.refl _ _ _,zE6,hm⟩
section
variable {G:Nat->Bool}{run:Job->IH->T Out}
theorem qX4 (hrun:xJ P G run)(hF:aW F)(hrd:zGF rd F w)(hR:Rel P f H w)(hG:uX G f)
 (hx:codeOk (zA f) rd x=true) (hy:codeOk (zA f) rd y=true) (zE6:qE P f env a.tmps.toList) (hm:Marks B f w a.defers) (h:((run (.code x env) H).bind (qFO run y)).holds Q) :
 (Code.seq x y).wpIn F 0 P (jE P B f H w Q) a w:=by
 rw[T.zFA] at h;refine wpIn_seq (wpIn_mono (hrun B F rd x env H f a w _ hF hrd hR hG hx zE6 hm h) ?_);rintro e a' w' ⟨o,f',hq,rfl,h1,h2,h3,h4⟩;unfold qFO at hq
 cases he:o.e with
 | normal =>
   rw[he] at hq;exact wpIn_mono (hrun B F rd y o.env o.H f' a' w' Q hF (hrd.mono h2.lps) h1 (hG.mono h2.le) (qP (zI h2.le) _ _ hy) h3 h4 hq) fun e a w=>jH h2 fun _ h=>h
 | exit id=>rw[he] at hq;exact⟨o,f',hq,by rw[he],h1,h2,h3,h4⟩
 | goto l=>rw[he] at hq;exact⟨o,f',hq,by rw[he],h1,h2,h3,h4⟩
 | ret=>rw[he] at hq;exact⟨o,f',hq,by rw[he],h1,h2,h3,h4⟩
theorem qNG (hrun:xJ P G run)(hF:aW F)(hrd:zGF rd F w)(hR:Rel P f H w)(hG:uX G f)
 (hx:codeOk (zA f) rd x=true) (zE6:qE P f env a.tmps.toList) (hm:Marks B f w a.defers) (h:((run (.code x env) H).bind (o7 id)).holds Q) :
 (Code.block id x).wpIn F 0 P (jE P B f H w Q) a w:=by
 rw[T.zFA] at h;refine wpIn_block (wpIn_mono (hrun B F rd x env H f a w _ hF hrd hR hG hx zE6 hm h) ?_);rintro e a' w' ⟨o,f',hq,rfl,h1,h2,h3,h4⟩;unfold o7 at hq
 cases he:o.e with
 | normal=>rw[he] at hq;exact⟨o,f',hq,by rw[he],h1,h2,h3,h4⟩
 | exit id' =>
   rw[he] at hq;simp only[qKD,Exit.inBlock];simp only[cond_eq_ite] at hq;by_cases hid:id'=id
   ·rw[if_pos hid];rw[if_pos (by rw[hid];exact zSN id)] at hq;exact⟨⟨.normal,o.env,o.H⟩,f',hq,rfl,h1,h2,h3,h4⟩
   ·rw[if_neg hid];rw[if_neg (fun hb=>hid (zOH hb))] at hq;exact⟨o,f',hq,by rw[he];rfl,h1,h2,h3,h4⟩
 | goto l=>rw[he] at hq;exact⟨o,f',hq,by rw[he],h1,h2,h3,h4⟩
 | ret=>rw[he] at hq;exact⟨o,f',hq,by rw[he],h1,h2,h3,h4⟩
theorem qRY (hrun:xJ P G run){v:Operand}(hF:aW F)(hrd:zGF rd F w)(hR:Rel P f H w)(hG:uX G f)
 (hv:kV (zA f) v=true) (hx:codeOk (zA f) rd x=true) (hy:codeOk (zA f) rd y=true) (zE6:qE P f env a.tmps.toList) (hm:Marks B f w a.defers) (h:(qAC run (env.val v) x y env H).holds Q) :
 (Code.cond v x y).wpIn F 0 P (jE P B f H w Q) a w:=by
 have hev:=nU zE6 hv;unfold qAC at h;split at h
 ·rename_i t ht;rw[ht] at hev;refine wpIn_cond (t:=t) hev.zG8 ?_
  cases t with
  | true=>exact hrun B F rd x env H f a w Q hF hrd hR hG hx zE6 hm h
  | false=>exact hrun B F rd y env H f a w Q hF hrd hR hG hy zE6 hm h
 ·exact h.elim
theorem qIZ (hc:kI P G (yK run nat))(hr:jA P G run)(hd:qG2 P G nat run){ops:Array Oper}{draw:Bool}(hF:aW F)
 (hR:Rel P f H w) (hG:uX G f) (hok:uY (zA f) ops=true) (hdr:(!draw||aF ops)=true) (zE6:qE P f env a.tmps.toList) (hm:Marks B f w a.defers) (h:(bO P run nat ops draw env H).holds Q) :
 (Code.region id ops draw).wpIn F 0 P (jE P B f H w Q) a w:=by
 unfold bO at h
 cases draw with
 | true =>
   simp only[cond_true] at h;unfold qF9 at h;split at h
   ·rename_i zFH H2 hi;refine wpIn_mono (hd B F id ops env H f a w (zFH,H2) hF hR hG hok (by simpa using hdr) zE6 hm hi) fun e a w=>jH (.refl _ _ _) fun o ho=>?_
    subst ho;exact h
   ·exact h.elim
 | false =>
   simp only[cond_false] at h;rw[T.zFA] at h;refine wpIn_region_list (qCG hF hc hr ops.toList env H f a w _ hR hG zE6 hm (fun o ho=>zOJ.1 hok o ho) h ?_);intro r a' w' f' hq h1 h2 h3 h4;exact⟨⟨.normal,r.1,r.2⟩,f',hq,rfl,h1,h2,h3,h4⟩
end
theorem exists_least {p:Nat->Prop}(h:∃ n,p n):∃ n,p n∧∀ m,p m->n<=m:=by
 obtain⟨n,hn⟩:=h
 induction n using Nat.strongRecOn with
 | _ n ih =>
   by_cases hx:∃ m,m < n∧p m
   ·obtain⟨m,hm,hpm⟩:=hx;exact ih m hm hpm
   ·exact⟨n,hn,fun m hpm=>by
     by_cases hmn:n<=m
     ·exact hmn
     ·exact absurd ⟨m,by omega,hpm⟩ hx⟩
open Classical in
noncomputable def least (p:Nat->Prop):Nat:=if h:∃ n,p n then Classical.choose (exists_least h) else 0
theorem bM {p:Nat->Prop}(h:∃ n,p n):p (least p)∧∀ m,p m->least p<=m:=by
 unfold least;rw[dif_pos h];exact Classical.choose_spec (exists_least h)
theorem qJK {H0:IH}{w':World}(h:jE P B f H w (fun p=>∃ o,Q o∧Sub H0 p o) e a w'):jE P B f H w Q e a w':=by
 obtain⟨p,f',⟨o,hq,hs⟩,h1,h2,h3,h4,h5⟩:=h;exact⟨o,f',hq,by rw[hs.e];exact h1,hs.rel _ _ _ h2,h3.sizes (zOI _) hs.size,hs.env _ _ _ h4,h5⟩
theorem qSC {G:Nat->Bool}(hn:wM nat)(hF:aW F)(hrd:zGF rd F w)(n:Nat)(hrun:∀ m,m < n->xJ P G (iex P good nat m))
 (hR:Rel P f H w) (hG:uX G f)
 (hx:codeOk (zA f) rd x=true) (zE6:qE P f env a.tmps.toList) (hm:Marks B f w a.defers) (h:(iex P good nat n (.code (.loop x) env) H).holds Q) :
 (Code.loop x).wpIn F 0 P (jE P B f H w Q) a w:=by
 let J:Act->World->Nat->Prop:=fun a1 w1 m=>m<=n∧∃ zE4 H1 f1 Q1,Rel P f1 H1 w1∧Grow f H w f1 H1 w1∧qE P f1 zE4 a1.tmps.toList∧Marks B f1 w1 a1.defers∧(iex P good nat m (.code (.loop x) zE4) H1).holds Q1 ∧
  ∀ e a2 w2,jE P B f1 H1 w1 Q1 e a2 w2->jE P B f H w Q e a2 w2
 refine wpIn_loop (fun a1 w1=>∃ m,J a1 w1 m) (fun a1 w1=>least (J a1 w1)) ⟨n,zOI _,env,H,f,Q,hR,.refl _ _ _,zE6,hm,h,fun _ _ _ h=>h⟩ ?_;intro a1 w1 hI;obtain⟨⟨hle,zE4,H1,f1,Q1,r1,g1,v1,m1,hh,hq1⟩,hmin⟩:=bM hI;generalize hm0:least (J a1 w1)=m at *
 cases m with
 | zero=>exact hh.elim
 | succ m =>
   have hh':(join H1 ((iex P good nat m (.code x zE4) H1).bind (bZ (iex P good nat m) x))).holds Q1:=hh
   have hext:((iex P good nat m (.code x zE4) H1).bind (bZ (iex P good nat m) x)).all fun o=>Ext H1 o.H:=by
    refine wY (qCV hn m) fun o=>?_
    unfold bZ;split
    ·exact qCV hn m _ _
    ·exact .refl _
   have h2:=qEJ r1.fresh _ hext hh';rw[T.zFA] at h2;refine wpIn_mono (hrun m (by omega) B F rd x zE4 H1 f1 a1 w1 _ hF (hrd.mono g1.lps) r1 (hG.mono g1.le) (qP (zI g1.le) _ _ hx) v1 m1 h2) ?_;rintro e a2 w2 ⟨o,f2,hq,rfl,k1,k2,k3,k4⟩;unfold bZ at hq
   have out:∀ {e:zF1},o.e=e->(T.ret o).holds (fun p=>∃ o,Q1 o∧Sub H1 p o)->jE P B f H w Q (qKD e) a2 w2:=fun {e} he hq=>by
    refine hq1 _ _ _ (qJK (H0:=H1) ⟨o,f2,hq,by rw[he],k1,k2,k3,k4⟩)
   cases he:o.e with
   | normal =>
     rw[he] at hq
     have hJ:J a2 w2 m:=⟨by omega,o.env,o.H,f2,_,k1,g1.trans k2,k3,k4,hq,fun e a3 w3 h3=>hq1 e a3 w3 (jH k2 (fun _ h=>h) (qJK (H0:=H1) h3))⟩
     exact⟨⟨m,hJ⟩,by have:=(bM ⟨m,hJ⟩).2 m hJ;show least (J a2 w2) < _;omega⟩
   | exit id=>rw[he] at hq;exact out he hq
   | goto l=>rw[he] at hq;exact out he hq
   | ret=>rw[he] at hq;exact out he hq
end Go.Idl
namespace Go.Idl
variable {P:Program}{good:FuncId->Bool}{nat:xC}{B:Nat}
variable {H:IH}{env:Env}{f:Inj}{tmps:Array Value}{v:Value}{w:World}
theorem Rel.other {w':World}{r:Nat}(hR:Rel P f H w)(hu:∀ b e,f b=some e->e.r≠r)(hs:w'.heap.size=w.heap.size)(hw:∀ x:Nat,x≠r->w'.heap[x]?=w.heap[x]?):Rel P f H w' :=
 ⟨hR.dom,hR.fresh,fun b e hb=>by rw[hs];exact hR.bound b e hb,fun b e o hb ho=>by rw[hw _ (hu b e hb)];exact hR.obj b e o hb ho,hR.sep,hR.zFM⟩
theorem aM {F:Fence}{fn:Func}{tmps:Array Value}{R:Ending->World->Prop}{f:Inj}{H:IH}:∀ (ds:List Deferred) (w:World),Rel P f H w->Marks B f w ds ->
 (∀ w',Rel P f H w'->(∀ r,(∀ d∈ds,d.target≠.collected r)->w'.heap[r]?=w.heap[r]?)->w'.heap.size=w.heap.size->(w'.os=w.os∧w'.output=w.output∧w'.tape=w.tape)->∃ v,(results fn tmps).run P w'=.ok v w'∧R (.returned v) w') ->
 LeavesInM F 0 P fn tmps R ds .returning w
 | [],w,hR,_,hK=>by
   obtain⟨v,h1,h2⟩:=hK w hR (fun _ _=>rfl) rfl ⟨rfl,rfl,rfl⟩;exact⟨v,h1,h2⟩
 | d::ds,w,hR,⟨⟨r,h1,hB,h2,h3,h4,h5⟩,h6⟩,hK=>by
   have hsame:∀ x:Nat,x≠r->(w.putObj r (.deferred none)).heap[x]?=w.heap[x]?:=fun x hx=>World.putObj_heap_other hx
   have hR':Rel P f H (w.putObj r (.deferred none)):=hR.other h4 (by simp) hsame;refine⟨by simp,.inl ⟨r,w.putObj r (.deferred none),h1,run_takeDeferred h3,aM ds _ hR' ?_ fun w' hR2 hs2 hsz hot=>hK w' hR2 (fun x hx=>?_) (by rw[hsz];simp) hot⟩⟩
   ·have key:∀ (ds:List Deferred),(∀ d'∈ds,d'.target≠.collected r)->Marks B f w ds->Marks B f (w.putObj r (.deferred none)) ds:=by
     intro ds
     induction ds with
     | nil=>intro _ hb;simpa [Marks] using hb
     | cons d ds ih =>
       rintro hn ⟨⟨x,g1,gB,g2,g3,g4,g5⟩,g6⟩;have hxr:x≠r:=fun hx=>hn d (by simp) (by rw[g1,hx])
       exact⟨⟨x,g1,gB,by simpa using g2,by rw[hsame x hxr];exact g3,g4,g5⟩,ih (fun d' hd'=>hn d' (by simp[hd'])) g6⟩
    exact key ds h5 h6
   ·rw[hs2 x (fun d' hd'=>hx d' (by simp[hd'])),hsame x (fun hxr=>hx d (by simp) (by rw[h1,hxr]))]
structure Reads (g:ResultVar->Sem Value) (tmps:Array Value):Prop where
 tmp:∀ t,g (.tmp t)=pure (tmps.getD t undef)
 cell:∀ a t,g (.cell a t)=(asAddr (tmps.getD a undef)).bind (loadVar t)
theorem qNC {g:ResultVar->Sem Value}{rv:ResultVar}(hg:Reads g tmps)(zE6:qE P f env tmps.toList)(h:qZV P env H rv=some v) :
 ∀ w,Rel P f H w->∃ v',(g rv).run P w=.ok v' w∧zE0 P f v v':=by
 intro w hR;have hget:∀ t,zE0 P f ((zL env t).getD undef) (tmps.getD t undef):=fun t=>qWK (a:={ tmps:=tmps,defers:=[] }) zE6 t
 cases rv with
 | tmp t =>
   simp only[qZV,zOP] at h;subst h;exact⟨_,by rw[hg.tmp];simp,hget t⟩
 | cell a t =>
   have h0:uN P t ((zL env a).getD undef) H=some v:=h;obtain⟨v',h1,h2⟩:=qDN hR h0 (hget a)
   have hp:∃ x,tmps.getD a undef=.pointer (some x):=by
    have hg:=hget a;unfold uN at h0;split at h0
    ·rename_i b i he;rw[he] at hg;obtain⟨e,_,hv⟩:=hg.zFW;exact⟨_,hv⟩
    ·cases h0
   obtain⟨x,hx⟩:=hp;refine⟨v',?_,h2⟩;rw[hg.cell,hx];rw[hx] at h1;exact h1
theorem qAQ {g:ResultVar->Sem Value}{f:Inj}{H:IH}{env:Env}{tmps:Array Value}(hg:Reads g tmps)(zE6:qE P f env tmps.toList){w:World}(hR:Rel P f H w):∀ (l:List ResultVar) (vs:List Value),qM4 P env H l=some vs ->
 ∃ vs',(l.mapM g).run P w=.ok vs' w∧qE P f vs vs'
 | [],vs,h=>by
   simp only[qM4,zOP] at h;subst h;exact⟨[],by simp,.nil⟩
 | rv::l,vs,h=>by
   unfold qM4 at h;split at h
   ·rename_i v hv;split at h
    ·rename_i us hus;cases h;obtain⟨v',h1,h2⟩:=qNC hg zE6 hv w hR;obtain⟨us',h3,h4⟩:=qAQ hg zE6 hR l us hus;refine⟨v'::us',?_,.cons h2 h4⟩;rw[zSW];simp only[Sem.run_bind,h1,Result.andThen_ok,h3,Sem.run_pure]
    ·cases h
   ·cases h
theorem q6J {vs vs':List Value}(h:qE P f vs vs'):zE0 P f (one vs) (one vs'):=by
 cases vs with
 | nil=>rw[h.zE5];exact .undef
 | cons v vs =>
   obtain⟨v',t',rfl,hv,ht⟩:=h.zE2
   cases vs with
   | nil=>rw[ht.zE5];exact hv
   | cons u vs =>
     obtain⟨u',t2,rfl,hu,ht2⟩:=ht.zE2;exact .zGB (.cons hv (.cons hu ht2))
theorem q87 (vs:List Value):(if h:vs.toArray.size=1 then vs.toArray[0] else Value.tuple vs.toArray)=one vs:=by
 cases vs with
 | nil=>rfl
 | cons v vs =>
   cases vs with
   | nil=>rfl
   | cons u vs=>rw[dif_neg (by simp)];rfl
theorem nO {fn:Func}(zE6:qE P f env tmps.toList)(hR:Rel P f H w)(h:jX P fn env H=some v) :
 ∃ v',(results fn tmps).run P w=.ok v' w∧zE0 P f v v':=by
 unfold jX at h;obtain⟨vs,h1,rfl⟩:=zOR.1 h
 have key:∀ g:ResultVar->Sem Value,Reads g tmps->∃ v',(do let vs <- fn.results.mapM g;pure (if h:vs.size=1 then vs[0] else .tuple vs):Sem Value).run P w=.ok v' w∧zE0 P f (one vs) v':=by
  intro g hg;obtain⟨vs',h2,h3⟩:=qAQ hg zE6 hR _ _ h1;refine⟨one vs',?_,q6J h3⟩;rw[Array.mapM_eq_mapM_toList];simp only[Sem.run_bind,Sem.run_map,h2,Result.andThen_ok,Sem.run_pure];rw[q87]
 exact key _ ⟨fun _=>rfl,fun _ _=>rfl⟩
def qY4 (P:Program)(good:FuncId->Bool)(G:Nat->Bool):Prop:=∀ f fn c,good f=true->P.funcs[f]?=some fn->fn.body=some c->codeOk G false c=true
theorem oN:∀ {B:Nat} {f:Inj} {w:World} (ds:List Deferred),Marks B f w ds->∀ r,r < B->∀ d∈ds,d.target≠.collected r
 | _,_,_,[],_,_,_,d,hd=>by cases hd
 | B,f,w,d::ds,⟨⟨x,g1,gB,_⟩,g6⟩,r,hr,d',hd'=>by
   rcases zO1.1 hd' with rfl | hd'
   ·rw[g1];intro hx;cases hx;omega
   ·exact oN ds g6 r hr d' hd'
theorem qRZ {G:Nat->Bool}(hn:wM nat)(hgood:qY4 P good G)(n:Nat)(hrun:xJ P G (iex P good nat n))(g:FuncId)(args args':List Value)(H:IH)(f:Inj)(w:World)(Q:Value×IH->Prop)
 (hR:Rel P f H w) (hG:uX G f) (ha:qE P f args args') (h:((nK P good (iex P good nat n) g args H).bind wQ).holds Q):CallsIn Fence.wide 0 P g args'.toArray w (Comes P f H w Q):=by
 unfold nK at h;split at h
 ·rename_i fn hfn;split at h
  ·rename_i c hb
   cases hgd:good g with
   | false=>rw[hgd] at h;exact h.elim
   | true =>
     rw[hgd] at h;simp only[cond_true] at h;rw[T.zFA] at h
     have hext:((iex P good nat n (.code c (qDO args (List.replicate (fn.ntmps - args.length) undef))) H).bind (qA1 P fn)).all fun o=>Ext H o.H:=by
      refine wY (qCV hn n) fun o=>?_
      unfold qA1;split
      ·split
       ·exact .refl _
       ·exact trivial
      ·split
       ·exact .refl _
       ·exact trivial
      ·exact trivial
     have h2:=qEJ hR.fresh _ hext h;rw[T.zFA,aI] at h2;have hcode:codeOk (zA f) false c=true:=qP hG _ _ (hgood g fn c hgd hfn hb)
     have zE6:qE P f (args++List.replicate (fn.ntmps - args.length) undef) (args'.toArray++Array.replicate (fn.ntmps - args'.toArray.size) undef).toList:=by
      have e1:(args'.toArray++Array.replicate (fn.ntmps - args'.toArray.size) undef).toList=args'++List.replicate (fn.ntmps - args.length) undef:=by simp[ha.1]
      rw[e1];refine ha.append ?_
      have key:∀ n,qE P f (List.replicate n undef) (List.replicate n undef):=by
       intro n
       induction n with
       | zero=>exact .nil
       | succ n ih=>exact .cons .undef ih
      exact key _
     refine callsIn_of_wp_marks hfn hb trivial (wpIn_mono (hrun w.heap.size Fence.wide false c _ H f _ w _ qKL (.none rfl) hR hG hcode zE6 (zOI _) h2) ?_);rintro e a' w' ⟨o,f',hq,rfl,k1,k2,k3,k4⟩
     -- what the function hands back
     have done:∀ v,jX P fn o.env o.H=some v->(T.ret (⟨.normal,[v],o.H⟩:Out)).holds (fun p=>∃ o',(wQ o').holds Q∧Sub H p o') ->
      LeavesInM Fence.wide 0 P fn a'.tmps (Comes P f H w Q) a'.defers .returning w':=by
      rintro v hv ⟨o',hq',hs⟩;refine aM a'.defers w' k1 k4 fun w2 hR2 hsame hsz hot=>?_
      obtain⟨v',h3,h4⟩:=nO (fn:=fn) k3 hR2 hv;refine⟨v',h3,?_⟩;have zJN:=hs.env P f' [v'] (.cons h4 .nil);unfold wQ at hq';split at hq'
      ·rename_i u hu;rw[hu] at zJN;obtain⟨u',t',he,hu',_⟩:=zJN.zE2;cases he;refine⟨v',(u,o'.H),f',rfl,hq',hs.rel _ _ _ hR2,⟨zO7 k2.zFX hs.size,k2.stay,k2.le,by rw[hsz];exact k2.size,fun r hr ho=>?_,k2.un,⟨hot.1.trans k2.out.1,hot.2.1.trans k2.out.2.1,hot.2.2.trans k2.out.2.2⟩,fun r h=>⟨(k2.lps r h).choose,(hsame r (fun d hd=>oN _ k4 r h.lt d hd)).trans (k2.lps r h).choose_spec⟩⟩,hu'⟩;obtain⟨q1,q2⟩:=k2.keep r hr ho;exact⟨q1,by rw[hsame r (fun d hd=>oN _ k4 r hr d hd)];exact q2⟩
      ·exact hq'.elim
     unfold qA1 at hq
     cases he:o.e with
     | normal =>
       rw[he] at hq;simp only at hq;split at hq
       ·rename_i v hv;exact done v hv hq
       ·exact hq.elim
     | ret =>
       rw[he] at hq;simp only at hq;split at hq
       ·rename_i v hv;exact done v hv hq
       ·exact hq.elim
     | exit id=>rw[he] at hq;exact hq.elim
     | goto l=>rw[he] at hq;exact hq.elim
  ·exact h.elim
 ·exact h.elim
end Go.Idl
namespace Go.Idl
variable {P:Program}{good:FuncId->Bool}{nat:xC}{B:Nat}
variable {H:IH}{f:Inj}{l:Nat}{w:World}
theorem q6T {r:Nat}{o:Obj}(h:r < w.heap.size)(x:Nat):(w.putObj r o).heap[x]?=if x=r then some o else w.heap[x]?:=heap_put h
theorem vW {e:Emb}{lp:Loop}(hR:Rel P f H w)(he:f l=some e)(hg:H.get l=some (.loop lp)) :
 e.ro=false∧∃ lp',w.heap[e.r]?=some (.loop lp')∧lp'.state=lp.state∧lp'.pending=lp.pending∧lp'.params=lp.params∧lp'.assign=lp.assign∧lp'.body=lp.body ∧
  qE P f lp.tmps.toList lp'.tmps.toList∧codeOk (zA f) true lp.assign=true∧codeOk (zA f) true lp.body=true∧(∀ c,lp.pending=some c->qK9 c=true)∧e.shift=0:=hR.obj l e _ he hg
theorem bS {e:Emb}{lp lp':Loop}(st:LoopState)(pd:Option Code)(hpd:∀ c,pd=some c->qK9 c=true)(hR:Rel P f H w)(he:f l=some e)(hg:H.get l=some (.loop lp))
 (h0:w.heap[e.r]?=some (.loop lp')) :
 Rel P f (H.put l (.loop { lp with state:=st,pending:=pd })) (w.putObj e.r (.loop { lp' with state:=st,pending:=pd }))∧Grow f H w f (H.put l (.loop { lp with state:=st,pending:=pd })) (w.putObj e.r (.loop { lp' with state:=st,pending:=pd })):=by
 obtain⟨hro,lp2,h1,g1,g2,g3,g4,g5,g6,g7,g8,g9,g10⟩:=vW hR he hg;rw[h0] at h1;cases h1
 obtain⟨r1,r2,_⟩:=Rel.put (o1:=.loop { lp with state:=st,pending:=pd }) (o1':=.loop { lp' with state:=st,pending:=pd }) (w':=w.putObj e.r (.loop { lp' with state:=st,pending:=pd })) hR he hg rfl hro
  ⟨hro,_,rfl,rfl,rfl,g3,g4,g5,g6,g7,g8,hpd,g10⟩ (q6T (hR.bound l e he)) (by simp)
 exact⟨r1,r2⟩
theorem qFP {f:Inj}:∀ (ps:List Tmp) (args args':List Value) (t t':List Value),qE P f args args'->qE P f t t' ->
 qE P f ((ps.zip args).foldl (fun e p=>yR e p.1 p.2) t) ((ps.zip args').foldl (fun e p=>e.set p.1 p.2) t')
 | [],args,args',t,t',_,ht=>by simpa using ht
 | p::ps,[],args',t,t',ha,ht=>by rw[ha.zE5];simpa using ht
 | p::ps,a::args,args',t,t',ha,ht=>by
   obtain⟨a',r',rfl,hv,hr⟩:=ha.zE2;simp only[List.zip_cons_cons,zQA];exact qFP ps args r' _ _ hr (by rw[qX];exact ht.set hv p)
theorem qGD:∀ (l:List (Tmp×Value)) (t:Array Value),(l.foldl (fun tmps (p:Tmp×Value)=>tmps.setIfInBounds p.1 p.2) t).toList=l.foldl (fun e p=>e.set p.1 p.2) t.toList
 | [],t=>rfl
 | p::l,t=>by
   simp only[zQA];rw[qGD l,zRE]
theorem qMM {G:Nat->Bool}(n:Nat)(hrun:xJ P G (iex P good nat n))(l:Nat)(args args':List Value)(H:IH)(f:Inj)(w:World)(e:Emb)(Q:Value×IH->Prop)
 (hR:Rel P f H w) (hG:uX G f) (he:f l=some e) (ha:qE P f args args') (h:((aY (iex P good nat n) l args H).bind wQ).holds Q) :
 ∃ fn tmps assign body,(Instr.yield e.r args'.toArray).run P w=.ok (.round e.r fn tmps assign body) w∧RoundIn Fence.wide 0 P e.r fn tmps assign body w (Comes P f H w Q):=by
 unfold aY at h;split at h
 ·rename_i lp hg;split at h
  ·rename_i hc;simp only[zOG,beq_iff_eq,decide_eq_true_eq] at hc;obtain⟨hst,hbase,hlen⟩:=hc;have hlen:args.length=lp.params.size:=zOH hlen;obtain⟨hro,lp',h1,g1,g2,g3,g4,g5,g6,g7,g8,g9,g10⟩:=vW hR he hg;refine⟨lp'.fn,_,lp'.assign,lp'.body,run_yield h1 (by rw[g3,<-hlen,ha.1];simp),?_⟩;rw[T.zFA,T.zFA] at h
   have zE6:qE P f ((lp.params.toList.zip args).foldl (fun e p=>yR e p.1 p.2) lp.tmps.toList) ((lp'.params.zip args'.toArray).foldl (fun tmps (t,a)=>tmps.setIfInBounds t a) lp'.tmps).toList:=by
    rw[<-zQW,Array.toList_zip];have:=qGD (lp'.params.toList.zip args') lp'.tmps;simp only[] at this ⊢;rw[this,g3];exact qFP lp.params.toList args args' _ _ ha g6
   refine roundIn_of_wpIn (F:=Fence.wide) trivial ?_;rw[g4,g5];refine wpIn_mono (hrun w.heap.size (Fence.wide.inRound e.r) true lp.assign _ H f _ w _ (dD _) ⟨rfl,fun l h=>by have:=zPC h;subst this;exact⟨_,h1⟩⟩ hR hG g7 zE6 (zOI _) h) ?_;rintro ex a1 w1 ⟨o,f1,hq,rfl,k1,k2,k3,k4⟩;unfold qCD at hq
   cases heo:o.e with
   | normal =>
     rw[heo] at hq;simp only at hq;split at hq
     ·rename_i lp1 hg1;split at hq
      ·rename_i zI7;simp only[beq_iff_eq] at zI7;have he1:=k2.le _ _ he;obtain⟨_,zIC,q1,q2,q3,q4,q5,q6,q7,q8,q9,q10,q11⟩:=vW k1 he1 hg1;refine⟨_,run_beginRound q1 (by rw[q2,zI7]),?_⟩;obtain⟨p1,p2⟩:=bS .busy lp1.pending q10 k1 he1 hg1 q1;rw[T.zFA] at hq;have e1:({ zIC with state:=.busy,pending:=lp1.pending }:Loop)={ zIC with state:=.busy }:=by rw[<-q3]
       have e2:({ lp1 with state:=.busy,pending:=lp1.pending }:Loop)={ lp1 with state:=.busy }:=rfl;rw[e1,e2] at p1;rw[e1] at p2;have hG1:=hG.mono k2.le;refine wpIn_mono (hrun w.heap.size (Fence.wide.inRound e.r) true lp.body _ _ f1 a1 _ _ (dD _) ⟨rfl,fun l h=>by have:=zPC h;subst this;exact p2.lps _ ⟨_,q1⟩⟩ p1 hG1 (qP (zI k2.le) _ _ g8) k3 (Marks.grow p2 _ k4) hq) ?_;rintro ex2 a2 w2 ⟨s,f2,hs,rfl,s1,s2,s3,s4⟩;unfold roundEnd at hs;split at hs
       ·rename_i lp2 hg2;have he2:=s2.le _ _ he1;obtain⟨_,zL8,t1,t2,t3,t4,t5,t6,t7,t8,t9,t10,t11⟩:=vW s1 he2 hg2
        have zID:∀ c,yX s.e=some c->qK9 c=true:=by
         intro c hc;cases hse:s.e <;> rw[hse] at hc <;> simp[yX] at hc <;> subst hc <;> rfl
        obtain⟨u1,u2⟩:=bS (if (yX s.e).isNone then .ready else .done) (yX s.e) zID s1 he2 hg2 t1
        have fin:∃ v w',(Instr.endRound e.r (yX s.e)).run P w2=.ok v w'∧Comes P f H w Q (.returned v) w' :=
         ⟨_,_,run_endRound (yX s.e) t1,⟨_,_,f2,rfl,hs,u1,((k2.trans p2).trans s2).trans u2,.base _ rfl⟩⟩
        cases hse:s.e with
        | normal=>rw[hse] at fin;exact fin
        | ret=>rw[hse] at fin;exact fin
        | exit id=>rw[hse] at fin;exact fin
        | goto t=>rw[hse] at fin;exact fin
       ·exact hs.elim
      ·exact hq.elim
     ·exact hq.elim
   | exit id=>rw[heo] at hq;exact hq.elim
   | goto t=>rw[heo] at hq;exact hq.elim
   | ret=>rw[heo] at hq;exact hq.elim
  ·exact h.elim
 ·exact h.elim
end Go.Idl
namespace Go.Idl
variable {P:Program}{good:FuncId->Bool}{nat:xC}{B:Nat}
variable {F:Fence}{G:Nat->Bool}{H:IH}{Q:Out->Prop}{a:Act}{env:Env}{f:Inj}{ps:Array Tmp}{v:Operand}{w:World}{x y:Code}
theorem Rel.beside (o:Obj)(hR:Rel P f H w):Rel P f H (w.alloc o)∧Grow f H w f H (w.alloc o)∧∀ b e,f b=some e->e.r≠w.heap.size:=by
 have hne:∀ b e,f b=some e->e.r≠w.heap.size:=fun b e hb=>by have:=hR.bound b e hb;omega
 refine⟨⟨hR.dom,hR.fresh,fun b e hb=>?_,fun b e ob hb ho=>?_,hR.sep,hR.zFM⟩,⟨zOI _,fun _ _ h=>h,f.le_refl,by simp,fun r hr ho=>⟨ho,?_⟩,fun _ _ h=>h,⟨rfl,rfl,rfl⟩,fun r h=>h.alloc _⟩,hne⟩
 ·have:=hR.bound b e hb;simp;omega
 ·rw[heap_alloc,if_neg (hne b e hb)];exact hR.obj b e ob hb ho
 ·rw[heap_alloc,if_neg (by omega)]
theorem qCO {g:FuncId}(h:entered P g=true):∃ fn,P.funcs[g]?=some fn∧fn.body.isSome=true∧(fn.name != "runtime.NumGoroutine")=true:=by
 unfold entered at h;split at h
 ·rename_i fn hf;simp only[zOG] at h;exact⟨fn,hf,h.1,h.2⟩
 ·cases h
theorem sZ {l₀:Nat}{r₀:Loop}(h:w.heap[l₀]?=some (.loop r₀))(fn:FuncId)(tmps:Array Value)(ps:Array Tmp)(assign body:Code) :
 (Instr.enterLoop fn tmps ps assign body (some l₀)).run P w=.ok (w.heap.size,[]) (w.alloc (.loop { state:=.ready,pending:=none,fn,tmps,params:=ps,assign,body,defers:=r₀.defers })):=by
 unfold Instr.enterLoop;simp only[Sem.run_bind,run_getLoop h,run_newObj_alloc,Result.andThen,Sem.run_pure]
theorem qIC {run:Job->IH->T Out}(hc:kI P G (yK run nat))(hrun:xJ P G run)
 (hF:aW F) (hrd:F.round=none) (hR:Rel P f H w) (hG:uX G f) (hv:kV (zA f) v=true) (hx:codeOk (zA f) true x=true) (hy:codeOk (zA f) true y=true)
 (zE6:qE P f env a.tmps.toList) (hm:Marks B f w a.defers) (h:(jC P run nat (env.val v) ps x y env H).holds Q) :
 (Code.rangeFunc v ps x y).wpIn F 0 P (jE P B f H w Q) a w:=by
 have hev:=nU zE6 hv;unfold jC at h;split at h
 ·rename_i g first captured hg
  rw[hg] at hev
  cases hent:entered P g with
  | false=>rw[hent] at h;exact h.elim
  | true =>
    rw[hent] at h;simp only[cond_true] at h;obtain⟨fn,hfn,hbody,hname⟩:=qCO hent
    rcases hev.zF5 with ⟨g',a',c',hg',zJ5,h1,h2⟩ | ⟨l,e,hg',_⟩
    ·cases hg';refine wpIn_rangeFunc fun zHK _=>?_
     have zF9:F.round=none:=hrd;obtain⟨b1,b2,b3⟩:=hR.beside (.deferred (some []));have hnone:f H.size=none:=oI hR
     let e0:Emb:=⟨w.heap.size+1,0,0,false⟩
     have hle:f.le (f.add H.size e0):=Inj.zF6 hnone
     have hO:qC1 P (f.add H.size e0) e0 (.loop { state:=.ready,pending:=none,fn:=0,tmps:=env.toArray,params:=ps,assign:=x,body:=y,defers:=0 })
      (some (.loop { state:=.ready,pending:=none,fn:=zHK,tmps:=a.tmps,params:=ps,assign:=x,body:=y,defers:=w.heap.size })) :=
      ⟨rfl,_,rfl,rfl,rfl,rfl,rfl,rfl,by simpa using zE6.mono hle,qP (zI hle) _ _ hx,qP (zI hle) _ _ hy,(fun c hc=>by cases hc),rfl⟩
     obtain⟨p1,p2⟩:=Rel.push (e:=e0) b1 (by simp[e0]) hO
     let w1:World:=(w.alloc (.deferred (some []))).alloc (.loop { state:=.ready,pending:=none,fn:=zHK,tmps:=a.tmps,params:=ps,assign:=x,body:=y,defers:=w.heap.size })
     refine⟨w.heap.size+1,[{ target:=.collected w.heap.size,args:=#[] }],w1,{ target:=.fn (.func g) c',args:=a'++#[.func (.yield (w.heap.size+1)) #[] #[]] },w1,g,a'++#[.func (.yield (w.heap.size+1)) #[] #[]]++c',w1,
      by rw[zF9];exact run_enterLoop_outer zHK a.tmps ps x y,?_,fun f' _=>hF.fn f',?_,fun hd=>absurd hd (by rw[hF.depth];simp),?_⟩
     ·simp only[resolve];rw[zJ5];simp[Deferred.ofValue,Act.eval]
     ·simp only[invoke];exact run_callFunc_enter hfn hbody hname
     ·have hall:qE P (f.add H.size e0) (qDO first.toList (Value.func (Fn.yield H.size) #[] #[]::captured.toList)) (a'.toList++(Value.func (Fn.yield (w.heap.size+1)) #[] #[]::c'.toList)):=by
       rw[aI];refine (h1.mono hle).append (.cons ?_ (h2.mono hle));have:=zE0.yield (P:=P) (Inj.add_same (f:=f) (b:=H.size) (e:=e0));exact this
      rw[T.zFA] at h;have hcall:=hc g _ _ _ _ w1 _ p1 (hG.mono hle) hall h;have harr:(a'.toList++(Value.func (Fn.yield (w.heap.size+1)) #[] #[]::c'.toList)).toArray=a'++#[.func (.yield (w.heap.size+1)) #[] #[]]++c':=by apply zP5;simp
      rw[harr] at hcall;have hg1:Grow f H w (f.add H.size e0) _ w1:=b2.trans p2
      have hmark:Marks B (f.add H.size e0) w1 ([{ target:=.collected w.heap.size,args:=#[] }]++a.defers):=by
       refine⟨⟨w.heap.size,rfl,Marks.le hm,by simp[w1];omega,?_,?_,?_⟩,Marks.grow hg1 _ hm⟩
       ·show w1.heap[w.heap.size]?=_;rw[heap_alloc,if_neg (by simp),heap_alloc,if_pos rfl]
       ·intro b e hb;by_cases hbs:b=H.size
        ·subst hbs;rw[Inj.add_same] at hb;cases hb;simp[e0]
        ·rw[Inj.zE1 hbs] at hb;exact b3 b e hb
       ·have key:∀ (ds:List Deferred),Marks B f w ds->∀ d'∈ds,d'.target≠.collected w.heap.size:=by
         intro ds
         induction ds with
         | nil=>intro _ d' hd';cases hd'
         | cons d ds ih =>
           rintro⟨⟨r,q1,_,q2,_⟩,q3⟩ d' hd';rcases zO1.1 hd' with rfl | hd'
           ·rw[q1];intro hx;cases hx;omega
           ·exact ih q3 d' hd'
        exact key _ hm
      refine CallsIn.mono (hF.calls hcall) ?_;rintro e w3 ⟨v',r,f3,rfl,hq,k1,k2,k3⟩;unfold kQ at hq;split at hq
      ·rename_i lp hgl;split at hq
       ·exact hq.elim
       ·rename_i zIE;have he3:f3 H.size=some e0:=k2.le _ _ Inj.add_same;obtain⟨_,lp',t1,t2,t3,t4,t5,t6,t7,t8,t9,t10,t11⟩:=vW k1 he3 hgl;obtain⟨u1,u2⟩:=bS .exhausted lp.pending t10 k1 he3 hgl t1;have hend:=run_endLoop (P:=P) t1 (by rw[t2];simpa using zIE);have hg3:Grow f H w f3 _ _:=(hg1.trans k2).trans u2;have e1:({ lp' with state:=.exhausted,pending:=lp.pending }:Loop)={ lp' with state:=.exhausted }:=by rw[<-t3]
        rw[e1] at u1 u2 hg3
        have hend':(Instr.endLoop (w.heap.size+1)).run P w3=.ok lp.pending (w3.putObj (w.heap.size+1) (.loop { lp' with state:=.exhausted })):=by
         have:=hend;rw[show (Instr.endLoop (w.heap.size+1))=Instr.endLoop e0.r from rfl,this,t3]
        refine⟨lp.pending,_,hend',?_⟩;split at hq
        ·rename_i hp;rw[hp];have e2:({ lp with state:=.exhausted,pending:=lp.pending }:Loop)={ lp with state:=.exhausted }:=rfl;rw[e2] at u1;exact⟨⟨.normal,env,_⟩,f3,hq,rfl,u1,hg3,zE6.mono hg3.le,Marks.grow (k2.trans u2) _ hmark⟩
        ·rename_i c hp;rw[hp];have hj:=t10 c hp
         have hok:codeOk (zA f3) F.round.isSome c=true:=by cases c <;> first | rfl | cases hj
         exact wpIn_mono (hrun B F _ c env _ f3 _ _ Q hF ⟨rfl,fun l h=>by rw[zF9] at h;cases h⟩ u1 (hG.mono hg3.le) hok (zE6.mono hg3.le) (Marks.grow (k2.trans u2) _ hmark) hq) fun e a w=>jH hg3 fun _ h=>h
      ·exact hq.elim
    ·cases hg'
 ·exact h.elim
theorem qLC {run:Job->IH->T Out}(hc:kI P G (yK run nat))(hrun:xJ P G run){l0:Nat}{r0:Loop}
 (hF:aW F) (hrd:F.round=some l0) (hR:Rel P f H w) (hG:uX G f) (hv:kV (zA f) v=true) (hx:codeOk (zA f) true x=true) (hy:codeOk (zA f) true y=true)
 (zE6:qE P f env a.tmps.toList) (hm:Marks B f w a.defers) (hl0:w.heap[l0]?=some (.loop r0)) (h:(jC P run nat (env.val v) ps x y env H).holds Q) :
 (Code.rangeFunc v ps x y).wpIn F 0 P (jE P B f H w Q) a w:=by
 have hev:=nU zE6 hv;unfold jC at h;split at h
 ·rename_i g first captured hg
  rw[hg] at hev
  cases hent:entered P g with
  | false=>rw[hent] at h;exact h.elim
  | true =>
    rw[hent] at h;simp only[cond_true] at h;obtain⟨fn,hfn,hbody,hname⟩:=qCO hent
    rcases hev.zF5 with ⟨g',a',c',hg',zJ5,h1,h2⟩ | ⟨l,e,hg',_⟩
    ·cases hg';refine wpIn_rangeFunc fun zHK _=>?_
     have zF9:F.round=some l0:=hrd;have hnone:f H.size=none:=oI hR
     let e0:Emb:=⟨w.heap.size,0,0,false⟩
     have hle:f.le (f.add H.size e0):=Inj.zF6 hnone
     have hO:qC1 P (f.add H.size e0) e0 (.loop { state:=.ready,pending:=none,fn:=0,tmps:=env.toArray,params:=ps,assign:=x,body:=y,defers:=0 })
      (some (.loop { state:=.ready,pending:=none,fn:=zHK,tmps:=a.tmps,params:=ps,assign:=x,body:=y,defers:=r0.defers })) :=
      ⟨rfl,_,rfl,rfl,rfl,rfl,rfl,rfl,by simpa using zE6.mono hle,qP (zI hle) _ _ hx,qP (zI hle) _ _ hy,(fun c hc=>by cases hc),rfl⟩
     obtain⟨p1,p2⟩:=Rel.push (e:=e0) hR (by simp[e0]) hO
     let w1:World:=w.alloc (.loop { state:=.ready,pending:=none,fn:=zHK,tmps:=a.tmps,params:=ps,assign:=x,body:=y,defers:=r0.defers })
     refine⟨w.heap.size,[],w1,{ target:=.fn (.func g) c',args:=a'++#[.func (.yield w.heap.size) #[] #[]] },w1,g,a'++#[.func (.yield w.heap.size) #[] #[]]++c',w1,
      by rw[zF9];exact sZ hl0 zHK a.tmps ps x y,?_,fun f' _=>hF.fn f',?_,fun hd=>absurd hd (by rw[hF.depth];simp),?_⟩
     ·simp only[resolve];rw[zJ5];simp[Deferred.ofValue,Act.eval]
     ·simp only[invoke];exact run_callFunc_enter hfn hbody hname
     ·have hall:qE P (f.add H.size e0) (qDO first.toList (Value.func (Fn.yield H.size) #[] #[]::captured.toList)) (a'.toList++(Value.func (Fn.yield w.heap.size) #[] #[]::c'.toList)):=by
       rw[aI];refine (h1.mono hle).append (.cons ?_ (h2.mono hle));have:=zE0.yield (P:=P) (Inj.add_same (f:=f) (b:=H.size) (e:=e0));exact this
      rw[T.zFA] at h;have hcall:=hc g _ _ _ _ w1 _ p1 (hG.mono hle) hall h;have harr:(a'.toList++(Value.func (Fn.yield w.heap.size) #[] #[]::c'.toList)).toArray=a'++#[.func (.yield w.heap.size) #[] #[]]++c':=by apply zP5;simp
      rw[harr] at hcall;have hg1:Grow f H w (f.add H.size e0) _ w1:=p2;have hmark:Marks B (f.add H.size e0) w1 ([]++a.defers):=Marks.grow hg1 _ hm;refine CallsIn.mono (hF.calls hcall) ?_;rintro e w3 ⟨v',r,f3,rfl,hq,k1,k2,k3⟩;unfold kQ at hq;split at hq
      ·rename_i lp hgl;split at hq
       ·exact hq.elim
       ·rename_i zIE;have he3:f3 H.size=some e0:=k2.le _ _ Inj.add_same;obtain⟨_,lp',t1,t2,t3,t4,t5,t6,t7,t8,t9,t10,t11⟩:=vW k1 he3 hgl;obtain⟨u1,u2⟩:=bS .exhausted lp.pending t10 k1 he3 hgl t1;have hend:=run_endLoop (P:=P) t1 (by rw[t2];simpa using zIE);have hg3:Grow f H w f3 _ _:=(hg1.trans k2).trans u2;have e1:({ lp' with state:=.exhausted,pending:=lp.pending }:Loop)={ lp' with state:=.exhausted }:=by rw[<-t3]
        rw[e1] at u1 u2 hg3
        have hend':(Instr.endLoop w.heap.size).run P w3=.ok lp.pending (w3.putObj w.heap.size (.loop { lp' with state:=.exhausted })):=by
         have:=hend;rw[show (Instr.endLoop w.heap.size)=Instr.endLoop e0.r from rfl,this,t3]
        refine⟨lp.pending,_,hend',?_⟩;split at hq
        ·rename_i hp;rw[hp];have e2:({ lp with state:=.exhausted,pending:=lp.pending }:Loop)={ lp with state:=.exhausted }:=rfl;rw[e2] at u1;exact⟨⟨.normal,env,_⟩,f3,hq,rfl,u1,hg3,zE6.mono hg3.le,Marks.grow (k2.trans u2) _ hmark⟩
        ·rename_i c hp;rw[hp];have hj:=t10 c hp
         have hok:codeOk (zA f3) F.round.isSome c=true:=by cases c <;> first | rfl | cases hj
         exact wpIn_mono (hrun B F _ c env _ f3 _ _ Q hF ⟨rfl,fun l h=>by rw[zF9] at h;cases h;exact hg3.lps _ ⟨_,hl0⟩⟩ u1 (hG.mono hg3.le) hok (zE6.mono hg3.le) (Marks.grow (k2.trans u2) _ hmark) hq) fun e a w=>jH hg3 fun _ h=>h
      ·exact hq.elim
    ·cases hg'
 ·exact h.elim
theorem qBR {run:Job->IH->T Out}(hc:kI P G (yK run nat))(hrun:xJ P G run){rd:Bool}
 (hF:aW F) (hrd:zGF rd F w) (hR:Rel P f H w) (hG:uX G f) (hv:kV (zA f) v=true) (hx:codeOk (zA f) true x=true) (hy:codeOk (zA f) true y=true)
 (zE6:qE P f env a.tmps.toList) (hm:Marks B f w a.defers) (h:(jC P run nat (env.val v) ps x y env H).holds Q) :
 (Code.rangeFunc v ps x y).wpIn F 0 P (jE P B f H w Q) a w:=by
 cases hF0:F.round with
 | none=>exact qIC hc hrun hF hF0 hR hG hv hx hy zE6 hm h
 | some l0 =>
   obtain⟨r0,hl0⟩:=hrd.lp l0 hF0;exact qLC hc hrun hF hF0 hR hG hv hx hy zE6 hm hl0 h
end Go.Idl
namespace Go.Idl
variable {P:Program}{good:FuncId->Bool}{nat:xC}
def vP (P:Program)(G:Nat->Bool)(nat:xC):Prop :=
 ∀ (g:FuncId) (k:List Value->IH->T (Value×IH)),nat g=some k->∀ (args args':List Value) (H:IH) (f:Inj) (w:World) (Q:Value×IH->Prop),Rel P f H w->uX G f->qE P f args args'->(k args H).holds Q ->
  CallsIn Fence.wide 0 P g args'.toArray w (Comes P f H w Q)
theorem qNI {G:Nat->Bool}{run:Job->IH->T Out}{B:Nat}(hrun:xJ P G run){F:Fence}{rd:Bool}{x:Code}{env:Env}{H:IH}{f:Inj}{a:Act}{w:World}{Q:Out->Prop}(hF:aW F)(hrd:zGF rd F w)(hR:Rel P f H w)(hG:uX G f)
 (hx:codeOk (zA f) rd x=true) (zE6:qE P f env a.tmps.toList) (hm:Marks B f w a.defers) (h:((run (.code x env) H).bind nG).holds Q) :
 (Code.scope x).wpIn F 0 P (jE P B f H w Q) a w:=by
 rw[T.zFA] at h;refine wI (wpIn_mono (hrun B F rd x env H f a w _ hF hrd hR hG hx zE6 hm h) ?_);rintro e a' w' ⟨o,f',hq,rfl,h1,h2,h3,h4⟩;unfold nG at hq
 cases he:o.e with
 | normal=>rw[he] at hq;exact⟨o,f',hq,by rw[he],h1,h2,h3,h4⟩
 | exit id=>rw[he] at hq;exact⟨o,f',hq,by rw[he],h1,h2,h3,h4⟩
 | goto l=>rw[he] at hq;exact hq.elim
 | ret=>rw[he] at hq;exact⟨o,f',hq,by rw[he],h1,h2,h3,h4⟩
theorem qIU {G:Nat->Bool}(hn:wM nat)(zL9:vP P G nat)(hgood:qY4 P good G)(zKW:∀ run,aD run->kI P G (yK run nat)->jA P G run->qG2 P G nat run) :
 ∀ n,xJ P G (iex P good nat n)∧kI P G (yK (iex P good nat n) nat)∧jA P G (iex P good nat n):=by
 intro n
 induction n using Nat.strongRecOn with
 | _ n ih =>
   have hcode:xJ P G (iex P good nat n):=by
    cases n with
    | zero=>intro B F rd c env H f a w Q _ _ _ _ _ _ _ h;exact h.elim
    | succ n =>
      obtain⟨h1,h2,h3⟩:=ih n (zPB n);intro B F rd c env H f a w Q hF hrd hR hG hok zE6 hm h;have h':(tQ P (iex P good nat n) nat c env H).holds Q:=h
      cases c with
      | skip=>exact wpIn_skip (j4 (e:=.normal) hR zE6 hm h')
      | label l=>exact wpIn_label (j4 (e:=.normal) hR zE6 hm h')
      | ret=>exact wpIn_ret (j4 (e:=.ret) hR zE6 hm h')
      | exit id=>exact wpIn_exit (j4 (e:=.exit id) hR zE6 hm h')
      | seq x y =>
        simp only[codeOk,zOG] at hok;exact qX4 h1 hF hrd hR hG hok.1 hok.2 zE6 hm h'
      | cond v x y =>
        simp only[codeOk,zOG] at hok;exact qRY h1 hF hrd hR hG hok.1 hok.2.1 hok.2.2 zE6 hm h'
      | block id x=>exact qNG h1 hF hrd hR hG hok zE6 hm h'
      | loop x=>exact qSC hn hF hrd (n+1) (fun m hm=>(ih m hm).1) hR hG hok zE6 hm h
      | region id ops draw =>
        simp only[codeOk,zOG] at hok;exact qIZ h2 h3 (zKW _ (qCV hn n) h2 h3) hF hR hG hok.1 hok.2 zE6 hm h'
      | rangeFunc v ps x y =>
        simp only[codeOk,zOG] at hok;exact qBR h2 h1 hF hrd hR hG hok.2.1 hok.2.2.1 hok.2.2.2 zE6 hm h'
      | scope x=>exact qNI h1 hF hrd hR hG hok zE6 hm h'
      | goto l=>exact h'.elim
      | refuse s=>exact h'.elim
   refine⟨hcode,?_,?_⟩
   ·intro g args args' H f w Q hR hG ha h;unfold yK at h;split at h
    ·rename_i k hk;exact zL9 g k hk args args' H f w Q hR hG ha h
    ·cases n with
     | zero=>exact h.elim
     | succ n=>exact qRZ hn hgood n (ih n (zPB n)).1 g args args' H f w Q hR hG ha h
   ·intro l args args' H f w e Q hR hG he ha h
    cases n with
    | zero=>exact h.elim
    | succ n=>exact qMM n (ih n (zPB n)).1 l args args' H f w e Q hR hG he ha h
end Go.Idl
namespace Go.Idl
variable {i j:Nat}{ops:Array Oper}
def qHA (acc:Array Nat)(o:Oper):Nat:=o.after.foldl (fun s e=>if Region.binds .any e then s ||| 2 ^ e.on ||| acc.getD e.on 0 else s) 0
def pushB (acc:Array Nat)(o:Oper):Array Nat:=acc.push (qHA acc o)
theorem qBQ (ops:Array Oper):Region.before ops=ops.toList.foldl pushB #[]:=by
 unfold Region.before pushB qHA;rw[<-zQW]
theorem qOB (acc:Array Nat)(i:Nat):∀ (l:List Edge) (s:Nat),
 (l.foldl (fun s e=>if Region.binds .any e then s ||| 2 ^ e.on ||| acc.getD e.on 0 else s) s).testBit i=true ↔
   s.testBit i=true∨∃ e∈l,Region.binds .any e=true∧(i=e.on∨(acc.getD e.on 0).testBit i=true)
 | [],s=>by simp
 | e::l,s=>by
   rw[zQA,qOB acc i l];by_cases hb:Region.binds .any e=true
   ·rw[if_pos hb];simp only[Nat.testBit_or,Nat.testBit_two_pow,zPL,decide_eq_true_eq,zO1];constructor
    ·rintro (((h | h) | h) | ⟨e',h1,h2,h3⟩)
     ·exact .inl h
     ·exact .inr ⟨e,.inl rfl,hb,.inl h.symm⟩
     ·exact .inr ⟨e,.inl rfl,hb,.inr h⟩
     ·exact .inr ⟨e',.inr h1,h2,h3⟩
    ·rintro (h | ⟨e',h1 | h1,h2,h3⟩)
     ·exact .inl (.inl (.inl h))
     ·subst h1;rcases h3 with h3 | h3
      ·exact .inl (.inl (.inr h3.symm))
      ·exact .inl (.inr h3)
     ·exact .inr ⟨e',h1,h2,h3⟩
   ·rw[if_neg hb];simp only[zO1];constructor
    ·rintro (h | ⟨e',h1,h2,h3⟩)
     ·exact .inl h
     ·exact .inr ⟨e',.inr h1,h2,h3⟩
    ·rintro (h | ⟨e',h1 | h1,h2,h3⟩)
     ·exact .inl h
     ·subst h1;exact absurd h2 hb
     ·exact .inr ⟨e',h1,h2,h3⟩
theorem row_iff (acc:Array Nat)(o:Oper)(i:Nat):(qHA acc o).testBit i=true ↔ ∃ e∈o.after,Region.binds .any e=true∧(i=e.on∨(acc.getD e.on 0).testBit i=true):=by
 unfold qHA;rw[<-zQW,qOB];simp
theorem qWE (acc:Array Nat)(o:Oper)(k:Nat)(h:k < acc.size):(pushB acc o).getD k 0=acc.getD k 0:=by
 unfold pushB;simp only[zOU,Array.getElem?_push];rw[if_neg (by omega)]
theorem qDJ (acc:Array Nat)(o:Oper):(pushB acc o).getD acc.size 0=qHA acc o:=by
 unfold pushB;simp[zOU]
theorem bN (acc:Array Nat)(o:Oper):(pushB acc o).size=acc.size+1:=by simp[pushB]
theorem qB9:∀ (l:List Oper) (acc:Array Nat) (k:Nat),k < acc.size->(l.foldl pushB acc).getD k 0=acc.getD k 0
 | [],_,_,_=>rfl
 | o::l,acc,k,h=>by
   rw[zQA,qB9 l _ _ (by rw[bN];omega),qWE acc o k h]
theorem pK:∀ (l:List Oper) (acc:Array Nat),(l.foldl pushB acc).size=acc.size+l.length
 | [],_=>rfl
 | o::l,acc=>by rw[zQA,pK l,bN,zO4];omega
theorem fold_at:∀ (l:List Oper) (acc:Array Nat) (k:Nat) (o:Oper),l[k]?=some o->(l.foldl pushB acc).getD (acc.size+k) 0=qHA ((l.take k).foldl pushB acc) o
 | [],_,_,_,h=>by simp at h
 | p::l,acc,0,o,h=>by
   simp only[zO9,zOP] at h;subst h;rw[zQA,qB9 l _ _ (by rw[bN];omega),zQ3,qDJ];rfl
 | p::l,acc,k+1,o,h=>by
   have:=fold_at l (pushB acc p) k o (by simpa using h);rw[bN] at this;rw[zQA,zQK,zQA,show acc.size+(k+1)=acc.size+1+k by omega];exact this
theorem qG4 (hb:∀ j o,ops[j]?=some o->∀ e∈o.after,Region.binds .any e=true->e.on < j){j:Nat}{o:Oper}(ho:ops[j]?=some o) :
 vI (Region.before ops) i j=true ↔ ∃ e∈o.after,Region.binds .any e=true∧(i=e.on∨vI (Region.before ops) i e.on=true):=by
 have ho':ops.toList[j]?=some o:=by simpa using ho
 have hlen:j < ops.toList.length:=(zOO.1 ho').1
 have h1:(Region.before ops).getD j 0=qHA ((ops.toList.take j).foldl pushB #[]) o:=by
  have:=fold_at ops.toList #[] j o ho';rw[qBQ];simpa using this
 have h2:∀ k,k < j->((ops.toList.take j).foldl pushB #[]).getD k 0=(Region.before ops).getD k 0:=by
  intro k hk;have e1:ops.toList=ops.toList.take j++ops.toList.drop j:=(zRT j _).symm;rw[qBQ]
  conv=>rhs;rw[e1,List.foldl_append]
  refine (qB9 _ _ _ ?_).symm;rw[pK];simp only[zPQ];have:(#[]:Array Nat).size=0:=rfl;omega
 unfold vI;rw[h1,row_iff];constructor
 ·rintro⟨e,he,hbd,h3⟩;refine⟨e,he,hbd,?_⟩;rw[h2 _ (hb j o ho e he hbd)] at h3;exact h3
 ·rintro⟨e,he,hbd,h3⟩;refine⟨e,he,hbd,?_⟩;rw[h2 _ (hb j o ho e he hbd)];exact h3
theorem qZU (ho:ops[j]?=none):vI (Region.before ops) i j=false:=by
 unfold vI
 have:(Region.before ops)[j]?=none:=by
  rw[qBQ,zSD];rw[pK];have:=Array.getElem?_eq_none_iff.1 ho;simpa using this
 simp[zOU,this]
theorem vU (hb:∀ j o,ops[j]?=some o->∀ e∈o.after,Region.binds .any e=true->e.on < j):∀ (j i:Nat),vI (Region.before ops) i j=true->i < j:=by
 intro j
 induction j using Nat.strongRecOn with
 | _ j ih =>
   intro i h
   cases ho:ops[j]? with
   | none=>rw[qZU ho] at h;cases h
   | some o =>
     obtain⟨e,he,hbd,h3⟩:=(qG4 hb ho).1 h;have hlt:=hb j o ho e he hbd;rcases h3 with h3 | h3
     ·omega
     ·have:=ih e.on hlt i h3;omega
end Go.Idl
namespace Go.Idl
variable {P:Program}
variable {H:IH}{env env':Env}{o:Oper}
theorem rG {o:Oper}(hs:∀ cs b,o.op≠.select cs b)(h:∀ x∈o.op.operands,env.val x=env'.val x):kL P o env H=kL P o env' H:=by
 unfold kL;rw[execOp_congr o hs h,xD,xD,zP3 (g:=env'.val) fun x hx=>h x (zPW.2 hx)]
theorem qWF {o:Oper}(h:∀ x∈o.op.operands,env.val x=env'.val x):iop P o env H=iop P o env' H:=by
 have hd:(∀ cs b,o.op≠.select cs b)->kL P o env H=kL P o env' H:=fun hs=>rG hs h
 have pairs:∀ ps:Array (Nat×Operand),(∀ x∈ps.map (·.2),env.val x=env'.val x) ->
  (ps.toList.map fun p=>(p.1,env.val p.2))=(ps.toList.map fun p=>(p.1,env'.val p.2)):=fun ps hp =>
  zP3 fun p hm=>by
   rw[hp p.2 (Array.mem_map.2 ⟨p,zPW.2 hm,rfl⟩)]
 unfold iop;cases ho:o.op <;> rw[ho] at h hd <;> simp only[Op.operands] at h <;> simp only
 case build t ps=>rw[pairs ps fun x hx=>h x (by simpa using hx)]
 case buildSlice t n ps=>rw[pairs ps fun x hx=>h x (by simpa using hx)]
 case makeFunc fn first captured =>
  rw[Array.map_congr_left (xs:=first) fun x hx=>h x (by simp[hx]),Array.map_congr_left (xs:=captured) fun x hx=>h x (by simp[hx])]
 case binOp op t x y t2 =>
  have hd:=hd (by simp);rw[h x (by simp),h y (by simp)];simp only[yT,zFR,zFE,hd]
 case unOp=>exact hd (by simp)
 case convert src dst x =>
  have hd:=hd (by simp);rw[h x (by simp)];simp only[gY,hd]
 case slice t x lo hi mx =>
  have hd:=hd (by simp);have e1:lo.map env.val=lo.map env'.val:=by cases lo <;> simp_all
  have e2:hi.map env.val=hi.map env'.val:=by cases hi <;> simp_all
  have e3:mx.map env.val=mx.map env'.val:=by cases mx <;> simp_all
  rw[e1,e2,e3,h x (by simp)];simp only[wZ,hd]
 case index t x ix =>
  have hd:=hd (by simp);rw[h x (by simp),h ix (by simp)];simp only[wV,hd]
 case call c =>
  have hd:=hd (by simp);simp only[Call.operands] at h
  have ha:kS env.val c.args.toList=kS env'.val c.args.toList:=by
   rw[xD,xD];exact zP3 fun x hx=>h x (by cases c.callee <;> simp[zPW,hx])
  have hc:fQ P c env H=fQ P c env' H:=by
   unfold fQ;simp only[ha];split
   ·rfl
   ·rfl
   ·rename_i f hf;rw[hf] at h;rw[h f (by simp)]
  simp only[yJ,hd,hc]
 all_goals (first | rfl | (simp_all;done))
def Loose (s:IH->Option zE7):Prop:=∀ H r,s H=some r->∃ v,r=.val v H∧∀ H',s H'=some (.val v H')
theorem Loose.ofO (v:Option Value):Loose fun H=>zE7.ofO H v:=by
 intro H r h
 cases v with
 | none=>cases h
 | some v=>cases h;exact⟨v,rfl,fun _=>rfl⟩
theorem Loose.dry (o:Oper)(env:Env):Loose fun H=>kL P o env H:=by
 intro H r h;simp only[kL] at h ⊢;by_cases hp:zQ (kS env.val o.op.operands.toList)=true
 ·rw[if_pos hp] at h;simp only[hp,if_true]
  cases hs:z8 P (execOp env.val o) with
  | none=>rw[hs] at h;cases h
  | some x =>
    rw[hs] at h
    cases x with
    | value v =>
      simp only[qF7,qB7] at h ⊢
      cases hd:qH6 v with
      | false=>rw[hd] at h;cases h
      | true=>rw[hd] at h;cases h;exact⟨v,rfl,fun _=>rfl⟩
    | _=>cases h
 ·rw[if_neg hp] at h;cases h
theorem Loose.val (v:Value):Loose fun H=>some (.val v H):=by
 intro H r h;cases h;exact⟨v,rfl,fun _=>rfl⟩
theorem Loose.none:Loose fun _=>none:=by intro H r h;cases h
theorem Loose.cond {b:Bool}{s t:IH->Option zE7}(hs:Loose s)(ht:Loose t):Loose fun H=>cond b (s H) (t H):=by
 cases b
 ·exact ht
 ·exact hs
theorem Loose.zFR (o:Oper)(op:BinOp)(k k':IntKind)(a b:Int)(env:Env):Loose fun H=>zFR P o op k k' a b env H:=by
 unfold Go.Idl.zFR;refine .cond ?_ (.dry _ _);split
 ·exact .val _
 ·exact .dry _ _
theorem Loose.zFE (o:Oper)(op:BinOp)(t:TypeId)(x y:Value)(env:Env):Loose fun H=>zFE P o op t x y env H:=by
 unfold Go.Idl.zFE;split
 ·split
  ·exact .val _
  ·exact .dry _ _
 ·split
  ·exact .val _
  ·exact .dry _ _
 ·exact .dry _ _
theorem Loose.binOp (o:Oper)(op:BinOp)(t:TypeId)(x y:Value)(env:Env):Loose fun H=>yT P o op t x y env H:=by
 unfold yT;split
 ·split
  ·exact .zFR _ _ _ _ _ _ _
  ·exact .zFE _ _ _ _ _ _
 ·exact .zFE _ _ _ _ _ _
theorem Loose.orElse {s t:IH->Option zE7}(hs:Loose s)(hn:∀ H H',s H=Option.none->s H'=Option.none)(ht:Loose t):Loose fun H=>match s H with
 | some r=>some r
 | .none=>t H:=by
 intro H r h;simp only at h ⊢
 cases hsH:s H with
 | none =>
   rw[hsH] at h;obtain⟨v,h1,h2⟩:=ht H r h;exact⟨v,h1,fun H'=>by rw[hn H H' hsH];exact h2 H'⟩
 | some q =>
   rw[hsH] at h;cases h;obtain⟨v,h1,h2⟩:=hs H r hsH;exact⟨v,h1,fun H'=>by rw[h2 H']⟩
theorem qDV (hc:xM o=.pure):Loose fun H=>iop P o env H:=by
 unfold iop;unfold xM at hc;cases ho:o.op <;> rw[ho] at hc <;> simp only at hc <;> (try cases hc) <;> simp only
 case move=>exact .val _
 case assign=>exact .val _
 case pick=>unfold qNB;split;exact .val _;exact .none
 case build=>exact .ofO _
 case nilCheck=>unfold wG;split;exact .val _;exact .val _;exact .val _;exact .none
 case binOp=>exact .binOp _ _ _ _ _ _
 case unOp=>exact .dry _ _
 case makeFunc=>unfold wN;split;exact .val _;exact .none
 case slice=>unfold wZ;split;exact .dry _ _;exact .ofO _
 case fieldAddr=>exact .ofO _
 case field=>exact .none
 case indexAddr=>exact .ofO _
 case index=>unfold wV;split;exact .dry _ _;exact .ofO _
 case extract =>
  unfold fK;split
  ·unfold wP;split
   ·exact .cond (.val _) .none
   ·exact .none
  ·exact .none
 case alloc=>split at hc <;> cases hc
 case call c =>
  unfold yJ;refine .orElse (s:=fun H=>fQ P c env H) ?_ ?_ (.dry _ _)
  ·unfold fQ
   split at hc <;> (try cases hc)
   ·rename_i h;simp only[h,yG];exact .none
   ·rename_i h;simp only[h,yG];exact .none
   ·rename_i h;simp only[h,yG];split
    ·exact .val _
    ·split
     ·exact .val _
     ·exact .none
    ·exact .none
  ·intro H H' hn;unfold fQ at hn ⊢
   split at hc <;> (try cases hc)
   ·rename_i h;simp only[h,yG]
   ·rename_i h;simp only[h,yG]
   ·rename_i h;simp only[h,yG] at hn ⊢;split at hn
    ·cases hn
    ·split at hn
     ·cases hn
     ·rename_i hc0;simp only[hc0];rfl
    ·rfl
theorem qGQ {v:Option Value}{r:zE7}(h:zE7.ofO H v=some r):∃ u,r=.val u H:=by
 cases v with
 | none=>cases h
 | some u=>cases h;exact⟨u,rfl⟩
theorem qKB {r:zE7}(hc:xM o=.read)(h:iop P o env H=some r):∃ v,r=.val v H:=by
 unfold iop at h;unfold xM at hc
 have dry:∀ {r},kL P o env H=some r->∃ v,r=.val v H:=fun h=>by
  obtain⟨v,h1,_⟩:=Loose.dry o env H _ h;exact⟨v,h1⟩
 cases ho:o.op <;> rw[ho] at hc h <;> simp only at hc h <;> (try cases hc)
 case load=>exact qGQ h
 case lookup=>exact qGQ h
 case entry=>cases h
 case convert =>
  unfold gY at h;split at h
  ·exact qGQ h
  ·exact dry h
 case alloc=>split at hc <;> cases hc
 case call c =>
  unfold yJ at h;split at h
  ·rename_i q hq;cases h;unfold fQ at hq
   split at hc <;> (try cases hc)
   rename_i hb;simp only[hb,yG,nL] at hq;split at hq
   ·cases hq;exact⟨_,rfl⟩
   ·split at hq
    ·cases hq;exact⟨_,rfl⟩
    ·cases hq
   ·cases hq;exact⟨_,rfl⟩
   ·cases hq
  ·exact dry h
 all_goals (split at h <;> exact absurd h (by simp))
theorem qIK (h:qL o=true):∃ elem,o.op=.alloc elem∧o.guard=none:=by
 unfold qL at h;have hc:=of_decide_eq_true h;unfold xM at hc
 split at hc <;> (try cases hc)
 ·rename_i elem he;refine⟨elem,he,?_⟩;split at hc
  ·rename_i hg;simpa using hg
  ·cases hc
 ·split at hc <;> cases hc
end Go.Idl
namespace Go.Idl
variable {P:Program}{nat:xC}
variable {H:IH}{o:Oper}{t:Nat}{v:Value}
noncomputable def Env.at (env:Env)(t:Nat):Value:=(zL env t).getD undef
theorem qL3 (env:Env)(d:Option Tmp)(v:Value)(t:Nat):(env.zFK d v).at t=if d=some t∧t < env.length then v else env.at t:=by
 cases d with
 | none=>simp[Env.zFK]
 | some d =>
   simp only[Env.zFK,Env.at,qF,qX,zPA,zOP];by_cases h:d=t
   ·subst h;by_cases hl:d < env.length
    ·simp[hl]
    ·simp[hl]
   ·simp[h]
theorem fO (env:Env)(d:Option Tmp)(v:Value):(env.zFK d v).length=env.length:=by
 cases d with
 | none=>rfl
 | some d=>simp[Env.zFK,qX]
theorem qEZ {env:Env}{d:Option Tmp}(h:d≠some t):(env.zFK d v).at t=env.at t:=by
 rw[qL3,if_neg (fun hh=>h hh.1)]
theorem rE {env:Env}(h:t < env.length):(env.zFK (some t) v).at t=v:=by
 rw[qL3,if_pos ⟨rfl,h⟩]
theorem qW0 {env env':Env}(hl:env.length=env'.length)(h:env.at t=env'.at t):zL env t=zL env' t:=by
 simp only[Env.at,qF] at h ⊢;by_cases ht:t < env.length
 ·have ht':t < env'.length:=by omega
  rw[zOL ht,zOL ht'] at h ⊢;simpa using h
 ·rw[zPZ (by omega),zPZ (by omega)]
def yS (o:Oper):Bool:=(xM o).eff
def bD (l:List Oper):Nat:=l.countP yS
def dR (l:List Oper):Nat:=l.countP qL
theorem nW (h:qL o=true):yS o=false:=by
 unfold qL at h;unfold yS;rw[of_decide_eq_true h];rfl
theorem qG6 (h:yS o=false)(ha:qL o=false):xM o=.pure∨xM o=.read:=by
 unfold yS at h;unfold qL at ha
 cases hc:xM o <;> rw[hc] at h ha <;> first | exact .inl rfl | exact .inr rfl | (cases h;done) | (exact absurd ha (by decide))
theorem qBG (o:Oper)(l:List Oper):bD (o::l)=(if yS o then 1 else 0)+bD l:=by
 unfold bD;rw[zRX];omega
theorem aN (o:Oper)(l:List Oper):dR (o::l)=(if qL o then 1 else 0)+dR l:=by
 unfold dR;rw[zRX];omega
theorem qJH {run:Job->IH->T Out}{env:Env}{r:Value×IH}(he:yS o=false)(ha:qL o=false)(h:sI P run nat o env H=.ret r):r.2=H∧iop P o env H=some (.val r.1 H):=by
 unfold sI at h
 have key:∀ s,iop P o env H=some s->∃ v,s=.val v H:=by
  intro s hs;rcases qG6 he ha with hc | hc
  ·obtain⟨v,h1,_⟩:=qDV hc H s hs;exact⟨v,h1⟩
  ·exact qKB hc hs
 cases hs:iop P o env H with
 | none=>rw[hs] at h;cases h
 | some s =>
   obtain⟨v,rfl⟩:=key s hs;rw[hs] at h;cases h;exact⟨rfl,rfl⟩
theorem q2P {run:Job->IH->T Out}{env:Env}{H':IH}(h:iop P o env H=some (.val v H')):sI P run nat o env H=.ret (v,H'):=by
 unfold sI;rw[h];rfl
theorem qWB {t:T (Value×IH)}{r:Value×IH}(h:q3X t=some r):t=.ret r:=by
 unfold q3X at h;split at h
 ·cases h;rfl
 ·cases h
structure At (P:Program) (run:Job->IH->T Out) (nat:xC) (ops:Array Oper) (lo:List (Nat×Nat×Nat)) (i:Nat) (o:Oper) (env:Env) (H:IH) (eF:Env) (next:Option IH) (rs:List Rec) (later:Nat->Prop):Prop where
 out:(kM ops o env=some false∧(∀ d,o.dst=some d->d < env.length->¬ later d->eF.at d=undef)∧(yS o=true->next=some H)) ∨
  (kM ops o env=some true∧∃ v H',sI P run nat o env H=.ret (v,H')∧(∀ d,o.dst=some d->d < env.length->¬ later d->eF.at d=v)∧(yS o=true->next=some H')∧(yS o=false->H'=H) ∧
    (∀ p,qCT i lo=some p->(⟨i,o,env,v⟩:Rec)∈rs))
def writes (l:List Oper)(lo:Nat->Prop)(t:Nat):Prop:=∃ k o,lo k∧l[k]?=some o∧qL o=false∧o.dst=some t
theorem jR {l:List Oper}{q:Nat->Prop}:writes (o::l) q t ↔ (q 0∧qL o=false∧o.dst=some t)∨writes l (fun k=>q (k+1)) t:=by
 constructor
 ·rintro⟨k,p,h1,h2,h3,h4⟩
  cases k with
  | zero=>simp only[zO9,zOP] at h2;subst h2;exact .inl ⟨h1,h3,h4⟩
  | succ k=>exact .inr ⟨k,p,h1,by simpa using h2,h3,h4⟩
 ·rintro (⟨h1,h3,h4⟩ | ⟨k,p,h1,h2,h3,h4⟩)
  ·exact⟨0,o,h1,rfl,h3,h4⟩
  ·exact⟨k+1,p,h1,by simpa using h2,h3,h4⟩
structure Trace (P:Program) (run:Job->IH->T Out) (nat:xC) (ops:Array Oper) (lo:List (Nat×Nat×Nat)) (l:List Oper) (i:Nat) (env:Env) (H:IH) (eF:Env) (HF:IH) (hs:List IH) (rs:List Rec):Prop where
 len:eF.length=env.length
 last:(H::hs)[bD l]?=some HF
 keep:∀ t,¬ writes l (fun _=>True) t->eF.at t=env.at t
 step:∀ k o,l[k]?=some o->qL o=false->∃ zHX Hk,zHX.length=env.length∧(∀ t,¬ writes l (fun k'=>k' < k) t->zHX.at t=env.at t)∧(∀ t,¬ writes l (fun k'=>k<=k') t->eF.at t=zHX.at t) ∧
  (H::hs)[bD (l.take k)]?=some Hk∧At P run nat ops lo (i+k) o zHX Hk eF ((H::hs)[bD (l.take k)+1]?) rs (writes l fun k'=>k < k')
theorem gV {run:Job->IH->T Out}{ops:Array Oper}{lo:List (Nat×Nat×Nat)}:∀ (l:List Oper) (i:Nat) (env:Env) (H:IH) (eF:Env) (HF:IH) (hs:List IH) (rs:List Rec),
 qNS P run nat ops lo l i env H=some (eF,HF,hs,rs)->Trace P run nat ops lo l i env H eF HF hs rs
 | [],i,env,H,eF,HF,hs,rs,h=>by
   have h':some (env,H,[],[])=some (eF,HF,hs,rs):=h;cases h';exact⟨rfl,rfl,fun _ _=>rfl,fun k o hk=>by simp at hk⟩
 | o::l,i,env,H,eF,HF,hs,rs,h=>by
   rw[qEP] at h
   -- what the rest says,said of the whole
   have lift:∀ (zE4:Env) (H1:IH) (hs1:List IH) (rs1:List Rec) (v:Value),Trace P run nat ops lo l (i+1) zE4 H1 eF HF hs1 rs1->zE4=(if qL o=true then env else env.zFK o.dst v) ->
    (∀ r,r∈rs1->r∈rs)->(∀ n,(H::hs)[(if yS o then 1 else 0)+n]?=(H1::hs1)[n]?) ->
    (qL o=false->At P run nat ops lo i o env H eF ((H::hs)[1]?) rs (writes l fun _=>True))->Trace P run nat ops lo (o::l) i env H eF HF hs rs:=by
    intro zE4 H1 hs1 rs1 v ht he hrs hh hat;have hlen:zE4.length=env.length:=by rw[he];split;rfl;exact fO _ _ _
    have zJ6:∀ t,¬ (qL o=false∧o.dst=some t)->zE4.at t=env.at t:=by
     intro t hn;rw[he];split
     ·rfl
     ·rename_i ha;exact qEZ fun hd=>hn ⟨by simpa using ha,hd⟩
    refine⟨by rw[ht.len,hlen],by rw[qBG,hh];exact ht.last,?_,?_⟩
    ·intro t hw;rw[jR] at hw;rw[ht.keep t (fun hw'=>hw (.inr hw')),zJ6 t (fun hw'=>hw (.inl ⟨trivial,hw'⟩))]
    ·intro k p hk hp
     cases k with
     | zero =>
       simp only[zO9,zOP] at hk;subst hk;refine⟨env,H,rfl,fun _ _=>rfl,?_,rfl,?_⟩
       ·intro t hw;rw[jR] at hw;rw[ht.keep t (fun hw'=>hw (.inr ?_)),zJ6 t (fun hw'=>hw (.inl ⟨zOI _,hw'⟩))];obtain⟨k,p,_,h2,h3,h4⟩:=hw';exact⟨k,p,zQD _,h2,h3,h4⟩
       ·have hq:∀ d,¬ writes (o::l) (fun k'=>0 < k') d->¬ writes l (fun _=>True) d:=by
         intro d hn hw;refine hn (jR.2 (.inr ?_));obtain⟨k,p,_,h2,h3,h4⟩:=hw;exact⟨k,p,Nat.succ_pos _,h2,h3,h4⟩
        rcases (hat hp).out with ⟨a1,a2,a3⟩ | ⟨a1,v',H',a2,a3,a4,a5,a6⟩
        ·exact⟨.inl ⟨a1,fun d hd hl hn=>a2 d hd hl (hq d hn),a3⟩⟩
        ·exact⟨.inr ⟨a1,v',H',a2,fun d hd hl hn=>a3 d hd hl (hq d hn),a4,a5,a6⟩⟩
     | succ k =>
       obtain⟨zHX,Hk,b1,b2,b3,b4,b5⟩:=ht.step k p (by simpa using hk) hp;have hcnt:bD ((o::l).take (k+1))=(if yS o then 1 else 0)+bD (l.take k):=by rw[zQK,qBG]
       refine⟨zHX,Hk,by rw[b1,hlen],?_,?_,by rw[hcnt,hh];exact b4,?_⟩
       ·intro t hw;rw[jR] at hw;rw[b2 t (fun hw'=>hw (.inr ?_)),zJ6 t (fun hw'=>hw (.inl ⟨Nat.succ_pos _,hw'⟩))];obtain⟨k',p',h1,h2,h3,h4⟩:=hw';exact⟨k',p',zSH h1,h2,h3,h4⟩
       ·intro t hw;refine b3 t fun hw'=>hw (jR.2 (.inr ?_))
        obtain⟨k',p',h1,h2,h3,h4⟩:=hw';exact⟨k',p',Nat.succ_le_succ h1,h2,h3,h4⟩
       ·have hq:∀ d,¬ writes (o::l) (fun k'=>k+1 < k') d->¬ writes l (fun k'=>k < k') d:=by
         intro d hn hw;refine hn (jR.2 (.inr ?_));obtain⟨k',p',h1,h2,h3,h4⟩:=hw;exact⟨k',p',zSH h1,h2,h3,h4⟩
        have hn1:(H::hs)[bD ((o::l).take (k+1))+1]?=(H1::hs1)[bD (l.take k)+1]?:=by rw[hcnt,zQG,hh]
        have hi:i+(k+1)=i+1+k:=by omega
        rw[hn1,hi]
        rcases b5.out with ⟨a1,a2,a3⟩ | ⟨a1,v',H',a2,a3,a4,a5,a6⟩
        ·exact⟨.inl ⟨a1,fun d hd hl hn=>a2 d hd hl (hq d hn),a3⟩⟩
        ·exact⟨.inr ⟨a1,v',H',a2,fun d hd hl hn=>a3 d hd hl (hq d hn),a4,a5,fun p hp=>hrs _ (a6 p hp)⟩⟩
   cases ha:qL o with
   | true =>
     rw[ha] at h;have hne:yS o=false:=nW ha;exact lift env H hs rs undef (gV l _ _ _ _ _ _ _ h) (by rw[ha];rfl) (fun _ h=>h) (fun n=>by rw[hne];simp) (fun h0=>by rw[ha] at h0;cases h0)
   | false =>
     rw[ha] at h;simp only[cond_false] at h;unfold j6 at h;split at h
     ·rename_i hw
      cases ho:q3X (sI P run nat o env H) with
      | none=>rw[ho] at h;cases h
      | some q =>
        rw[ho] at h;simp only[q18,q74] at h;split at h
        ·rename_i e hh hs1 rs1 hq;have hio:=qWB ho;have ht:=gV l _ _ _ _ _ _ _ hq;cases h
         have hvl:∀ d,o.dst=some d->d < env.length->¬ writes l (fun _=>True) d->eF.at d=q.1:=by
          intro d hd hl hn;rw[ht.keep d hn,hd];exact rE hl
         have hrec:∀ p,qCT i lo=some p->(⟨i,o,env,q.1⟩:Rec)∈qZW (qCT i lo) i o env q.1 rs1:=by
          intro p hp;rw[hp];exact zON
         have hin:∀ r,r∈rs1->r∈qZW (qCT i lo) i o env q.1 rs1:=by
          intro r hr;unfold qZW;split;exact zOK _ hr;exact hr
         cases hE:yS o with
         | true =>
           have hE':(xM o).eff=true:=hE;refine lift _ q.2 hs1 rs1 q.1 ht (by rw[ha];rfl) hin (fun n=>by rw[hE'];simp only[hE,qEV,cond_true,if_true];rw[zRB,zRN]) fun _=>?_
           exact⟨.inr ⟨hw,q.1,q.2,hio,hvl,fun _=>by rw[hE'];rfl,fun h0=>(by rw[hE] at h0;cases h0),hrec⟩⟩
         | false =>
           have hE':(xM o).eff=false:=hE;obtain⟨g1,g2⟩:=qJH hE ha hio;refine lift _ q.2 hs1 rs1 q.1 ht (by rw[ha];rfl) hin (fun n=>by rw[hE'];simp[hE,qEV,g1]) fun _=>?_
           exact⟨.inr ⟨hw,q.1,q.2,hio,hvl,fun h0=>(by rw[hE] at h0;cases h0),fun _=>g1,hrec⟩⟩
        ·cases h
     ·rename_i hw;simp only[q0N] at h;split at h
      ·rename_i e hh hs1 rs1 hq;have ht:=gV l _ _ _ _ _ _ _ hq;cases h
       have hvl:∀ d,o.dst=some d->d < env.length->¬ writes l (fun _=>True) d->eF.at d=undef:=by
        intro d hd hl hn;rw[ht.keep d hn,hd];exact rE hl
       cases hE:yS o with
       | true =>
         have hE':(xM o).eff=true:=hE;refine lift _ H hs1 rs undef ht (by rw[ha];rfl) (fun _ h=>h) (fun n=>by rw[hE'];simp only[hE,qEV,cond_true,if_true];rw[zRB,zRN]) fun _=>?_
         exact⟨.inl ⟨hw,hvl,fun _=>by rw[hE'];rfl⟩⟩
       | false =>
         have hE':(xM o).eff=false:=hE;refine lift _ H hs1 rs undef ht (by rw[ha];rfl) (fun _ h=>h) (fun n=>by rw[hE'];simp[hE,qEV]) fun _=>?_
         exact⟨.inl ⟨hw,hvl,fun h0=>(by rw[hE] at h0;cases h0)⟩⟩
      ·cases h
     ·cases h
end Go.Idl
namespace Go.Idl
variable {P:Program}{nat:xC}
variable {H:IH}{f:Inj}{i j:Nat}{l:List Oper}{o:Oper}{ops:Array Oper}{w:World}
def qAO (l:List Oper)(lo:Nat->Prop)(t:Nat):Prop:=∃ k o,lo k∧l[k]?=some o∧qL o=true∧o.dst=some t
theorem vE {q:Nat->Prop}{t:Nat}:qAO (o::l) q t ↔ (q 0∧qL o=true∧o.dst=some t)∨qAO l (fun k=>q (k+1)) t:=by
 constructor
 ·rintro⟨k,p,h1,h2,h3,h4⟩
  cases k with
  | zero=>simp only[zO9,zOP] at h2;subst h2;exact .inl ⟨h1,h3,h4⟩
  | succ k=>exact .inr ⟨k,p,h1,by simpa using h2,h3,h4⟩
 ·rintro (⟨h1,h3,h4⟩ | ⟨k,p,h1,h2,h3,h4⟩)
  ·exact⟨0,o,h1,rfl,h3,h4⟩
  ·exact⟨k+1,p,h1,by simpa using h2,h3,h4⟩
theorem Rel.zJ7 (o:Obj)(h:Rel P f H w):Rel P f (H.push o) w:=by
 have hne:∀ b e,f b=some e->b≠H.size:=fun b e hb=>by have:=h.dom b e hb;omega
 refine⟨fun b e hb=>by have:=h.dom b e hb;simp;omega,fun b hb=>?_,h.bound,fun b e ob hb hob=>?_,fun b1 b2 e1 e2 o1 o2 hn h1 h2 g1 g2=>?_,h.zFM⟩
 ·simp only[IH.size_push] at hb;rw[IH.zE9,if_neg (by omega)];exact h.fresh b (by omega)
 ·rw[IH.zE9,if_neg (hne b e hb)] at hob;exact h.obj b e ob hb hob
 ·rw[IH.zE9,if_neg (hne b1 e1 h1)] at g1;rw[IH.zE9,if_neg (hne b2 e2 h2)] at g2;exact h.sep b1 b2 e1 e2 o1 o2 hn h1 h2 g1 g2
structure zIF (P:Program) (l:List Oper) (env:Env) (H:IH) (e1:Env) (H1:IH):Prop where
 len:e1.length=env.length
 size:H1.size=H.size+dR l
 old:∀ b,b < H.size->H1.get b=H.get b
 rel:∀ f w,Rel P f H w->Rel P f H1 w
 keep:∀ t,¬ qAO l (fun _=>True) t->e1.at t=env.at t
 step:∀ k o,l[k]?=some o->qL o=true->∃ elem z,o.op=.alloc elem∧qAU P elem=some z∧H1.get (H.size+dR (l.take k))=some (.cells z.cells elem) ∧
  ∀ d,o.dst=some d->d < env.length->¬ qAO l (fun k'=>k < k') d->e1.at d=.pointer (some ⟨H.size+dR (l.take k),0,none⟩)
theorem mJ:∀ (l:List Oper) (env:Env) (H:IH) (e1:Env) (H1:IH),qFZ P l env H=some (e1,H1)->zIF P l env H e1 H1
 | [],env,H,e1,H1,h=>by
   simp only[qFZ,zOP,Prod.mk.injEq] at h;obtain⟨rfl,rfl⟩:=h;exact⟨rfl,rfl,fun _ _=>rfl,fun _ _ h=>h,fun _ _=>rfl,fun k o hk=>by simp at hk⟩
 | o::l,env,H,e1,H1,h=>by
   unfold qFZ at h;split at h
   ·rename_i ha;split at h
    ·rename_i v H' hv;obtain⟨elem,he,_⟩:=qIK ha;unfold iop at hv;rw[he] at hv;simp only[r9] at hv;split at hv
     ·rename_i z hz;cases hv;have t:=mJ l _ _ _ _ h;have hc:∀ k,dR ((o::l).take (k+1))=1+dR (l.take k):=fun k=>by rw[zQK,aN,if_pos ha]
      refine⟨by rw[t.len,fO],by rw[t.size,aN,if_pos ha,IH.size_push];omega,?_,fun f w hR=>t.rel f w (hR.zJ7 _),?_,?_⟩
      ·intro b hb;rw[t.old b (by simp;omega),IH.zE9,if_neg (by omega)]
      ·intro x hw;rw[vE] at hw;rw[t.keep x fun hw'=>hw (.inr hw')];exact qEZ fun hd=>hw (.inl ⟨trivial,ha,hd⟩)
      ·intro k p hk hp
       cases k with
       | zero =>
         simp only[zO9,zOP] at hk;subst hk;refine⟨elem,z,he,hz,?_,?_⟩
         ·simp only[List.take_zero,dR,List.countP_nil,zQ3];rw[t.old H.size (by simp),IH.zE9,if_pos rfl]
         ·intro d hd hl hn;rw[t.keep d ?_,hd,rE hl]
          ·rfl
          ·rintro⟨k,p,_,h2,h3,h4⟩;exact hn (vE.2 (.inr ⟨k,p,Nat.succ_pos _,h2,h3,h4⟩))
       | succ k =>
         obtain⟨el,z',b1,b2,b3,b4⟩:=t.step k p (by simpa using hk) hp;have hsz:H.size+dR ((o::l).take (k+1))=(H.push (.cells z.cells elem)).size+dR (l.take k):=by rw[hc,IH.size_push];omega
         refine⟨el,z',b1,b2,by rw[hsz];exact b3,?_⟩;intro d hd hl hn;rw[hsz];refine b4 d hd (by rw[fO];exact hl) ?_;rintro⟨k',p',h1,h2,h3,h4⟩;exact hn (vE.2 (.inr ⟨k',p',zSH h1,h2,h3,h4⟩))
     ·cases hv
    ·cases h
   ·rename_i ha;have ha:qL o=false:=by simpa using ha
    have t:=mJ l _ _ _ _ h;have hc:∀ k,dR ((o::l).take (k+1))=dR (l.take k):=fun k=>by rw[zQK,aN,ha];simp
    refine⟨t.len,by rw[t.size,aN,ha];simp,t.old,t.rel,?_,?_⟩
    ·intro x hw;rw[vE] at hw;exact t.keep x fun hw'=>hw (.inr hw')
    ·intro k p hk hp
     cases k with
     | zero =>
       simp only[zO9,zOP] at hk;subst hk;rw[ha] at hp;cases hp
     | succ k =>
       obtain⟨el,z',b1,b2,b3,b4⟩:=t.step k p (by simpa using hk) hp;refine⟨el,z',b1,b2,by rw[hc];exact b3,?_⟩;intro d hd hl hn;rw[hc];refine b4 d hd hl ?_;rintro⟨k',p',h1,h2,h3,h4⟩;exact hn (vE.2 (.inr ⟨k',p',zSH h1,h2,h3,h4⟩))
theorem Rel.zJ8 {b:Nat}{c:Array Value}{elem:TypeId}(h:Rel P f H w)(hb:b < H.size)(hn:f b=none)(hg:H.get b=some (.cells c elem))(hp:zQ c.toList=true) :
 Rel P (f.add b ⟨w.heap.size,0,c.size,false⟩) H (w.alloc (.cells c elem))∧(∀ H0:IH,H0.size<=b->Grow f H0 w (f.add b ⟨w.heap.size,0,c.size,false⟩) H0 (w.alloc (.cells c elem))):=by
 have hle:f.le (f.add b ⟨w.heap.size,0,c.size,false⟩):=Inj.zF6 hn;have old:∀ x y,f x=some y->y.r≠w.heap.size:=fun x y hx=>by have:=h.bound x y hx;omega
 refine⟨⟨?_,h.fresh,?_,?_,?_,?_⟩,fun H0 h0=>⟨zOI _,fun x hx hxn=>by rw[Inj.zE1 (by omega)];exact hxn,hle,by simp,?_,?_,⟨rfl,rfl,rfl⟩,fun r h=>h.alloc _⟩⟩
 ·intro x y hx;by_cases e1:x=b
  ·subst e1;exact hb
  ·rw[Inj.zE1 e1] at hx;exact h.dom x y hx
 ·intro x y hx;by_cases e1:x=b
  ·subst e1;rw[Inj.add_same] at hx;cases hx;simp
  ·rw[Inj.zE1 e1] at hx;have:=h.bound x y hx;simp;omega
 ·intro x y ob hx hob;by_cases e1:x=b
  ·subst e1;rw[Inj.add_same] at hx;cases hx;rw[hg] at hob;cases hob;rw[heap_alloc,if_pos rfl];refine⟨c,elem,(0,0),rfl,rfl,by simp,?_,fun _=>⟨rfl,rfl,fun j _=>by simp⟩,fun _=>⟨rfl,rfl⟩⟩;intro i v hv;refine⟨v,by simpa using hv,.base v ?_⟩;exact xS.1 hp v (zPW.1 (Array.mem_of_getElem? hv))
  ·rw[Inj.zE1 e1] at hx;rw[heap_alloc,if_neg (old x y hx)];exact (h.obj x y ob hx hob).mono hle
 ·intro b1 b2 e1 e2 o1 o2 hne h1 h2 g1 g2 l1 l2 hr;by_cases x1:b1=b
  ·subst x1;rw[Inj.add_same] at h1;cases h1;rw[Inj.zE1 (Ne.symm hne)] at h2;exact absurd hr.symm (old b2 e2 h2)
  ·rw[Inj.zE1 x1] at h1;by_cases x2:b2=b
   ·subst x2;rw[Inj.add_same] at h2;cases h2;exact absurd hr (old b1 e1 h1)
   ·rw[Inj.zE1 x2] at h2;exact h.sep b1 b2 e1 e2 o1 o2 hne h1 h2 g1 g2 l1 l2 hr
 ·intro b1 b2 e1 e2 h1 h2 hr;by_cases x1:b1=b
  ·subst x1;rw[Inj.add_same] at h1;cases h1;by_cases x2:b2=b1
   ·subst x2;rw[Inj.add_same] at h2;cases h2;rfl
   ·rw[Inj.zE1 x2] at h2;exact absurd hr.symm (old b2 e2 h2)
  ·rw[Inj.zE1 x1] at h1;by_cases x2:b2=b
   ·subst x2;rw[Inj.add_same] at h2;cases h2;exact absurd hr (old b1 e1 h1)
   ·rw[Inj.zE1 x2] at h2;exact h.zFM b1 b2 e1 e2 h1 h2 hr
 ·intro r hr hno;refine⟨?_,by rw[heap_alloc,if_neg (by omega)]⟩;rintro⟨x,y,hx,hyr,hro⟩;by_cases e1:x=b
  ·subst e1;rw[Inj.add_same] at hx;cases hx;simp at hyr;omega
  ·rw[Inj.zE1 e1] at hx;exact hno ⟨x,y,hx,hyr,hro⟩
 ·intro r hr hu x y hx;by_cases e1:x=b
  ·subst e1;rw[Inj.add_same] at hx;cases hx;simp;omega
  ·rw[Inj.zE1 e1] at hx;exact hu x y hx
structure Stat (ops:Array Oper):Prop where
 back:∀ j o,ops[j]?=some o->∀ e∈o.after,Region.binds .any e=true->e.on < j
 dst:∀ (i j:Nat) (o p:Oper) (d:Tmp),i≠j->ops[i]?=some o->ops[j]?=some p->o.dst=some d->p.dst≠some d
 reads:∀ (i j:Nat) (o p:Oper) (d:Tmp),i≠j->ops[i]?=some o->ops[j]?=some p->o.dst=some d->d∈uE ops p ->
  vI (Region.before ops) i j=true∨(qL o=false∧vI (Region.before ops) j i=true)
 zI1:∀ (i j:Nat) (o p:Oper),i≠j->ops[i]?=some o->ops[j]?=some p->yS o=true->yS p=true->vI (Region.before ops) i j=true∨vI (Region.before ops) j i=true
theorem aR:(o,i)∈l.zipIdx ↔ l[i]?=some o:=by
 rw[zQ1]
theorem qNO (h:aF ops=true):Stat ops:=by
 unfold aF qWW at h;simp only[zOJ] at h
 have h1:∀ i o,ops[i]?=some o->∀ e∈o.after,Region.binds .any e=true->e.on < i:=by
  intro i o ho e he hb;have:=h (o,i) (aR.2 (by simpa using ho));simp only[zOG,zSI] at this;have:=this.1 e he;rw[hb] at this;simpa using this
 have h2:∀ i j o p,i≠j->ops[i]?=some o->ops[j]?=some p ->
  (match o.dst with
    | some d=>p.dst != some d&&(!((uE ops p).contains d)||cond (qL o) (vI (Region.before ops) i j) (qPY (Region.before ops) i j))
    | none=>true)=true∧(!((xM o).eff&&(xM p).eff)||qPY (Region.before ops) i j)=true:=by
  intro i j o p hij ho hp;have h3:=h (o,i) (aR.2 (by simpa using ho));simp only[zOG,zOJ] at h3;have h4:=h3.2 (p,j) (aR.2 (by simpa using hp));simp only[hij,decide_false,zRF,zOG] at h4;exact⟨h4.1.1,h4.1.2⟩
 refine⟨h1,?_,?_,?_⟩
 ·intro i j o p d hij ho hp hd;have:=(h2 i j o p hij ho hp).1;rw[hd] at this;simp only[zOG,bne_iff_ne,ne_eq] at this;exact this.1
 ·intro i j o p d hij ho hp hd hr;have:=(h2 i j o p hij ho hp).1;rw[hd] at this;simp only[zOG] at this;have:=this.2;have hc:(uE ops p).contains d=true:=List.contains_iff_mem.2 hr;rw[hc] at this;simp only[zSF,zRF] at this
  cases ha:qL o with
  | true=>rw[ha] at this;exact .inl this
  | false =>
    rw[ha] at this;simp only[cond_false,qPY,zPL] at this;rcases this with h | h
    ·exact .inl h
    ·exact .inr ⟨rfl,h⟩
 ·intro i j o p hij ho hp he1 he2;have:=(h2 i j o p hij ho hp).2;have e1:(xM o).eff=true:=he1;have e2:(xM p).eff=true:=he2;rw[e1,e2] at this;simpa [qPY] using this
def eH (ops:Array Oper):List (Oper×Nat):=ops.toList.zipIdx.filter fun q=>(xM q.1).eff
theorem qXZ:∀ (l:List Oper) (n m:Nat),(((l.zipIdx n).filter fun q=>(xM q.1).eff).filter fun q=>decide (q.2 < m)).length=bD (l.take (m - n))
 | [],n,m=>by simp[bD]
 | o::l,n,m=>by
   rw[zRW,zRY];have ih:=qXZ l (n+1) m;by_cases hm:n < m
   ·have e1:m - n=(m - (n+1))+1:=by omega
    rw[e1,zQK,qBG,<-ih];by_cases he:yS o=true
    ·have he':(xM o).eff=true:=he;rw[if_pos he',if_pos he,zRY];simp only[hm,decide_true,if_true,zO4];omega
    ·have he':¬ (xM o).eff=true:=he;rw[if_neg he',if_neg he];omega
   ·have e1:m - n=0:=by omega
    have e2:m - (n+1)=0:=by omega
    rw[e2] at ih;rw[e1];simp only[List.take_zero] at ih ⊢;by_cases he':(xM o).eff=true
    ·rw[if_pos he',zRY];simp only[hm,decide_false,zQX,if_false];exact ih
    ·rw[if_neg he'];exact ih
theorem qQB (ops:Array Oper)(m:Nat):((eH ops).filter fun q=>decide (q.2 < m)).length=bD (ops.toList.take m):=by
 have:=qXZ ops.toList 0 m;simpa [eH] using this
theorem filter_le {α:Type}{l:List α}{p q:α->Bool}(h:∀ a∈l,p a=true->q a=true):(l.filter p).length<=(l.filter q).length:=by
 rw[<-List.countP_eq_length_filter,<-List.countP_eq_length_filter];exact List.countP_mono_left h
theorem qEH {i:Nat}{v:Nat×Nat}:∀ (l:List (Nat×Nat×Nat)),(∀ a∈l,a.1=i->a.2=v)->(∃ a∈l,a.1=i)->qCT i l=some v
 | [],_,⟨a,ha,_⟩=>by cases ha
 | a::l,h,hx=>by
   have hdef:qCT i (a::l)=cond (Nat.beq a.1 i) (some a.2) (qCT i l):=rfl;rw[hdef]
   cases hb:Nat.beq a.1 i with
   | true=>rw[cond_true,h a zON (zOH hb)]
   | false =>
     rw[cond_false];refine qEH l (fun b hb=>h b (zOK _ hb)) ?_;obtain⟨b,hb1,hb2⟩:=hx;rcases zO1.1 hb1 with rfl | hb1
     ·rw[hb2,zSN] at hb;cases hb
     ·exact⟨b,hb1,hb2⟩
def q8P (ops:Array Oper)(j:Nat):Nat:=((eH ops).filter fun q=>vI (Region.before ops) q.2 j).length
def q1O (ops:Array Oper)(j:Nat):Nat:=((eH ops).filter fun q=>!vI (Region.before ops) j q.2).length
theorem qRF (ho:ops[j]?=some o)(hc:xM o=.read)(hne:q8P ops j≠q1O ops j):qCT j (loose ops)=some (q8P ops j,q1O ops j):=by
 refine qEH _ ?_ ?_
 ·intro a ha hj;unfold loose qMG at ha;rw[zQY] at ha;obtain⟨⟨p,k⟩,hp,ha⟩:=ha;simp only at ha;split at ha
  ·cases ha
  ·cases ha;simp only at hj;subst hj;rfl
 ·refine⟨(j,q8P ops j,q1O ops j),?_,rfl⟩;unfold loose qMG;rw[zQY];refine⟨(o,j),List.mem_filter.2 ⟨aR.2 (by simpa using ho),by simpa using hc⟩,?_⟩;exact if_neg hne
theorem qKO {lo hi:Nat}{r:Rec}:∀ (hs:List IH) (m:Nat),gJ P lo hi r hs m=true->∀ k E,hs[k]?=some E->lo<=m+k->m+k<=hi->eU r.v (iop P r.o r.env E)=true
 | [],_,_,k,E,hk,_,_=>by simp at hk
 | h::hs,m,hst,k,E,hk,h1,h2=>by
   have hst':cond (Nat.ble lo m&&Nat.ble m hi) (cond (eU r.v (iop P r.o r.env h)) (gJ P lo hi r hs (m+1)) false) (gJ P lo hi r hs (m+1))=true:=hst
   cases k with
   | zero =>
     simp only[zO9,zOP] at hk;subst hk;have e1:Nat.ble lo m=true:=zOV (by omega);have e2:Nat.ble m hi=true:=zOV (by omega);rw[e1,e2] at hst'
     cases hs:eU r.v (iop P r.o r.env h) with
     | true=>rfl
     | false=>rw[hs] at hst';cases hst'
   | succ k =>
     have hnext:gJ P lo hi r hs (m+1)=true:=by
      cases hc:(Nat.ble lo m&&Nat.ble m hi) with
      | true =>
        rw[hc] at hst'
        cases hs:eU r.v (iop P r.o r.env h) with
        | true=>rw[hs] at hst';exact hst'
        | false=>rw[hs] at hst';cases hst'
      | false=>rw[hc] at hst';exact hst'
     exact qKO hs (m+1) hnext k E (by simpa using hk) (by omega) (by omega)
theorem qM7 {v:Value}{r:Option zE7}(h:eU v r=true):∃ H,r=some (.val v H):=by
 unfold eU at h;split at h
 ·rename_i u H;exact⟨H,by rw[qBA h]⟩
 ·cases h
theorem qE6 {b:Nat}{o:Option Obj}:∀ (hs:List IH) (n:Nat),qBP b o hs n=true->∀ m E,m < n->hs[m]?=some E->E.get b=o
 | [],_,_,m,E,_,hm=>by simp at hm
 | h::hs,0,_,m,E,hlt,_=>by omega
 | h::hs,n+1,hst,m,E,hlt,hm=>by
   have hst':cond (q8R (h.get b) o) (qBP b o hs n) false=true:=hst
   cases hc:q8R (h.get b) o with
   | false=>rw[hc] at hst';cases hst'
   | true =>
     rw[hc] at hst'
     cases m with
     | zero =>
       simp only[zO9,zOP] at hm;subst hm;exact pR hc
     | succ m=>exact qE6 hs n hst' m E (by omega) (by simpa using hm)
theorem qAV {H1:IH}{hs:List IH}:∀ (al:List Nat) (b:Nat),oC H1 hs al b=true->∀ k hi,al[k]?=some hi->∀ m E,m < hi->hs[m]?=some E->E.get (b+k)=H1.get (b+k)
 | [],_,_,k,hi,hk=>by simp at hk
 | a::al,b,h,k,hi,hk=>by
   have h':cond (qBP b (H1.get b) hs a) (oC H1 hs al (b+1)) false=true:=h
   cases hc:qBP b (H1.get b) hs a with
   | false=>rw[hc] at h';cases h'
   | true =>
     rw[hc] at h'
     cases k with
     | zero =>
       simp only[zO9,zOP] at hk;subst hk;exact fun m E hm he=>qE6 hs a hc m E hm he
     | succ k =>
       intro m E hm he;have:=qAV al (b+1) h' k hi (by simpa using hk) m E hm he
       rwa [show b+(k+1)=b+1+k by omega]
theorem qJ5:∀ (l:List Oper) (n i:Nat) (o:Oper),l[i]?=some o->qL o=true->((l.zipIdx n).filter fun p=>qL p.1)[dR (l.take i)]?=some (o,n+i)
 | [],n,i,o,h,_=>by simp at h
 | p::l,n,0,o,h,ha=>by
   simp only[zO9,zOP] at h;subst h;rw[zRW,zRY,if_pos ha];rfl
 | p::l,n,i+1,o,h,ha=>by
   have ih:=qJ5 l (n+1) i o (by simpa using h) ha;rw[zRW,zRY,zQK,aN];by_cases hp:qL p=true
   ·rw[if_pos hp,if_pos hp,zRB 1,zRN,ih];simp;omega
   ·rw[if_neg hp,if_neg hp,zPF,ih];simp;omega
theorem qUU (ho:ops[i]?=some o)(ha:qL o=true):(qE3 ops)[dR (ops.toList.take i)]?=some (q1O ops i):=by
 unfold qE3 qPF;rw[zOX,qJ5 ops.toList 0 i o (by simpa using ho) ha];simp[q1O,eH]
theorem qNE (ho:l[i]?=some o)(ha:qL o=true):dR (l.take i) < dR l:=by
 have e1:l=l.take i++l.drop i:=(zRT i l).symm;have hlt:i < l.length:=(zOO.1 ho).1
 have e2:l.drop i=o::l.drop (i+1):=by
  rw[zRI hlt]
  congr 1
  have:=zOL hlt;rw[ho] at this;simpa using this.symm
 conv=>rhs;rw[e1,e2]
 unfold dR;rw[List.countP_append,zRX,if_pos ha];omega
theorem qVT (ho:l[i]?=some o)(ha:qL o=true)(hij:i < j):dR (l.take i) < dR (l.take j):=by
 have h1:(l.take j)[i]?=some o:=by rw[zP6,if_pos hij];exact ho
 have:=qNE h1 ha
 rwa [zRU,zP7 (by omega)] at this
end Go.Idl
namespace Go.Idl
variable {P:Program}{nat:xC}{B:Nat}
variable {E H:IH}{G:Nat->Bool}{S:Array Bool}{a b env zG5:Env}{f f0:Inj}{i j:Nat}{o:Oper}{q:Oper×Nat->Bool}{t:Tmp}{v:Value}{w w0:World}
structure DR (P:Program) (run:Job->IH->T Out) (nat:xC) (ops:Array Oper) (zE3:Env) (H0:IH) (e1:Env) (H1:IH) (eF:Env) (HF:IH) (hs:List IH) (rs:List Rec):Prop where
 st:Stat ops
 ta:zIF P ops.toList zE3 H0 e1 H1
 tr:Trace P run nat ops (loose ops) ops.toList 0 e1 H1 eF HF hs rs
 stable:∀ r∈rs,qAG P (loose ops) (H1::hs) r=true
 fresh:oC H1 hs (qE3 ops) H0.size=true
theorem zC9 {run:Job->IH->T Out}{ops:Array Oper}{r:Env×IH}(hd:aF ops=true)(h:qQ9 P run nat ops env H=some r) :
 ∃ e1 H1 hs rs,DR P run nat ops env H e1 H1 r.1 r.2 hs rs:=by
 unfold qQ9 at h;split at h
 ·rename_i e1 H1 ha;unfold qMN at h;split at h
  ·rename_i zFH H2 hs rs hD
   cases hst:jZ (qAG P (loose ops) (H1::hs)) rs with
   | false=>rw[hst] at h;cases h
   | true =>
     rw[hst] at h
     cases hf:oC H1 hs (qE3 ops) H.size with
     | false=>rw[hf] at h;cases h
     | true =>
       rw[hf] at h;cases h;exact⟨e1,H1,hs,rs,qNO hd,mJ _ _ _ _ _ ha,gV _ _ _ _ _ _ _ _ hD,fun r hr=>xR.1 hst r hr,hf⟩
  ·cases h
 ·cases h
def sel (S:Array Bool)(j:Nat):Prop:=S.getD j false=true
def wr (ops:Array Oper)(S:Array Bool)(t:Nat):Prop:=∃ j o,ops[j]?=some o∧sel S j∧o.dst=some t
open Classical in
noncomputable def cur (ops:Array Oper)(S:Array Bool)(zE3 eF:Env):Env:=(List.range zE3.length).map fun t=>if wr ops S t then eF.at t else zE3.at t
theorem jK (ops:Array Oper)(S:Array Bool)(zE3 eF:Env):(cur ops S zE3 eF).length=zE3.length:=by simp[cur]
theorem qYC {t:Nat}(h:env.length<=t):env.at t=undef:=by
 simp[Env.at,qF,zPZ h]
open Classical in
theorem qJG {ops:Array Oper}{zE3 eF:Env}(hl:eF.length=zE3.length)(t:Nat):(cur ops S zE3 eF).at t=if wr ops S t then eF.at t else zE3.at t:=by
 by_cases ht:t < zE3.length
 ·simp[cur,Env.at,qF,zSU ht]
 ·rw[qYC (by rw[jK];omega),qYC (by omega),qYC (by omega)];simp
theorem qNA (hl:a.length=b.length)(h:∀ t,a.at t=b.at t):a=b:=by
 apply zP2;intro t;have:=qW0 hl (h t)
 rwa [qF,qF] at this
theorem yP (hj:j < S.size):sel (S.setIfInBounds j true) i ↔ i=j∨sel S i:=by
 unfold sel;by_cases h:i=j
 ·subst h;simp[zOU,hj]
 ·simp only[zOU,zQJ (Ne.symm h),h,false_or]
theorem q26:env.val (.tmp t)=env.at t:=rfl
theorem val_congr {ops:Array Oper}{o:Oper}(h:∀ t∈uE ops o,a.at t=b.at t):∀ x∈o.op.operands,a.val x=b.val x:=by
 intro x hx
 cases x with
 | tmp t =>
   rw[q26,q26];refine h t (zPV _ (zQY.2 ⟨.tmp t,zPW.1 hx,rfl⟩))
 | _=>rfl
theorem qKZ {ops:Array Oper}{o:Oper}(hl:a.length=b.length)(h:∀ t∈uE ops o,a.at t=b.at t):kM ops o a=kM ops o b:=by
 unfold kM;split
 ·rfl
 ·rename_i g want hg;split
  ·rename_i t ht;rw[qW0 hl (h t (zQH _ (by rw[hg];simp[ht])))]
  ·rfl
theorem qD9 {run:Job->IH->T Out}{o:Oper}(h:∀ x∈o.op.operands,a.val x=b.val x):sI P run nat o a H=sI P run nat o b H:=by
 unfold sI;rw[qWF h]
section
variable {run:Job->IH->T Out}{ops:Array Oper}{zE3:Env}{H0:IH}{e1:Env}{H1:IH}{eF:Env}{HF:IH}{hs:List IH}{rs:List Rec}
def Clo (ops:Array Oper)(S:Array Bool):Prop:=∀ i j,vI (Region.before ops) i j=true->sel S j->sel S i
def Cut (ops:Array Oper)(S:Array Bool)(p:Nat):Prop:=∀ (j:Nat) (o:Oper),ops[j]?=some o->yS o=true->(sel S j ↔ j < p)
theorem toL (h:ops[j]?=some o):ops.toList[j]?=some o:=by simpa using h
theorem qAY (d:DR P run nat ops zE3 H0 e1 H1 eF HF hs rs):eF.length=zE3.length:=by rw[d.tr.len,d.ta.len]
theorem agree (d:DR P run nat ops zE3 H0 e1 H1 eF HF hs rs)(zGP:Clo ops S){o:Oper}(ho:ops[j]?=some o)(ha:qL o=false)(hj:¬ sel S j)
 (hp:∀ i,vI (Region.before ops) i j=true->sel S i) (h1:∀ t,¬ writes ops.toList (fun k'=>k' < j) t->zG5.at t=e1.at t) (h2:∀ t,¬ writes ops.toList (fun k'=>j<=k') t->eF.at t=zG5.at t) :
 ∀ t∈uE ops o,(cur ops S zE3 eF).at t=zG5.at t:=by
 intro t ht;rw[qJG (qAY d)];by_cases hw:wr ops S t
 ·rw[if_pos hw];obtain⟨i,oi,hi,hs,hd⟩:=hw;have hij:i≠j:=fun e=>hj (e ▸ hs)
  have hb:vI (Region.before ops) i j=true:=by
   rcases d.st.reads i j oi o t hij hi ho hd ht with h | ⟨_,h⟩
   ·exact h
   ·exact absurd (zGP j i h hs) hj
  have hlt:=vU d.st.back j i hb;refine h2 t ?_;rintro⟨k,p,hk,hp',_,hdp⟩;have hp'':ops[k]?=some p:=by simpa using hp'
  exact d.st.dst i k oi p t (by omega) hi hp'' hd hdp
 ·rw[if_neg hw]
  have hA:¬ qAO ops.toList (fun _=>True) t:=by
   rintro⟨k,p,_,hp',hpa,hdp⟩;have hp'':ops[k]?=some p:=by simpa using hp'
   have hkj:k≠j:=by intro e;subst e;rw[ho] at hp'';cases hp'';rw[ha] at hpa;cases hpa
   rcases d.st.reads k j p o t hkj hp'' ho hdp ht with h | ⟨h,_⟩
   ·exact hw ⟨k,p,hp'',hp k h,hdp⟩
   ·rw[hpa] at h;cases h
  rw[<-d.ta.keep t hA];refine (h1 t ?_).symm;rintro⟨k,p,hk,hp',_,hdp⟩;have hp'':ops[k]?=some p:=by simpa using hp'
  rcases d.st.reads k j p o t (by omega) hp'' ho hdp ht with h | ⟨_,h⟩
  ·exact hw ⟨k,p,hp'',hp k h,hdp⟩
  ·have:=vU d.st.back k j h;omega
theorem qMB (d:DR P run nat ops zE3 H0 e1 H1 eF HF hs rs)(ho:ops[j]?=some o)(hjs:j < S.size)(hv:∀ t,o.dst=some t->t < zE3.length->eF.at t=v) :
 cur ops (S.setIfInBounds j true) zE3 eF=(cur ops S zE3 eF).zFK o.dst v:=by
 apply qNA
 ·rw[fO,jK,jK]
 intro t;rw[qL3,jK,qJG (qAY d),qJG (qAY d)];by_cases hd:o.dst=some t
 ·have hw:wr ops (S.setIfInBounds j true) t:=⟨j,o,ho,(yP hjs).2 (.inl rfl),hd⟩
  rw[if_pos hw];by_cases ht:t < zE3.length
  ·rw[if_pos ⟨hd,ht⟩,hv t hd ht]
  ·rw[if_neg (c:=o.dst=some t∧t < zE3.length) (fun h=>ht h.2),qYC (by rw[qAY d];omega),qYC (by omega)];simp
 ·rw[if_neg (c:=o.dst=some t∧t < zE3.length) (fun h=>hd h.1)]
  have:wr ops (S.setIfInBounds j true) t ↔ wr ops S t:=by
   constructor
   ·rintro⟨i,oi,h1,h2,h3⟩;rcases (yP hjs).1 h2 with rfl | h2
    ·rw[ho] at h1;cases h1;exact absurd h3 hd
    ·exact⟨i,oi,h1,h2,h3⟩
   ·rintro⟨i,oi,h1,h2,h3⟩;exact⟨i,oi,h1,(yP hjs).2 (.inr h2),h3⟩
  by_cases hw:wr ops S t
  ·rw[if_pos hw,if_pos (this.2 hw)]
  ·rw[if_neg hw,if_neg (fun h=>hw (this.1 h))]
theorem qBZ {p:Nat}(h:∀ x∈eH ops,x.2 < p->q x=true):bD (ops.toList.take p)<=((eH ops).filter q).length:=by
 rw[<-qQB];exact filter_le fun a ha hp=>h a ha (by simpa using hp)
theorem qKJ {p:Nat}(h:∀ x∈eH ops,q x=true->x.2 < p):((eH ops).filter q).length<=bD (ops.toList.take p):=by
 rw[<-qQB];exact filter_le fun a ha hp=>by simpa using h a ha hp
theorem qAJ {x:Oper×Nat}(h:x∈eH ops):ops[x.2]?=some x.1∧yS x.1=true:=by
 obtain⟨h1,h2⟩:=List.mem_filter.1 h;exact⟨by have:=aR.1 (show (x.1,x.2)∈ops.toList.zipIdx from h1);simpa using this,h2⟩
theorem q72 (d:DR P run nat ops zE3 H0 e1 H1 eF HF hs rs)(zGP:Clo ops S)(ho:ops[j]?=some o)(he:yS o=true)(hj:¬ sel S j)
 (hp:∀ i,vI (Region.before ops) i j=true->sel S i):∀ (k:Nat) (q:Oper),ops[k]?=some q->yS q=true->(sel S k ↔ k < j):=by
 intro k q hk hq;by_cases hkj:k=j
 ·subst hkj;exact⟨fun h=>absurd h hj,fun h=>absurd h (zRP _)⟩
 ·rcases d.st.zI1 k j q o hkj hk ho hq he with h | h
  ·have:=vU d.st.back j k h;exact⟨fun _=>this,fun _=>hp k h⟩
  ·have:=vU d.st.back k j h;exact⟨fun hs=>absurd (zGP j k h hs) hj,fun hlt=>by omega⟩
theorem qVM {p q:Nat}(h1:Cut ops S p)(h2:Cut ops S q):bD (ops.toList.take p)=bD (ops.toList.take q):=by
 rw[<-qQB,<-qQB]
 congr 1
 refine List.filter_congr fun x hx=>?_
 obtain⟨g1,g2⟩:=qAJ hx;have e1:=h1 _ _ g1 g2;have e2:=h2 _ _ g1 g2;have:(x.2 < p) ↔ (x.2 < q):=e1.symm.trans e2;simp[this]
theorem qL8 (d:DR P run nat ops zE3 H0 e1 H1 eF HF hs rs){p:Nat}(zGP:Clo ops S)(hcut:Cut ops S p)(hE:(H1::hs)[bD (ops.toList.take p)]?=some E)(ho:ops[i]?=some o)
 (ha:qL o=true) (hi:¬ sel S i):E.get (H0.size+dR (ops.toList.take i))=H1.get (H0.size+dR (ops.toList.take i)):=by
 have hle:bD (ops.toList.take p)<=q1O ops i:=qBZ fun x hx hlt=>by
  obtain⟨g1,g2⟩:=qAJ hx;have hs:=(hcut _ _ g1 g2).2 hlt
  cases hb:vI (Region.before ops) i x.2 with
  | false=>rfl
  | true=>exact absurd (zGP i x.2 hb hs) hi
 cases hc:bD (ops.toList.take p) with
 | zero=>rw[hc] at hE;simp at hE;rw[hE]
 | succ m =>
   rw[hc] at hE hle;rw[zRN] at hE;exact qAV (qE3 ops) H0.size d.fresh _ _ (qUU ho ha) m E (by omega) hE
theorem q7E (d:DR P run nat ops zE3 H0 e1 H1 eF HF hs rs){p:Nat}(zGP:Clo ops S)(hcut:Cut ops S p)(hE:(H1::hs)[bD (ops.toList.take p)]?=some E)(ho:ops[j]?=some o)
 (he:yS o=false) (ha:qL o=false) (hj:¬ sel S j) (hp:∀ i,vI (Region.before ops) i j=true->sel S i) {Hj:IH} (hH:(H1::hs)[bD (ops.toList.take j)]?=some Hj)
 (hv:iop P o zG5 Hj=some (.val v Hj)) (hrec:∀ p,qCT j (loose ops)=some p->(⟨j,o,zG5,v⟩:Rec)∈rs):iop P o zG5 E=some (.val v E):=by
 rcases qG6 he ha with hc | hc
 ·obtain⟨u,h1,h2⟩:=qDV hc Hj _ hv;cases h1;exact h2 E
 ·have l1:q8P ops j<=bD (ops.toList.take p):=qKJ fun x hx hb=>by
   obtain⟨g1,g2⟩:=qAJ hx;exact (hcut _ _ g1 g2).1 (hp _ hb)
  have l2:q8P ops j<=bD (ops.toList.take j):=qKJ fun x hx hb=>vU d.st.back _ _ hb
  have u1:bD (ops.toList.take p)<=q1O ops j:=qBZ fun x hx hlt=>by
   obtain⟨g1,g2⟩:=qAJ hx;have hs:=(hcut _ _ g1 g2).2 hlt
   cases hb:vI (Region.before ops) j x.2 with
   | false=>rfl
   | true=>exact absurd (zGP j x.2 hb hs) hj
  have u2:bD (ops.toList.take j)<=q1O ops j:=qBZ fun x hx hlt=>by
   cases hb:vI (Region.before ops) j x.2 with
   | false=>rfl
   | true=>have:=vU d.st.back _ _ hb;omega
  by_cases heq:q8P ops j=q1O ops j
  ·have:bD (ops.toList.take p)=bD (ops.toList.take j):=by omega
   rw[this,hH] at hE;cases hE;exact hv
  ·have hf:=qRF ho hc heq;have hst:=d.stable _ (hrec _ hf);unfold qAG at hst;simp only[hf] at hst;have hsv:=qKO (H1::hs) 0 hst _ E hE (by omega) (by omega);obtain⟨H',hH'⟩:=qM7 hsv;simp only at hH';obtain⟨u,hu⟩:=qKB hc hH';cases hu;exact hH'
def unl (ops:Array Oper)(S:Array Bool):Nat:=(List.range ops.size).countP fun j=>!S.getD j false
theorem qH7 {α:Type}{p q:α->Bool}:∀ (l:List α),(∀ a∈l,p a=true->q a=true)->(∃ a∈l,q a=true∧p a=false)->l.countP p < l.countP q
 | [],_,⟨a,ha,_⟩=>by cases ha
 | b::l,h,⟨a,ha,h1,h2⟩=>by
   rw[zRX,zRX];have hle:l.countP p<=l.countP q:=List.countP_mono_left fun a ha=>h a (zOK _ ha)
   rcases zO1.1 ha with rfl | ha
   ·rw[h1,h2];simp;omega
   ·have:=qH7 l (fun a ha=>h a (zOK _ ha)) ⟨a,ha,h1,h2⟩;by_cases hb:p b=true
    ·rw[if_pos hb,if_pos (h b zON hb)];omega
    ·rw[if_neg hb];omega
theorem qLS (hj:j < ops.size)(hs:S.size=ops.size)(hn:¬ sel S j):unl ops (S.setIfInBounds j true) < unl ops S:=by
 refine qH7 _ ?_ ⟨j,zQZ.2 hj,?_,?_⟩
 ·intro i _ h;simp only[zO3] at h ⊢
  cases hi:S.getD i false with
  | false=>rfl
  | true =>
    have:=(yP (S:=S) (j:=j) (i:=i) (by omega)).2 (.inr hi);unfold sel at this;rw[h] at this;cases this
 ·simp only[zO3]
  cases hi:S.getD j false with
  | false=>rfl
  | true=>exact absurd hi hn
 ·have:=(yP (S:=S) (j:=j) (i:=j) (by omega)).2 (.inl rfl);unfold sel at this;rw[this];rfl
structure Stand (P:Program) (B:Nat) (ops:Array Oper) (zE3:Env) (H0:IH) (H1:IH) (eF:Env) (hs:List IH) (f0:Inj) (w0:World) (S:Array Bool) (a:Act) (w:World) (p:Nat) (E:IH) (f:Inj):Prop where
 size:S.size=ops.size
 clo:Clo ops S
 cut:Cut ops S p
 heap:(H1::hs)[bD (ops.toList.take p)]?=some E
 rel:Rel P f E w
 grow:Grow f0 H0 w0 f H0 w
 env:qE P f (cur ops S zE3 eF) a.tmps.toList
 marks:Marks B f w a.defers
 zFX:H1.size<=E.size
 un:∀ i o,ops[i]?=some o->qL o=true->¬ sel S i->f (H0.size+dR (ops.toList.take i))=none
theorem Grow.at {f':Inj}{H' H0:IH}{w':World}(h:Grow f H w f' H' w')(h0:H0.size<=H.size):Grow f H0 w f' H0 w' :=
 ⟨zOI _,fun b hb hn=>h.stay b (zOM hb h0) hn,h.le,h.size,h.keep,h.un,h.out,h.lps⟩
theorem qL9 (hjs:j < S.size)(zGP:Clo ops S)(hp:∀ i,vI (Region.before ops) i j=true->sel S i):Clo ops (S.setIfInBounds j true):=by
 intro i k hb hk;rw[yP hjs] at hk ⊢;rcases hk with rfl | hk
 ·exact .inr (hp i hb)
 ·exact .inr (zGP i k hb hk)
theorem qRT {l:List Oper}(h:l[j]?=some o):l.take (j+1)=l.take j++[o]:=by
 rw[List.take_add_one,h];rfl
theorem qS9 (h:ops[j]?=some o)(he:yS o=true):bD (ops.toList.take (j+1))=bD (ops.toList.take j)+1:=by
 rw[qRT (toL h)];unfold bD;rw[List.countP_append,List.countP_singleton,if_pos he]
theorem qIB (d:DR P run nat ops zE3 H0 e1 H1 eF HF hs rs)(ho:ops[j]?=some o)(hd:o.dst=some t):¬ writes ops.toList (fun k=>j < k) t:=by
 rintro⟨k,p,hk,hp,_,hdp⟩;exact d.st.dst j k o p t (by omega) ho (by simpa using hp) hd hdp
theorem Stand.done (d:DR P run nat ops zE3 H0 e1 H1 eF HF hs rs){a:Act}{p:Nat}(s:Stand P B ops zE3 H0 H1 eF hs f0 w0 S a w p E f)(hall:∀ j,j < ops.size->sel S j) :
 jE P B f0 H0 w0 (fun o=>o=⟨.normal,eF,HF⟩) .normal a w:=by
 have hcut:Cut ops S ops.size:=fun j o ho _=>⟨fun _=>(zOT.1 ho).1,fun h=>hall j h⟩
 have hc:=qVM s.cut hcut
 have hfull:ops.toList.take ops.size=ops.toList:=by
  apply zO5;simp
 rw[hfull] at hc
 have hE:E=HF:=by
  have h1:=s.heap;rw[hc,d.tr.last] at h1;cases h1;rfl
 subst hE
 have hcur:cur ops S zE3 eF=eF:=by
  apply qNA
  ·rw[jK,qAY d]
  intro t;rw[qJG (qAY d)];by_cases hw:wr ops S t
  ·rw[if_pos hw]
  ·rw[if_neg hw];have hn:∀ (k:Nat) (o:Oper),ops[k]?=some o->o.dst≠some t:=fun k o hk hd=>hw ⟨k,o,hk,hall k (zOT.1 hk).1,hd⟩
   rw[d.tr.keep t,d.ta.keep t]
   ·rintro⟨k,o,_,h2,_,h4⟩;exact hn k o (by simpa using h2) h4
   ·rintro⟨k,o,_,h2,_,h4⟩;exact hn k o (by simpa using h2) h4
 have h0:H0.size<=E.size:=zO7 (by rw[d.ta.size];omega) s.zFX;exact⟨⟨.normal,eF,E⟩,f,rfl,rfl,s.rel,s.grow.sizes (zOI _) h0,hcur ▸ s.env,s.marks⟩
theorem qTP {F:Fence}(hF:aW F)(hc:kI P G (yK run nat))(hr:jA P G run)(d:DR P run nat ops zE3 H0 e1 H1 eF HF hs rs)(hG:uX G f0)(hok:uY (zA f0) ops=true) :
 ∀ (fuel:Nat) (S:Array Bool) (a:Act) (w:World),unl ops S<=fuel->(∃ p E f,Stand P B ops zE3 H0 H1 eF hs f0 w0 S a w p E f) ->
  wpAnyIn F 0 P .any ops (jE P B f0 H0 w0 fun o=>o=⟨.normal,eF,HF⟩) fuel S a w:=by
 intro fuel
 have zFS:∀ {S:Array Bool},S.size=ops.size->Region.ready .any ops S=[]->∀ j,j < ops.size->sel S j:=by
  intro S hsz hr j
  induction j using Nat.strongRecOn with
  | _ j ih =>
    intro hj;by_cases hs:sel S j
    ·exact hs
    ·exfalso
     have:j∈Region.ready .any ops S:=by
      rw[mem_ready];refine⟨?_,ops[j],by simp[hj],fun e he hb=>?_⟩
      ·unfold sel at hs;rw[zOU] at hs ⊢;rw[zOY (by omega)] at hs ⊢;simpa using hs
      ·have hlt:=d.st.back j ops[j] (by simp[hj]) e he hb;exact ih e.on hlt (by omega)
     rw[hr] at this;cases this
 induction fuel with
 | zero =>
   rintro S a w hu ⟨p,E,f,s⟩
   have hall:∀ j,j < ops.size->sel S j:=by
    intro j hj;have hz:unl ops S=0:=by omega
    unfold unl at hz;have:=zR3.1 hz j (zQZ.2 hj);unfold sel;simpa using this
   refine⟨?_,s.done d hall⟩
   cases hrd:Region.ready .any ops S with
   | nil=>rfl
   | cons x l =>
     have hx:x∈Region.ready .any ops S:=by rw[hrd];exact zON
     rw[mem_ready] at hx;obtain⟨h1,o,ho,_⟩:=hx;have hlt:=(zOT.1 ho).1;have:=hall x hlt;unfold sel at this;rw[zOU,zOY (by rw[s.size];exact hlt)] at h1 this;simp only[zQL] at h1 this;rw[h1] at this;cases this
 | succ fuel ih =>
   rintro S a w hu ⟨p,E,f,s⟩;refine⟨fun hrd=>s.done d (zFS s.size hrd),fun j hj=>?_⟩;rw[mem_ready] at hj;obtain⟨hjl,o,ho,zHC⟩:=hj;have hlt:=(zOT.1 ho).1;have hjs:j < S.size:=by rw[s.size];exact hlt
   have hnj:¬ sel S j:=by
    unfold sel;rw[zOU,zOY hjs] at hjl ⊢;simp only[zQL] at hjl ⊢;rw[hjl];simp
   have hp:∀ i,vI (Region.before ops) i j=true->sel S i:=by
    intro i hb;obtain⟨e,he,hbd,h3⟩:=(qG4 d.st.back ho).1 hb;have:=zHC e he hbd;rcases h3 with rfl | h3
    ·exact this
    ·exact s.clo _ _ h3 this
   have hu':unl ops (S.setIfInBounds j true)<=fuel:=by
    have:=qLS hlt s.size hnj;omega
   have hH0:H0.size<=E.size:=zO7 (by rw[d.ta.size];omega) s.zFX;have zGD:=qL9 hjs s.clo hp
   have hok':o.op.operands.toList.all (kV (zA f))=true:=by
    have h1:=kP (zI s.grow.le) hok;unfold uY at h1;exact zOJ.1 h1 o (zPW.1 (Array.mem_of_getElem? ho))
   have hG':uX G f:=hG.mono s.grow.le;unfold wpOpIn;simp only[ho]
   cases hal:qL o with
   | true =>
     obtain⟨elem,hop,hguard⟩:=qIK hal;obtain⟨elem',z,hop',hz,hcell,hval⟩:=d.ta.step j o (toL ho) hal;rw[hop] at hop';cases hop';obtain⟨hz0,hplain⟩:=jP hz;have hwant:Region.wanted o (yielded ops a.tmps)=true:=by unfold Region.wanted;rw[hguard]
     rw[hwant,if_pos rfl]
     have hb:H0.size+dR (ops.toList.take j) < E.size:=by
      have h1:=qNE (toL ho) hal;have h2:=d.ta.size;have h3:=s.zFX;omega
     have hcells:E.get (H0.size+dR (ops.toList.take j))=some (.cells z.cells elem):=by
      rw[qL8 d s.clo s.cut s.heap ho hal hnj];exact hcell
     have hun:=s.un j o ho hal hnj;obtain⟨r1,r2⟩:=s.rel.zJ8 hb hun hcells hplain;refine⟨fun g _=>hF.fn g,?_⟩
     have zJ3:o.semAt F.round a.eval=execOp a.eval o:=by
      cases F.round with
      | none=>rfl
      | some l=>exact Oper.semAt_some l _ _ (fun c hc=>by rw[hop] at hc;cases hc)
     have hrun:(execOp a.eval o).run P w=.ok (.value (.pointer (some ⟨w.heap.size,0,none⟩))) (w.alloc (.cells z.cells elem)):=by
      unfold execOp;rw[hop];simp[Instr.alloc,wW hz0,newVar,newRow]
     rw[zJ3,hrun];show wpAnyIn F 0 P .any ops _ fuel (S.setIfInBounds j true) (a.put o.dst (.pointer (some ⟨w.heap.size,0,none⟩))) (w.alloc (.cells z.cells elem));refine ih _ _ _ hu' ⟨p,E,f.add (H0.size+dR (ops.toList.take j)) ⟨w.heap.size,0,z.cells.size,false⟩,?_⟩;have hg1:=r2 H0 (by omega);refine⟨by simp[s.size],zGD,?_,s.heap,r1,s.grow.trans hg1,?_,?_,s.zFX,?_⟩
     ·intro k q hk hq;rw[yP hjs];have hkj:k≠j:=by intro e;subst e;rw[ho] at hk;cases hk;rw[nW hal] at hq;cases hq
      simp only[hkj,false_or];exact s.cut k q hk hq
     ·rw[qMB d (v:=.pointer (some ⟨H0.size+dR (ops.toList.take j),0,none⟩)) ho hjs]
      ·refine kY (s.env.mono hg1.le) ?_ _;have:=zE0.ptr (P:=P) (o:=0) (Inj.add_same (f:=f) (b:=H0.size+dR (ops.toList.take j)) (e:=⟨w.heap.size,0,z.cells.size,false⟩));exact this
      ·intro t hd ht;rw[d.tr.keep t,hval t hd ht]
       ·rintro⟨k,q,hk,hq,_,hdq⟩;exact d.st.dst j k o q t (by omega) ho (by simpa using hq) hd hdq
       ·rintro⟨k,q,_,hq,hqa,hdq⟩;have hq':ops[k]?=some q:=by simpa using hq
        have hkj:j≠k:=by intro e;subst e;rw[ho] at hq';cases hq';rw[hal] at hqa;cases hqa
        exact d.st.dst j k o q t hkj ho hq' hd hdq
     ·rw[put_defers];exact Marks.grow hg1 _ s.marks
     ·intro i q hi hq hni;rw[yP hjs] at hni;have hij:i≠j:=fun e=>hni (.inl e)
      have hne:H0.size+dR (ops.toList.take i)≠H0.size+dR (ops.toList.take j):=by
       rcases Nat.lt_or_gt_of_ne hij with h | h
       ·have:=qVT (toL hi) hq h;omega
       ·have:=qVT (toL ho) hal h;omega
      rw[Inj.zE1 hne];exact s.un i q hi hq (fun h=>hni (.inr h))
   | false =>
     obtain⟨zG5,Hj,b1,b2,b3,b4,b5⟩:=d.tr.step j o (toL ho) hal;rw[zPF] at b5;have hag:=agree d s.clo ho hal hnj hp b2 b3;have hlen:(cur ops S zE3 eF).length=zG5.length:=by rw[jK,b1,d.ta.len]
     have hle':zG5.length=zE3.length:=by rw[b1,d.ta.len]
     have hval:=val_congr hag;have hwc:=qKZ hlen hag
     -- the cut behind the operation,and the heap there
     have zGY:yS o=true->Cut ops S j:=fun he=>q72 d s.clo ho he hnj hp
     have hEj:yS o=true->E=Hj:=fun he=>by
      have h1:=s.heap;rw[qVM s.cut (zGY he),b4] at h1;cases h1;rfl
     have cut':∀ (E':IH),(yS o=true->(H1::hs)[bD (ops.toList.take j)+1]?=some E')->(yS o=false->E'=E) ->
      ∃ p',Cut ops (S.setIfInBounds j true) p'∧(H1::hs)[bD (ops.toList.take p')]?=some E':=by
      intro E' h1 h2
      cases he:yS o with
      | true =>
        refine⟨j+1,?_,by rw[qS9 ho he];exact h1 he⟩;intro k q hk hq;rw[yP hjs,zGY he k q hk hq];omega
      | false =>
        refine⟨p,?_,by rw[h2 he];exact s.heap⟩;intro k q hk hq;rw[yP hjs];have hkj:k≠j:=by intro e;subst e;rw[ho] at hk;cases hk;rw[he] at hq;cases hq
        simp only[hkj,false_or];exact s.cut k q hk hq
     have un':∀ (f':Inj),(∀ b,b < E.size->f b=none->f' b=none)->∀ i q,ops[i]?=some q->qL q=true->¬ sel (S.setIfInBounds j true) i->f' (H0.size+dR (ops.toList.take i))=none:=by
      intro f' hst i q hi hq hni;rw[yP hjs] at hni;have h1:=qNE (toL hi) hq;have h2:=d.ta.size;have h3:=s.zFX;exact hst _ (by omega) (s.un i q hi hq (fun h=>hni (.inr h)))
     rcases b5.out with ⟨c1,c2,c3⟩ | ⟨c1,v,H',c2,c3,c4,c5,c6⟩
     ·rw[<-hwc] at c1;rw[xA s.env c1,if_neg (by simp)];refine⟨fun g _=>hF.fn g,ih _ _ _ hu' ?_⟩;obtain⟨p',k1,k2⟩:=cut' E (fun he=>by rw[hEj he];exact c3 he) (fun _=>rfl);refine⟨p',E,f,by simp[s.size],zGD,k1,k2,s.rel,s.grow,?_,by rw[put_defers];exact s.marks,s.zFX,un' f fun _ _ h=>h⟩;rw[qMB d ho hjs (v:=undef) fun t hd ht=>c2 t hd (Nat.lt_of_lt_of_eq ht hle'.symm) (qIB d ho hd)];exact kY s.env .undef _
     ·rw[<-hwc] at c1;rw[xA s.env c1,if_pos rfl]
      have hrun:∃ E',sI P run nat o (cur ops S zE3 eF) E=.ret (v,E')∧(yS o=true->E'=H')∧(yS o=false->E'=E):=by
       cases he:yS o with
       | true=>exact⟨H',by rw[qD9 hval,hEj he];exact c2,fun _=>rfl,fun h=>absurd h (by simp)⟩
       | false =>
         obtain⟨g1,g2⟩:=qJH he hal c2;simp only at g1 g2;have:=q7E d s.clo s.cut s.heap ho he hal hnj hp b4 g2 c6;exact⟨E,by rw[qD9 hval];exact q2P this,fun h=>absurd h (by simp),fun _=>rfl⟩
      obtain⟨E',q1,q2,q3⟩:=hrun;refine vY (Q:=fun r=>r=(v,E')) hF hc hr s.rel hG' s.env hok' (by rw[q1];rfl) ?_;rintro r v' w' f' rfl k1 k2 k3;refine ih _ _ _ hu' ?_;obtain⟨p',m1,m2⟩:=cut' E' (fun he=>by rw[q2 he];exact c4 he) q3;refine⟨p',E',f',by simp[s.size],zGD,m1,m2,k1,s.grow.trans (k2.at hH0),?_,by rw[put_defers];exact Marks.grow k2 _ s.marks,zO7 s.zFX k2.zFX,un' f' k2.stay⟩;rw[qMB d ho hjs (v:=v) fun t hd ht=>c3 t hd (Nat.lt_of_lt_of_eq ht hle'.symm) (qIB d ho hd)];exact kY (s.env.mono k2.le) k3 _
theorem qEC (zMA:P.follows .mixedOrders=true)(hc:kI P G (yK run nat))(hr:jA P G run):qG2 P G nat run:=by
 intro B F id ops env H f a w r hF hR hG hok hdr zE6 hm h;obtain⟨e1,H1,hs,rs,d⟩:=zC9 hdr h;refine wpIn_region_any zMA (qTP hF hc hr d hG hok _ _ _ _ ?_ ⟨0,H1,f,?_⟩)
 ·unfold unl;have:=zSL (p:=fun j=>!(Array.replicate ops.size false).getD j false) (l:=List.range ops.size);simpa using this
 ·have hsel:∀ i,¬ sel (Array.replicate ops.size false) i:=by
   intro i h;unfold sel at h;rw[zOU,zR7] at h;split at h <;> simp at h
  have hcur:cur ops (Array.replicate ops.size false) env r.1=env:=by
   apply qNA (jK _ _ _ _);intro t;rw[qJG (qAY d),if_neg];rintro⟨j,o,_,h2,_⟩;exact hsel j h2
  have hw:Grow f H w f H { w with drawn:=w.drawn+1 }:=Grow.world rfl;refine⟨by simp,fun i j _ hj=>absurd hj (hsel j),fun j o _ _=>⟨fun h=>absurd h (hsel j),fun h=>by omega⟩,?_,(d.ta.rel f w hR).world rfl,hw,by rw[hcur];exact zE6,Marks.grow hw _ hm,zOI _,?_⟩
  ·simp[bD]
  ·intro i o ho ha _
   cases hx:f (H.size+dR (ops.toList.take i)) with
   | none=>rfl
   | some y=>have:=hR.dom _ _ hx;omega
end
end Go.Idl
