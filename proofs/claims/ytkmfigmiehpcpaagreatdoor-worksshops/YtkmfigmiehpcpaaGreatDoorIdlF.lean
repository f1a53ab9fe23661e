/- Trees of choices, what a run writes, operations in a frame, code, calls, rounds, drawn regions: an ideal run is a run of the model. Conditions: none. -/
import Derived.Test.YtkmfigmiehpcpaaGreatDoorIdlD
import Derived.TacticsIn
import Derived.RangeFuncRecord
import Derived.Test.YtkmfigmiehpcpaaGreatDoorIdlA
import Derived.OrdersIn
set_option linter.all false
namespace Go.Idl
variable {H:IH}{P:Program}{as:List Value}{c:Call}{env:Env}{o:Oper}{ts:Array TypeId}
def T.holds {α:Type}(Q:α->Prop)(t:T α):Prop:=T.rec False (fun a=>Q a) (fun n _ ih=>∀ i,i < n->ih i) (fun p _ ih=>∀ r,p r->ih r) t
def T.all {α:Type}(Q:α->Prop)(t:T α):Prop:=T.rec True (fun a=>Q a) (fun n _ ih=>∀ i,i < n->ih i) (fun _ _ _=>True) t
theorem T.zEQ {α:Type}{Q R:α->Prop}(h:∀ a,Q a->R a):∀ (t:T α),t.holds Q->t.holds R
 | .fail,hq=>hq
 | .ret a,hq=>h a hq
 | .ch n k,hq=>fun i hi=>T.zEQ h (k i) (hq i hi)
 | .sp p k,hq=>fun r hr=>T.zEQ h (k r) (hq r hr)
theorem T.zFD {α:Type}{Q R:α->Prop}(h:∀ a,Q a->R a):∀ (t:T α),t.all Q->t.all R
 | .fail,_=>trivial
 | .ret a,hq=>h a hq
 | .ch n k,hq=>fun i hi=>T.zFD h (k i) (hq i hi)
 | .sp _ _,_=>trivial
theorem T.zEP {α β:Type}{g:α->T β}{Q:β->Prop}:∀ (t:T α),(t.bind g).holds Q ↔ t.holds fun a=>(g a).holds Q
 | .fail=>Iff.rfl
 | .ret a=>Iff.rfl
 | .ch n k=>by
   constructor
   ·intro h i hi;exact (T.zEP (k i)).1 (h i hi)
   ·intro h i hi;exact (T.zEP (k i)).2 (h i hi)
 | .sp p k=>by
   constructor
   ·intro h i hi;exact (T.zEP (k i)).1 (h i hi)
   ·intro h i hi;exact (T.zEP (k i)).2 (h i hi)
theorem T.all_bind {α β:Type}{g:α->T β}{Q:β->Prop}:∀ (t:T α),(t.bind g).all Q ↔ t.all fun a=>(g a).all Q
 | .fail=>Iff.rfl
 | .ret a=>Iff.rfl
 | .ch n k=>by
   constructor
   ·intro h i hi;exact (T.all_bind (k i)).1 (h i hi)
   ·intro h i hi;exact (T.all_bind (k i)).2 (h i hi)
 | .sp _ _=>Iff.rfl
theorem q1O {α β:Type}(g:α->Option β):∀ (l:List α) (r:List β),l.mapM g=some r->∀ (i:Nat) a,l[i]?=some a->∃ b,r[i]?=some b∧g a=some b:=by
 intro l r h i a ha;have:=qE9 g l r h;have h1:=congrArg (fun l=>l[i]?) this;simp only[zN9,ha,zN8] at h1
 cases hb:r[i]? with
 | none=>rw[hb] at h1;cases h1
 | some b=>rw[hb] at h1;simp at h1;exact⟨b,rfl,h1⟩
theorem T.zFH {α:Type}{Q:α->Prop}:∀ (t:T α) (l:List α),t.leaves=some l->((∀ a∈l,Q a)->t.holds Q)∧(t.all Q->∀ a∈l,Q a)
 | .fail,l,h=>by simp[T.leaves] at h
 | .sp _ _,l,h=>by simp[T.leaves] at h
 | .ret a,l,h=>by
   simp[T.leaves] at h;subst h;exact⟨fun h=>h a (by simp),fun h b hb=>by simp at hb;subst hb;exact h⟩
 | .ch n k,l,h=>by
   simp only[T.leaves,zN4] at h;obtain⟨ls,h1,rfl⟩:=h;have h2:∀ i,i < n->∃ b,ls[i]?=some b∧(k i).leaves=some b:=fun i hi=>q1O _ _ _ h1 i i (by simp[hi])
   constructor
   ·intro hq i hi;obtain⟨b,hb,hl⟩:=h2 i hi;exact ((k i).zFH b hl).1 fun a ha=>hq a (zQY.2 ⟨b,zOX hb,ha⟩)
   ·intro hall a ha;obtain⟨b,hb,hab⟩:=zQY.1 ha;obtain⟨i,hi⟩:=List.mem_iff_getElem?.1 hb
    have hlen:ls.length=n:=by
     have:=congrArg List.length (qE9 _ _ _ h1);simpa using this.symm
    have hin:i < n:=by rw[<-hlen];exact (zN0.1 hi).1
    obtain⟨b',hb',hl⟩:=h2 i hin;rw[hi] at hb';cases hb';exact ((k i).zFH b hl).2 (hall i hin) a hab
structure Ext (H H':IH):Prop where
 size:H.size<=H'.size
 log:∃ l,H'.log=l++H.log∧∀ b,b < H.size->b ∉ l->H'.get b=H.get b
theorem Ext.refl (H:IH):Ext H H:=⟨zNV _,[],rfl,fun _ _ _=>rfl⟩
theorem Ext.trans {H1 H2:IH}(a:Ext H H1)(b:Ext H1 H2):Ext H H2:=by
 obtain⟨s1,l1,h1,g1⟩:=a;obtain⟨s2,l2,h2,g2⟩:=b;refine⟨zOH s1 s2,l2++l1,by rw[h2,h1,zOT],fun x hx hn=>?_⟩;simp only[zOZ,not_or] at hn;rw[g2 x (zNY hx s1) hn.1,g1 x hx hn.2]
theorem Ext.put (H:IH)(b:Nat)(o:Obj):Ext H (H.put b o) :=
 ⟨zNV _,[b],rfl,fun x _ hn=>by rw[IH.get_put,if_neg (by simpa using hn)]⟩
theorem Ext.push (H:IH)(o:Obj):Ext H (H.push o) :=
 ⟨by simp,[],rfl,fun x hx _=>by rw[IH.zEO,if_neg (by omega)]⟩
theorem Ext.stores {H H':IH}{b i:Nat}{vs:List Value}(h:H.stores b i vs=some H'):Ext H H':=by
 unfold IH.stores at h;split at h
 ·split at h
  ·cases h;exact .put _ _ _
  ·cases h
 ·cases h
def qYT (H:IH):zEM->Prop
 | .val _ H'=>Ext H H'
 | .enter _ _ H'=>H'=H
 | .round _ _ H'=>H'=H
 | .choice n k=>∀ i,i < n->∀ v H',k i=some (v,H')->Ext H H'
theorem qL8 {s:zEM}(h:uQ P ts as H=some s):qYT H s:=by
 unfold uQ wE at h
 repeat' split at h
 all_goals first | (cases h;done) | skip
 ·unfold qLI at h
  repeat' split at h
  all_goals first | (cases h;exact .refl _) | (rename_i hst;cases h;exact .stores hst) | cases h
 ·unfold qRC at h;split at h
  ·split at h
   ·rename_i old H2 _ hk;cases h;refine .trans ?_ (.push _ _);unfold qJ1 at hk
    repeat' split at hk
    all_goals first | (cases hk;exact .refl _) | (cases hk;exact .put _ _ _) | cases hk
   ·cases h
  ·cases h
theorem qV4 {s:zEM}(h:qC8 P ts as H=some s):qYT H s:=by
 unfold qC8 uK at h
 repeat' split at h
 all_goals first | (cases h;exact .refl _) | (rename_i hst;cases h;exact .stores hst) | cases h
theorem qH5 {b:Builtin}{s:zEM}(h:yK P b c as H=some s):qYT H s:=by
 unfold yK at h;split at h
 ·exact qL8 h
 ·exact qV4 h
 ·unfold oV at h
  repeat' split at h
  all_goals first | (cases h;exact .refl _) | cases h
 ·repeat' split at h
  all_goals first | (cases h;exact .refl _) | cases h
 ·unfold xX at h
  repeat' split at h
  all_goals first | (cases h;exact .refl _) | (cases h;exact .put _ _ _) | cases h
 ·cases h
theorem fD {s:zEM}(h:kL P o env H=some s):qYT H s:=by
 obtain⟨v,rfl,_⟩:=qGC h;exact .refl _
theorem qXP {s:zEM}(h:yL P o c env H=some s):qYT H s:=by
 unfold yL at h;split at h
 ·rename_i r hr;cases h;unfold gY at hr;simp only at hr;split at hr
  ·exact qH5 hr
  ·cases hr
  ·repeat' split at hr
   all_goals first | (cases hr;rfl) | (cases hr;exact .refl _) | cases hr
 ·exact fD h
theorem qQS {r:Option IH}{s:zEM}(h:qLO r=some s)(hr:∀ H',r=some H'->Ext H H'):qYT H s:=by
 cases r with
 | none=>cases h
 | some H2=>cases h;exact hr H2 rfl
theorem qE4 {r:Option Value}{s:zEM}(h:zEM.ofO H r=some s):qYT H s:=by
 obtain⟨v,rfl,_⟩:=fP h;exact .refl _
theorem qEZ {op:BinOp}{t:TypeId}{x y:Value}{s:zEM}(h:zET P o op t x y env H=some s):qYT H s:=by
 unfold zET at h
 repeat' split at h
 all_goals first | (cases h;exact .refl _) | exact fD h
theorem qAN {s:zEM}(h:iop P o env H=some s):qYT H s:=by
 unfold iop at h
 split at h <;> first
  | exact qE4 h
  | exact fD h
  | exact qXP h
  | (cases h;exact .refl _)
  | (cases h;done)
  | skip
 ·unfold qLY at h;split at h <;> cases h;exact .refl _
 ·unfold rY at h;split at h <;> cases h;exact .push _ _
 ·unfold q5J at h;split at h <;> cases h;exact .push _ _
 ·unfold kN at h
  repeat' split at h
  all_goals first | (cases h;exact .push _ _) | cases h
 ·refine qQS h fun H' h'=>?_
  unfold fM at h'
  repeat' split at h'
  all_goals first | exact .stores h' | cases h'
 ·unfold wN at h
  repeat' split at h
  all_goals first | (cases h;exact .refl _) | cases h
 ·unfold yX at h;split at h
  ·split at h
   ·unfold zE6 at h;rw[cond_eq_ite] at h
    repeat' split at h
    all_goals first | (cases h;exact .refl _) | exact fD h
   ·exact qEZ h
  ·exact qEZ h
 ·unfold fF at h;split at h
  ·exact qE4 h
  ·exact fD h
 ·unfold wQ at h;split at h <;> cases h;exact .refl _
 ·unfold dL at h;split at h <;> cases h;exact .push _ _
 ·unfold jW at h
  repeat' split at h
  all_goals first | (cases h;exact .push _ _) | cases h
 ·unfold uL at h;split at h
  ·exact fD h
  ·exact qE4 h
 ·unfold uJ at h;split at h
  ·exact fD h
  ·exact qE4 h
 ·refine qQS h fun H' h'=>?_
  unfold jT at h'
  repeat' split at h'
  all_goals first | (cases h';exact .put _ _ _) | cases h'
 ·unfold gX at h;split at h
  ·unfold wK at h;split at h
   ·rw[cond_eq_ite] at h;split at h
    ·cases h;exact .refl _
    ·cases h
   ·cases h
  ·cases h
end Go.Idl
namespace Go.Idl
theorem qQ9 (n:Nat):∀ v w,q98 n v w=true->v=w:=by
 induction n with
 | zero=>intro v w h;exact absurd h (by show ¬ (false=true);simp)
 | succ n ih =>
   intro v w h;have hl:∀ (a b:Array Value),eqL (q98 n) a.toList b.toList=true->a=b:=fun a b hab=>zPH (oJ ih hab)
   have hs:∀ (a b:ByteArray),eqL (·==·) a.data.toList b.data.toList=true->a=b:=fun a b hab=>by
    have:=oJ (fun x y (h:(x==y)=true)=>by simpa using h) hab;cases a;cases b;simp only at this;congr 1;exact zPH this
   cases v <;> cases w <;> first | (exact absurd h (by show ¬ (false=true);simp)) | skip
   case bool.bool a b=>have h':(a==b)=true:=h;simp at h';rw[h']
   case int.int k a k' b=>have h':(k==k'&&a==b)=true:=h;simp at h';rw[h'.1,h'.2]
   case string.string a b=>rw[hs a b h]
   case pointer.pointer a b=>have h':(a==b)=true:=h;simp at h';rw[h']
   case slice.slice a l c a' l' c'=>have h':(a==a'&&(l==l'&&c==c'))=true:=h;simp at h';rw[h'.1,h'.2.1,h'.2.2]
   case map.map a b=>have h':(a==b)=true:=h;simp at h';rw[h']
   case func.func f a b f' a' b' =>
    have h':(f==f'&&(eqL (q98 n) a.toList a'.toList&&eqL (q98 n) b.toList b'.toList))=true:=h;simp only[zNT,beq_iff_eq] at h';rw[h'.1,hl _ _ h'.2.1,hl _ _ h'.2.2]
   case nilFunc.nilFunc=>rfl
   case nilIface.nilIface=>rfl
   case agg.agg a b=>rw[hl _ _ h]
   case tuple.tuple a b=>rw[hl _ _ h]
theorem qBX {v w:Value}(h:veq v w=true):v=w:=qQ9 4 v w h
theorem bO {l m:List Value}(h:q8T l m=true):l=m:=oJ (fun _ _=>qBX) h
theorem qNF {es es':Array MapEntry}(hk:es.toList.map (·.key)=es'.toList.map (·.key))(hv:es.toList.map (·.val)=es'.toList.map (·.val))(hb:es.toList.map (·.born)=es'.toList.map (·.born)):es=es':=by
 have key:∀ (l l':List MapEntry),l.map (·.key)=l'.map (·.key)->l.map (·.val)=l'.map (·.val)->l.map (·.born)=l'.map (·.born)->l=l':=by
  intro l
  induction l with
  | nil=>intro l' h _ _;cases l' with
    | nil=>rfl
    | cons a b=>simp at h
  | cons a l ih=>intro l' h1 h2 h3;cases l' with
    | nil=>simp at h1
    | cons b l' =>
      simp only[zOC,zOQ] at h1 h2 h3;rw[ih l' h1.2 h2.2 h3.2];cases a;cases b;simp only at h1 h2 h3;rw[h1.1,h2.1,h3.1]
 exact zPH (key _ _ hk hv hb)
theorem qW1 {o o':Obj}(h:oeq o o'=true):o=o':=by
 unfold oeq at h;split at h
 ·simp only[zNT,beq_iff_eq] at h;rw[zPH (bO h.1.1),h.1.2,h.2]
 ·simp only[zNT,beq_iff_eq] at h;rw[zPH (bO h.1),h.2]
 ·simp only[zNT,beq_iff_eq] at h;rename_i s p s' p';have:=oJ (fun x y (h:(x==y)=true)=>by simpa using h) h.1;rw[h.2];cases s;cases s';simp only at this;rw[zPH this]
 ·simp only[zNT,beq_iff_eq] at h;rw[h.1.1.1,h.1.1.2,zPH h.1.2,h.2]
 ·simp only[zNT,beq_iff_eq] at h;rw[h.1.1.1,qNF (bO h.1.1.2) (bO h.1.2) h.2]
 ·cases h
theorem p8 {o o':Option Obj}(h:q71 o o'=true):o=o':=by
 unfold q71 at h;split at h
 ·rfl
 ·rw[qW1 h]
 ·cases h
structure Sub (H0:IH) (p o:Out):Prop where
 e:o.e=p.e
 env:∀ (P:Program) (f:Inj) (l:List Value),qE P f p.env l->qE P f o.env l
 rel:∀ (P:Program) (f:Inj) (w:World),Rel P f p.H w->Rel P f o.H w
 keep:∀ f,Keep f H0 p.H->Keep f H0 o.H
 size:p.H.size<=o.H.size
theorem eT:∀ (a b:Env),a.length=b.length->(mQ a b).length=a.length
 | [],[],_=>rfl
 | x::a,y::b,h=>by simp[mQ,eT a b (by simpa using h)]
 | [],_::_,h=>by simp at h
 | _::_,[],h=>by simp at h
theorem sD {P:Program}{f:Inj}:∀ (a b l:List Value),a.length=b.length->qE P f a l->qE P f (mQ a b) l
 | [],[],l,_,h=>by rw[h.zEK];exact .nil
 | x::a,y::b,l,hl,h=>by
   obtain⟨v',t',rfl,hv,ht⟩:=h.zEH;refine .cons ?_ (sD a b t' (by simpa using hl) ht);split
   ·exact hv
   ·exact .any _
 | [],_::_,l,h,_=>by simp at h
 | _::_,[],l,h,_=>by simp at h
theorem oL {P:Program}{f:Inj}:∀ (a b l:List Value),a.length=b.length->qE P f b l->qE P f (mQ a b) l
 | [],[],l,_,h=>by rw[h.zEK];exact .nil
 | x::a,y::b,l,hl,h=>by
   obtain⟨v',t',rfl,hv,ht⟩:=h.zEH;refine .cons ?_ (oL a b t' (by simpa using hl) ht);split
   ·rename_i he;rw[qBX he];exact hv
   ·exact .any _
 | [],_::_,l,h,_=>by simp at h
 | _::_,[],l,h,_=>by simp at h
theorem qVG {P:Program}{f:Inj}{l:List Value}:∀ (rest:List Out) (e:Env),(∀ p∈rest,p.env.length=e.length)->(qE P f e l∨∃ p∈rest,qE P f p.env l) ->
 qE P f (rest.foldl (fun e p=>mQ e p.env) e) l
 | [],e,_,h=>by
   rcases h with h | ⟨p,hp,_⟩
   ·exact h
   ·cases hp
 | q::rest,e,hl,h=>by
   have hq:e.length=q.env.length:=(hl q (by simp)).symm;refine qVG rest _ (fun p hp=>by rw[eT _ _ hq];exact hl p (by simp[hp])) ?_
   rcases h with h | ⟨p,hp,h⟩
   ·exact .inl (sD _ _ _ hq h)
   ·rcases zOF.1 hp with rfl | hp
    ·exact .inl (oL _ _ _ hq h)
    ·exact .inr ⟨p,hp,h⟩
theorem zAW (H:IH)(l:List Nat)(hl:∀ b∈l,(H.get b).isSome=true):∀ (t:Tr Obj) (b:Nat),(l.foldl (fun t b=>match H.get b with
 | some ob=>t.set b ob
 | none=>t) t).get b=if b∈l then H.get b else t.get b:=by
 induction l with
 | nil=>intro t b;simp
 | cons x l ih =>
   intro t b;simp only[zPM];rw[ih (fun y hy=>hl y (by simp[hy]))];have hx:=hl x (by simp)
   cases hg:H.get x with
   | none=>rw[hg] at hx;cases hx
   | some ob =>
     simp only;by_cases hb:b∈l
     ·simp[hb]
     ·rw[if_neg hb,Tr.zFP];by_cases hbx:b=x
      ·subst hbx;simp[hg]
      ·simp[hb,hbx]
theorem q4N (l:List Out):∀ (m:Nat),m<=l.foldl (fun m p=>Nat.max m p.H.size) m∧∀ p∈l,p.H.size<=l.foldl (fun m p=>Nat.max m p.H.size) m:=by
 induction l with
 | nil=>intro m;simp
 | cons x l ih =>
   intro m;obtain⟨h1,h2⟩:=ih (Nat.max m x.H.size);simp only[zPM];refine⟨zOH (Nat.le_max_left _ _) h1,fun p hp=>?_⟩;rcases zOF.1 hp with rfl | hp
   ·exact zOH (Nat.le_max_right _ _) h1
   ·exact h2 p hp
theorem Ext.since {H H':IH}(h:Ext H H'){b:Nat}(hb:b < H.size)(hn:b ∉ H'.since H.log.length):H'.get b=H.get b:=by
 obtain⟨l,hl,hg⟩:=h.log;refine hg b hb ?_;unfold IH.since at hn;rw[hl] at hn;simpa using hn
theorem qBS {H0:IH}{l:List Out}{o:Out}(h:qLR H0 H0.log.length l=some o)(hext:∀ p∈l,Ext H0 p.H) :
 ((∀ b,H0.size<=b->H0.get b=none)->∀ p∈l,Sub H0 p o)∧Ext H0 o.H:=by
 unfold qLR at h;split at h
 ·cases h
 ·rename_i o1 rest;split at h
  ·rename_i hc;cases h;simp only[zNT,zNW,decide_eq_true_eq] at hc;obtain⟨hsome,hrest⟩:=hc;have hb1:∀ b,b∈(o1.H.since H0.log.length).filter (· < H0.size) ↔ b∈o1.H.since H0.log.length∧b < H0.size:=fun b=>by simp
   -- the joined heap,block by block
   have hget:∀ b,(IH.mk (((o1.H.since H0.log.length).filter (· < H0.size)).foldl (fun t b=>match o1.H.get b with
    | some ob=>t.set b ob
    | none=>t) H0.tr) ((o1::rest).foldl (fun m p=>Nat.max m p.H.size) 0) H0.base ((o1.H.since H0.log.length).filter (· < H0.size)++H0.log)).get b =
    if b∈(o1.H.since H0.log.length).filter (· < H0.size) then o1.H.get b else H0.get b:=fun b=>zAW o1.H _ hsome H0.tr b
   generalize hJ:(IH.mk (((o1.H.since H0.log.length).filter (· < H0.size)).foldl (fun t b=>match o1.H.get b with
    | some ob=>t.set b ob
    | none=>t) H0.tr) ((o1::rest).foldl (fun m p=>Nat.max m p.H.size) 0) H0.base ((o1.H.since H0.log.length).filter (· < H0.size)++H0.log))=J at *
   have zJG:J.size=(o1::rest).foldl (fun m p=>Nat.max m p.H.size) 0:=by rw[<-hJ]
   have zKB:J.log=(o1.H.since H0.log.length).filter (· < H0.size)++H0.log:=by rw[<-hJ]
   have zI2:∀ b,b < H0.size->J.get b=o1.H.get b:=by
    intro b hb;rw[hget];split
    ·rfl
    ·rename_i hn;exact ((hext o1 (by simp)).since hb (fun hx=>hn ((hb1 b).2 ⟨hx,hb⟩))).symm
   have hlow:∀ p∈o1::rest,∀ b,b < H0.size->J.get b=p.H.get b:=by
    intro p hp b hb;rcases zOF.1 hp with rfl | hp
    ·exact zI2 b hb
    ·obtain⟨⟨⟨_,_⟩,hs1⟩,hs2⟩:=hrest p hp;rw[zI2 b hb];by_cases hm1:b∈o1.H.since H0.log.length
     ·exact p8 (zNW.1 hs1 b ((hb1 b).2 ⟨hm1,hb⟩))
     ·by_cases hm2:b∈p.H.since H0.log.length
      ·exact p8 (zNW.1 hs2 b (by simp[hm2,hb]))
      ·rw[(hext o1 (by simp)).since hb hm1,(hext p (by simp[hp])).since hb hm2]
   have hhigh:(∀ b,H0.size<=b->H0.get b=none)->∀ b,H0.size<=b->J.get b=none:=by
    intro hfresh b hb;rw[hget,if_neg (fun hx=>by have:=((hb1 b).1 hx).2;omega)];exact hfresh b hb
   have hsize:∀ p∈o1::rest,p.H.size<=J.size:=fun p hp=>by rw[zJG];exact (q4N _ 0).2 p hp
   refine⟨fun hfresh p hp=>⟨?_,?_,?_,?_,hsize p hp⟩,?_,?_⟩
   ·rcases zOF.1 hp with rfl | hp
    ·rfl
    ·exact (hrest p hp).1.1.1.symm
   ·intro P f l hl;refine qVG rest o1.env (fun q hq=>(hrest q hq).1.1.2) ?_;rcases zOF.1 hp with rfl | hp
    ·exact .inl hl
    ·exact .inr ⟨p,hp,hl⟩
   ·intro P f w hR
    have zF3:∀ b ob,J.get b=some ob->p.H.get b=some ob:=by
     intro b ob hb;by_cases hlt:b < H0.size
     ·rw[<-hlow p hp b hlt];exact hb
     ·rw[hhigh hfresh b (by omega)] at hb;cases hb
    refine⟨fun b e hb=>zNY (hR.dom b e hb) (hsize p hp),fun b hb=>?_,hR.bound,fun b e ob hb hob=>hR.obj b e ob hb (zF3 b ob hob),?_,hR.zE1⟩
    ·by_cases hlt:b < H0.size
     ·have h1:=(hext p hp).size;have h2:=hsize p hp;simp only at hb;omega
     ·exact hhigh hfresh b (by omega)
    ·intro b1 b2 e1 e2 o1' o2' hne h1 h2 g1 g2;exact hR.sep b1 b2 e1 e2 o1' o2' hne h1 h2 (zF3 _ _ g1) (zF3 _ _ g2)
   ·intro f hK;exact⟨zOH hK.1 (hsize p hp),fun b hb hn=>by rw[hlow p hp b hb];exact hK.2 b hb hn⟩
   ·exact zOH (hext o1 (by simp)).size (hsize o1 (by simp))
   ·exact⟨_,zKB,fun b hb hn=>by rw[hget,if_neg hn]⟩
  ·cases h
theorem Sub.refl (H0:IH)(p:Out):Sub H0 p p:=⟨rfl,fun _ _ _ h=>h,fun _ _ _ h=>h,fun _ h=>h,zNV _⟩
theorem qDT {H:IH}{Q:Out->Prop}(hfresh:∀ b,H.size<=b->H.get b=none)(t:T Out)(ha:t.all fun o=>Ext H o.H)(h:(join H t).holds Q):t.holds fun p=>∃ o,Q o∧Sub H p o:=by
 have zJH:t.holds Q->t.holds fun p=>∃ o,Q o∧Sub H p o:=fun h=>T.zEQ (fun p hp=>⟨p,hp,.refl _ _⟩) t h
 unfold join at h;split at h
 ·rename_i n k;split at h
  ·rename_i l hl;split at h
   ·rename_i o ho;obtain⟨h1,h2⟩:=(T.ch n k).zFH (Q:=fun p=>∃ o,Q o∧Sub H p o) l hl;obtain⟨_,h4⟩:=(T.ch n k).zFH (Q:=fun o=>Ext H o.H) l hl
    exact h1 fun p hp=>⟨o,h,(qBS ho (h4 ha)).1 hfresh p hp⟩
   ·exact zJH h
  ·exact zJH h
 ·exact zJH h
theorem qN9 {H:IH}(t:T Out)(ha:t.all fun o=>Ext H o.H):(join H t).all fun o=>Ext H o.H:=by
 unfold join;split
 ·rename_i n k;split
  ·rename_i l hl;split
   ·rename_i o ho;obtain⟨_,h4⟩:=(T.ch n k).zFH (Q:=fun o=>Ext H o.H) l hl;exact (qBS ho (h4 ha)).2
   ·exact ha
  ·exact ha
 ·exact ha
variable {P:Program}{good:FuncId->Bool}{nat:xK}
variable {H:IH}{env:Env}{ops:Array Oper}
def wI (nat:xK):Prop:=∀ f g,nat f=some g->∀ args H,(g args H).all fun r=>Ext H r.2
def aC (run:Job->IH->T Out):Prop:=∀ j H,(run j H).all fun o=>Ext H o.H
theorem fH {α:Type}{g:α->IH}{H1:IH}(h:Ext H H1){t:T α}(ht:t.all fun a=>Ext H1 (g a)):t.all fun a=>Ext H (g a):=T.zFD (fun _ ha=>h.trans ha) t ht
theorem qAL {r:Out}(h:Ext H r.H):(wM r).all fun r=>Ext H r.2:=by
 unfold wM;split
 ·exact h
 ·exact trivial
theorem qER {run:Job->IH->T Out}(hn:wI nat)(hr:aC run)(f:FuncId)(args:List Value)(H:IH):(yN run nat f args H).all fun r=>Ext H r.2:=by
 unfold yN;split
 ·rename_i g hg;exact hn f g hg args H
 ·rw[T.all_bind];exact T.zFD (fun o ho=>qAL ho) _ (hr _ H)
theorem qOC {run:Job->IH->T Out}(hn:wI nat)(hr:aC run)(o:Oper)(env:Env)(H:IH):(rX P run nat o env H).all fun r=>Ext H r.2:=by
 unfold rX qJW;split
 ·rename_i v H' h;exact qAN h
 ·rename_i f args H' h;have:H'=H:=qAN h;subst this;exact qER hn hr f args H'
 ·rename_i l args H' h;have:H'=H:=qAN h;subst this;rw[T.all_bind];exact T.zFD (fun o ho=>qAL ho) _ (hr _ H')
 ·rename_i n k h;intro i hi;have:=qAN h i hi;show (T.ofO (k i)).all _
  cases hk:k i with
  | none=>exact trivial
  | some r=>exact this r.1 r.2 hk
 ·exact trivial
theorem qGU {run:Job->IH->T Out}(hn:wI nat)(hr:aC run)(ops:Array Oper):∀ (l:List Oper) (env:Env) (H:IH),(q7S P run nat ops l env H).all fun r=>Ext H r.2
 | [],env,H=>.refl _
 | o::l,env,H=>by
   rw[qJ4];unfold j6;split
   ·rw[T.all_bind];exact T.zFD (fun r hrr=>fH hrr (qGU hn hr ops l _ _)) _ (qOC hn hr o env H)
   ·exact qGU hn hr ops l _ _
   ·exact trivial
theorem qCR:∀ (l:List Oper) (env zEJ:Env) (H H1:IH),qFG P l env H=some (zEJ,H1)->Ext H H1
 | [],env,zEJ,H,H1,h=>by simp[qFG] at h;rw[h.2];exact .refl _
 | o::l,env,zEJ,H,H1,h=>by
   unfold qFG at h;split at h
   ·split at h
    ·rename_i v H' hv;exact .trans (qAN hv) (qCR l _ _ _ _ h)
    ·cases h
   ·exact qCR l _ _ _ _ h
theorem qZE {Q:Value×IH->Prop}{t:T (Value×IH)}{r:Value×IH}(h:q25 t=some r)(ha:t.all Q):Q r:=by
 unfold q25 at h;split at h
 ·cases h;exact ha
 ·cases h
theorem qEA {run:Job->IH->T Out}{lo:List (Nat×Nat×Nat)}{o:Oper}{l:List Oper}{i:Nat} :
 qNI P run nat ops lo (o::l) i env H=cond (qL o) (qNI P run nat ops lo l (i+1) env H)
  (j6 (kP ops o env) (qZA o i env lo (qNI P run nat ops lo l (i+1)) (q25 (rX P run nat o env H)))
    (q0X o H (qNI P run nat ops lo l (i+1) (env.zE0 o.dst undef) H)) none):=rfl
theorem nR {run:Job->IH->T Out}(hn:wI nat)(hr:aC run)(ops:Array Oper)(lo:List (Nat×Nat×Nat)):∀ (l:List Oper) (i:Nat) (env:Env) (H:IH) (r:Env×IH×List IH×List Rec),
 qNI P run nat ops lo l i env H=some r->Ext H r.2.1
 | [],i,env,H,r,h=>by
   have h':some (env,H,[],[])=some r:=h;cases h';exact .refl _
 | o::l,i,env,H,r,h=>by
   rw[qEA] at h
   cases ha:qL o with
   | true=>rw[ha] at h;exact nR hn hr ops lo l _ _ _ _ h
   | false =>
     rw[ha] at h;simp only[cond_false] at h;unfold j6 at h;split at h
     ·cases ho:q25 (rX P run nat o env H) with
      | none=>rw[ho] at h;cases h
      | some q =>
        rw[ho] at h;simp only[qZA,q5G] at h;split at h
        ·rename_i e hh hs rs hq;cases h;exact .trans (qZE ho (qOC hn hr o env H)) (nR hn hr ops lo l _ _ _ (e,hh,hs,rs) hq)
        ·cases h
     ·simp only[q0X] at h;split at h
      ·rename_i e hh hs rs hq;cases h;exact nR hn hr ops lo l _ _ _ (e,hh,hs,rs) hq
      ·cases h
     ·cases h
theorem qT7 {run:Job->IH->T Out}(hn:wI nat)(hr:aC run){r:Env×IH}(h:qRG P run nat ops env H=some r):Ext H r.2:=by
 unfold qRG at h;split at h
 ·rename_i zEJ H1 h1;unfold qMW at h;split at h
  ·rename_i zEX H2 hs rs h2;rw[cond_eq_ite] at h;split at h
   ·cases h;exact .trans (qCR _ _ _ _ _ h1) (nR hn hr _ _ _ _ _ _ _ h2)
   ·cases h
  ·cases h
 ·cases h
theorem uE {run:Job->IH->T Out}(hr:aC run){j:Job}{k:Out->T Out}(hk:∀ o,(k o).all fun o'=>Ext o.H o'.H):((run j H).bind k).all fun o=>Ext H o.H:=by
 rw[T.all_bind];exact T.zFD (fun o ho=>fH ho (hk o)) _ (hr j H)
theorem qFL {run:Job->IH->T Out}(hr:aC run)(l:Nat)(args:List Value)(H:IH):(aO run l args H).all fun o=>Ext H o.H:=by
 unfold aO;split
 ·split
  ·refine uE hr fun o=>?_
   unfold qCD;split
   ·split
    ·split
     ·rw[T.all_bind];refine T.zFD (fun s hs=>?_) _ (hr _ _);have hs':Ext o.H s.H:=.trans (.put _ _ _) hs;unfold roundEnd;split
      ·exact .trans hs' (.put _ _ _)
      ·exact trivial
     ·exact trivial
    ·exact trivial
   ·exact trivial
  ·exact trivial
 ·exact trivial
theorem qG0 {run:Job->IH->T Out}(hn:wI nat)(hr:aC run)(v:Value)(params:Array Tmp)(assign body:Code)(env:Env)(H:IH):(jA P run nat v params assign body env H).all fun o=>Ext H o.H:=by
 unfold jA;split
 ·rw[cond_eq_ite];split
  case isFalse=>exact trivial
  rw[T.all_bind];refine T.zFD (fun r hrr=>?_) _ (qER hn hr _ _ _);have h1:Ext H r.2:=.trans (.push _ _) hrr;unfold kV;split
  ·split
   ·exact trivial
   ·split
    ·exact .trans h1 (.put _ _ _)
    ·exact fH (.trans h1 (.put _ _ _)) (hr _ _)
  ·exact trivial
 ·exact trivial
theorem qIJ {run:Job->IH->T Out}(hn:wI nat)(hr:aC run)(c:Code)(env:Env)(H:IH):(qAA P run nat c env H).all fun o=>Ext H o.H:=by
 unfold qAA;split
 ·exact .refl _
 ·exact .refl _
 ·exact .refl _
 ·exact .refl _
 ·refine uE hr fun o=>?_
  unfold qFT;split
  ·exact hr _ _
  ·exact .refl _
 ·unfold qAC;split
  ·exact hr _ _
  ·exact trivial
 ·refine uE hr fun o=>?_
  unfold oW;split
  ·rw[cond_eq_ite];split
   ·exact .refl _
   ·exact .refl _
  ·exact .refl _
 ·refine qN9 _ (uE hr fun o=>?_);unfold bV;split
  ·exact hr _ _
  ·exact .refl _
 ·refine uE hr fun o=>?_
  unfold nE;split
  ·exact trivial
  ·exact .refl _
 ·unfold bM;rw[cond_eq_ite];split
  ·unfold qFW;split
   ·rename_i zEX H2 h;exact qT7 hn hr h
   ·exact trivial
  ·rw[T.all_bind];exact qGU hn hr _ _ _ _
 ·exact qG0 hn hr _ _ _ _ _ _
 ·exact trivial
theorem qJH {run:Job->IH->T Out}(hr:aC run)(f:FuncId)(args:List Value)(H:IH):(nO P good run f args H).all fun o=>Ext H o.H:=by
 unfold nO;split
 ·split
  ·rw[cond_eq_ite];split
   ·refine qN9 _ (uE hr fun o=>?_);unfold qBV;split
    ·split
     ·exact .refl _
     ·exact trivial
    ·split
     ·exact .refl _
     ·exact trivial
    ·exact trivial
   ·exact trivial
  ·exact trivial
 ·exact trivial
theorem qBZ (hn:wI nat):∀ (n:Nat),aC (iex P good nat n)
 | 0,j,H=>trivial
 | n+1,j,H=>by
   rw[q2F];have hr:=qBZ hn n;unfold qLT;split
   ·exact qIJ hn hr _ _ _
   ·exact qJH hr _ _ _
   ·exact qFL hr _ _ _
end Go.Idl
namespace Go.Idl
variable {P:Program}{nat:xK}
variable {F:Fence}{G:Nat->Bool}{H:IH}{a:Act}{env:Env}{f:Inj}{g:FuncId}{n:Nat}{o:Oper}{v':Value}{w:World}
def uY (G:Nat->Bool)(f:Inj):Prop:=∀ g,G g=true->zB f g=true
theorem uY.mono {f':Inj}(h:uY G f)(hl:f.le f'):uY G f':=fun g hg=>zI hl g (h g hg)
theorem qWY (h:qE P f env a.tmps.toList)(t:Nat):zEF P f ((zL env t).getD undef) (a.tmps.getD t undef):=by
 rw[qF]
 cases ht:env[t]? with
 | some v =>
   obtain⟨v',h1,h2⟩:=h.get ht;have h1':a.tmps[t]?=some v':=by simpa using h1
   simpa [zN7,h1'] using h2
 | none =>
   have hlen:env.length<=t:=zQT.1 ht
   have h1':a.tmps[t]?=none:=by
    have:=h.1;rw[zRN];simp only[zO3] at this;omega
   simpa [zN7,h1'] using zEF.undef
theorem oN (h:qE P f env a.tmps.toList){x:Operand}(hx:kW (zB f) x=true):zEF P f (env.val x) (a.eval x):=by
 cases x with
 | tmp t=>exact qWY h t
 | const v=>exact .base _ hx
 | global g =>
   obtain⟨e,h1,h2,h3,_⟩:=bK.1 hx;have:=zEF.ptr (P:=P) (o:=0) h1;rw[h2,h3] at this;exact this
 | func g=>exact .base _ rfl
theorem jD (h:qE P f env a.tmps.toList){v:Value}(hv:zEF P f v v')(d:Option Tmp):qE P f (env.zE0 d v) (a.put d v').tmps.toList:=by
 cases d with
 | none=>exact h
 | some t =>
   simp only[Env.zE0,Act.put,qZ];rw[zQP];exact h.set hv t
def aZ (F:Fence):Prop:=F=Fence.wide∨∃ l,F=Fence.wide.inRound l
theorem qH1:aZ Fence.wide:=.inl rfl
theorem bX (l:Nat):aZ (Fence.wide.inRound l):=.inr ⟨l,rfl⟩
theorem aZ.fn (h:aZ F)(g:FuncId):F.fn g:=by rcases h with rfl | ⟨l,rfl⟩ <;> exact trivial
theorem aZ.depth (h:aZ F):F.depth=none:=by rcases h with rfl | ⟨l,rfl⟩ <;> rfl
theorem aZ.calls (h:aZ F){args:Array Value}{R:Ending->World->Prop}(hc:CallsIn Fence.wide n P g args w R):CallsIn F n P g args w R:=by
 rcases h with rfl | ⟨l,rfl⟩ <;> exact hc
theorem aZ.round (h:aZ F){l:Nat}{tmps:Array Value}{x y:Code}{R:Ending->World->Prop}(hc:RoundIn Fence.wide n P l g tmps x y w R):RoundIn F n P l g tmps x y w R:=by
 rcases h with rfl | ⟨l,rfl⟩ <;> exact hc
def q99:Value->Option Bool
 | .bool b=>some b
 | _=>none
theorem zEF.zHB (h:zEF P f (.tuple #[]) v'):v'=.tuple #[]:=by
 generalize hv:(Value.tuple #[])=v at h
 cases h with
 | any _=>simp[unk] at hv
 | undef=>rfl
 | base _ _=>rfl
 | tuple ha _ =>
   cases hv;simp at ha;rw[zQ3 ha.symm]
 | _=>cases hv
theorem xD {ops:Array Oper}{b:Bool}(h:qE P f env a.tmps.toList)(hw:kP ops o env=some b):Region.wanted o (yielded ops a.tmps)=b:=by
 unfold kP at hw;unfold Region.wanted;split at hw
 ·rename_i hg;cases hw;rw[hg]
 ·rename_i j want hg;rw[hg];split at hw
  ·rename_i t ht;split at hw
   ·rename_i v hv;rw[qF] at hv;obtain⟨v',h1,h2⟩:=h.get hv;have h1':a.tmps[t]?=some v':=by simpa using h1
    have hy:yielded ops a.tmps j=q99 v':=by
     unfold yielded;simp only[ht,zOD,h1'];cases v' <;> rfl
    simp only[hy];unfold qX4 at hw;split at hw
    ·cases hw;rw[h2.zGO];rename_i c;cases c <;> cases want <;> rfl
    ·rename_i vs
     cases hve:vs.isEmpty with
     | false=>rw[hve] at hw;cases hw
     | true =>
       rw[hve] at hw;cases hw;have:vs=#[]:=by simpa using hve
       subst this;rw[h2.zHB];rfl
    ·cases hw
   ·cases hw
  ·rename_i ht;cases hw
   have hy:yielded ops a.tmps j=none:=by
    unfold yielded;rw[ht];rfl
   simp[hy]
def Comes (P:Program)(f:Inj)(H:IH)(w:World)(Q:Value×IH->Prop):Ending->World->Prop:=fun e w' =>
 ∃ v' r f',e=.returned v'∧Q r∧Rel P f' r.2 w'∧Grow f H w f' r.2 w'∧zEF P f' r.1 v'
def kK (P:Program)(G:Nat->Bool)(en:FuncId->List Value->IH->T (Value×IH)):Prop :=
 ∀ (g:FuncId) (args args':List Value) (H:IH) (f:Inj) (w:World) (Q:Value×IH->Prop),Rel P f H w->uY G f->qE P f args args'->(en g args H).holds Q ->
  CallsIn Fence.wide 0 P g args'.toArray w (Comes P f H w Q)
def kZ (P:Program)(G:Nat->Bool)(run:Job->IH->T Out):Prop :=
 ∀ (l:Nat) (args args':List Value) (H:IH) (f:Inj) (w:World) (e:Emb) (Q:Value×IH->Prop),Rel P f H w->uY G f->f l=some e->qE P f args args' ->
  ((run (.round l args) H).bind wM).holds Q ->
  ∃ fn tmps assign body,(Instr.yield e.r args'.toArray).run P w=.ok (.round e.r fn tmps assign body) w∧RoundIn Fence.wide 0 P e.r fn tmps assign body w (Comes P f H w Q)
theorem qC6 {s:zEM}(h:iop P o env H=some s):∀ c,o.op≠.defer c:=by
 intro c hc;unfold iop at h;rw[hc] at h;cases h
theorem wH {run:Job->IH->T Out}{Q:Value×IH->Prop}{K:Act->World->Prop}{Qx:Exit->Act->World->Prop}
 (hF:aZ F) (hc:kK P G (yN run nat)) (hr:kZ P G run) (hR:Rel P f H w) (hG:uY G f) (zEL:qE P f env a.tmps.toList) (hok:o.op.operands.toList.all (kW (zB f))=true)
 (h:(rX P run nat o env H).holds Q)
 (hK:∀ r v' w' f',Q r->Rel P f' r.2 w'->Grow f H w f' r.2 w'->zEF P f' r.1 v'->K (a.put o.dst v') w'):o.wpIn F 0 P a w K Qx:=by
 have hρ:∀ x∈o.op.operands,zEF P f (env.val x) (a.eval x):=fun x hx=>oN zEL (zNW.1 hok x (zO6.1 hx))
 refine⟨fun g _=>hF.fn g,?_⟩;unfold rX at h
 cases hs:iop P o env H with
 | none=>rw[hs] at h;exact h.elim
 | some s =>
   rw[hs] at h;have hd:=qC6 hs
   have zJI:o.semAt F.round a.eval=execOp a.eval o:=by
    cases F.round with
    | none=>rfl
    | some l=>exact Oper.semAt_some l _ _ hd
   rw[zJI];have hpost:=q6Y hR hs hρ
   have value:∀ v H',sV P f H w v H' ((execOp a.eval o).run P w)->Q (v,H')->o.uponIn F 0 P a K Qx ((execOp a.eval o).run P w):=by
    rintro v H' ⟨nx,v',w',f',h1,h2,h3,h4,h5,h6⟩ hq;rw[h1]
    rcases h2 with rfl | ⟨rfl,rfl⟩
    ·exact hK (v,H') v' w' f' hq h3 h4 h5
    ·exact hK (v,H') undef w' f' hq h3 h4 h5
   cases s with
   | val v H'=>exact value v H' hpost h
   | enter g args H' =>
     obtain⟨rfl,args',ha,hrun⟩:=hpost;rw[hrun];refine⟨(fun zJJ=>absurd zJJ (by rw[hF.depth];simp)),?_⟩;have:=hc g args args' H' f w Q hR hG ha h;have h2:CallsIn F 0 P g args'.toArray w (Comes P f H' w Q):=hF.calls this;refine CallsIn.mono h2 ?_;rintro e w'' ⟨v',r,f',rfl,hq,h3,h4,h5⟩;exact hK r v' w'' f' hq h3 h4 h5
   | round l args H' =>
     obtain⟨rfl,e,args',he,ha,hrun⟩:=hpost;obtain⟨fn,tmps,assign,body,hy,zFO⟩:=hr l args args' H' f w e Q hR hG he ha h;rw[hrun,hy];refine⟨(fun zJJ=>absurd zJJ (by rw[hF.depth];simp)),?_⟩;have h2:RoundIn F 0 P e.r fn tmps assign body w (Comes P f H' w Q):=hF.round zFO;refine RoundIn.mono h2 ?_;rintro e w'' ⟨v',r,f',rfl,hq,h3,h4,h5⟩;exact hK r v' w'' f' hq h3 h4 h5
   | choice n k =>
     obtain⟨i,hi,hpi⟩:=hpost;have hq:=h i hi;have hq:(T.ofO (k i)).holds Q:=hq
     cases hk:k i with
     | none=>rw[hk] at hq;exact hq.elim
     | some r=>rw[hk] at hq;exact value r.1 r.2 (hpi r.1 r.2 hk) hq
def Marks (B:Nat)(f:Inj)(w:World):List Deferred->Prop
 | []=>B<=w.heap.size
 | d::ds=>(∃ r,d.target=.collected r∧B<=r∧r < w.heap.size∧w.heap[r]?=some (.deferred (some []))∧(∀ b e,f b=some e->e.r≠r)∧∀ d'∈ds,d'.target≠.collected r)∧Marks B f w ds
theorem Marks.grow {B:Nat}{f f':Inj}{H H':IH}{w w':World}(hg:Grow f H w f' H' w'):∀ (ds:List Deferred),Marks B f w ds->Marks B f' w' ds
 | [],h=>zOH h hg.size
 | d::ds,⟨⟨r,h1,hB,h2,h3,h4,h5⟩,h6⟩=>by
   obtain⟨_,g2⟩:=hg.keep r h2 (fun ⟨b,e,hb,he,_⟩=>h4 b e hb he);exact⟨⟨r,h1,hB,zNY h2 hg.size,by rw[g2];exact h3,hg.un r h2 h4,h5⟩,Marks.grow hg ds h6⟩
theorem Marks.le {B:Nat}{f:Inj}{w:World}:∀ {ds:List Deferred},Marks B f w ds->B<=w.heap.size
 | [],h=>h
 | _::_,h=>Marks.le h.2
theorem put_defers (a:Act)(d:Option Tmp)(v:Value):(a.put d v).defers=a.defers:=by cases d <;> rfl
theorem qAQ {B:Nat}{G:Nat->Bool}{F:Fence}{run:Job->IH->T Out}{ops:Array Oper}(hF:aZ F)(hc:kK P G (yN run nat))(hr:kZ P G run){Qx:Exit->Act->World->Prop}:∀ (l:List Oper)
 (env:Env) (H:IH) (f:Inj) (a:Act) (w:World) (Q:Env×IH->Prop),Rel P f H w->uY G f->qE P f env a.tmps.toList->Marks B f w a.defers->(∀ o∈l,o.op.operands.toList.all (kW (zB f))=true) ->
 (q7S P run nat ops l env H).holds Q->(∀ r a' w' f',Q r->Rel P f' r.2 w'->Grow f H w f' r.2 w'->qE P f' r.1 a'.tmps.toList->Marks B f' w' a'.defers->Qx .normal a' w') ->
 wpListIn F 0 P ops Qx l a w
 | [],env,H,f,a,w,Q,hR,hG,zEL,hm,_,h,hK=>hK (env,H) a w f h hR (.refl _ _ _) zEL hm
 | o::l,env,H,f,a,w,Q,hR,hG,zEL,hm,hok,h,hK=>by
   rw[qJ4] at h;unfold wpListIn;unfold j6 at h;split at h
   ·rename_i hw;rw[xD zEL hw,if_pos rfl];rw[T.zEP] at h;refine wH hF hc hr hR hG zEL (hok o (by simp)) h fun r v' w' f' hq h1 h2 h3=>?_
    refine qAQ hF hc hr l (env.zE0 o.dst r.1) r.2 f' (a.put o.dst v') w' Q h1 (hG.mono h2.le) (jD (zEL.mono h2.le) h3 _) (by rw[put_defers];exact Marks.grow h2 _ hm)
     (fun o' ho'=>zNW.2 fun x hx=>jK (zI h2.le) (zNW.1 (hok o' (by simp[ho'])) x hx)) hq
     fun r' a' w'' f'' hq' g1 g2 g3 g4=>hK r' a' w'' f'' hq' g1 (h2.trans g2) g3 g4
   ·rename_i hw;rw[xD zEL hw,if_neg (by simp)];exact⟨fun g _=>hF.fn g,qAQ hF hc hr l (env.zE0 o.dst undef) H f (a.put o.dst undef) w Q hR hG (jD zEL .undef _) (by rw[put_defers];exact hm) (fun o' ho'=>hok o' (by simp[ho'])) h hK⟩
   ·exact h.elim
end Go.Idl
namespace Go.Idl
variable {P:Program}{good:FuncId->Bool}{nat:xK}{B:Nat}
variable {F:Fence}{H:IH}{Q:Out->Prop}{a:Act}{e:Exit}{env:Env}{f:Inj}{id:Nat}{rd:Bool}{w:World}{x y:Code}
def qKT:zFG->Exit
 | .normal=>.normal
 | .exit id=>.exit id
 | .goto l=>.goto l
 | .ret=>.ret
def jE (P:Program)(B:Nat)(f:Inj)(H:IH)(w:World)(Q:Out->Prop):Exit->Act->World->Prop:=fun e a' w' =>
 ∃ o f',Q o∧e=qKT o.e∧Rel P f' o.H w'∧Grow f H w f' o.H w'∧qE P f' o.env a'.tmps.toList∧Marks B f' w' a'.defers
def xL (P:Program)(G:Nat->Bool)(run:Job->IH->T Out):Prop :=
 ∀ (B:Nat) (F:Fence) (rd:Bool) (c:Code) (env:Env) (H:IH) (f:Inj) (a:Act) (w:World) (Q:Out->Prop),aZ F->zFV rd F w->Rel P f H w->uY G f->codeOk (zB f) rd c=true ->
  qE P f env a.tmps.toList->Marks B f w a.defers->(run (.code c env) H).holds Q->c.wpIn F 0 P (jE P B f H w Q) a w
def qHI (P:Program)(G:Nat->Bool)(nat:xK)(run:Job->IH->T Out):Prop :=
 ∀ (B:Nat) (F:Fence) (id:Nat) (ops:Array Oper) (env:Env) (H:IH) (f:Inj) (a:Act) (w:World) (r:Env×IH),aZ F->Rel P f H w->uY G f->gJ (zB f) ops=true->aD ops=true ->
  qE P f env a.tmps.toList->Marks B f w a.defers->qRG P run nat ops env H=some r->(Code.region id ops true).wpIn F 0 P (jE P B f H w fun o=>o=⟨.normal,r.1,r.2⟩) a w
theorem jR {f1:Inj}{H1:IH}{w1:World}{Q1:Out->Prop}(hg:Grow f H w f1 H1 w1)(hq:∀ o,Q1 o->Q o){w2:World}(h:jE P B f1 H1 w1 Q1 e a w2):jE P B f H w Q e a w2:=by
 obtain⟨o,f',h1,h2,h3,h4,h5,h6⟩:=h;exact⟨o,f',hq o h1,h2,h3,hg.trans h4,h5,h6⟩
theorem vD {e:zFG}(hR:Rel P f H w)(zEL:qE P f env a.tmps.toList)(hm:Marks B f w a.defers)(h:(T.ret (⟨e,env,H⟩:Out)).holds Q) :
 jE P B f H w Q (qKT e) a w:=⟨_,f,h,rfl,hR,.refl _ _ _,zEL,hm⟩
section
variable {G:Nat->Bool}{run:Job->IH->T Out}
theorem qUE (hrun:xL P G run)(hF:aZ F)(hrd:zFV rd F w)(hR:Rel P f H w)(hG:uY G f)
 (hx:codeOk (zB f) rd x=true) (hy:codeOk (zB f) rd y=true) (zEL:qE P f env a.tmps.toList) (hm:Marks B f w a.defers) (h:((run (.code x env) H).bind (qFT run y)).holds Q) :
 (Code.seq x y).wpIn F 0 P (jE P B f H w Q) a w:=by
 rw[T.zEP] at h;refine wpIn_seq (wpIn_mono (hrun B F rd x env H f a w _ hF hrd hR hG hx zEL hm h) ?_);rintro e a' w' ⟨o,f',hq,rfl,h1,h2,h3,h4⟩;unfold qFT at hq
 cases he:o.e with
 | normal =>
   rw[he] at hq;exact wpIn_mono (hrun B F rd y o.env o.H f' a' w' Q hF (hrd.mono h2.lps) h1 (hG.mono h2.le) (qU (zI h2.le) _ _ hy) h3 h4 hq) fun e a w=>jR h2 fun _ h=>h
 | exit id=>rw[he] at hq;exact⟨o,f',hq,by rw[he],h1,h2,h3,h4⟩
 | goto l=>rw[he] at hq;exact⟨o,f',hq,by rw[he],h1,h2,h3,h4⟩
 | ret=>rw[he] at hq;exact⟨o,f',hq,by rw[he],h1,h2,h3,h4⟩
theorem qM6 (hrun:xL P G run)(hF:aZ F)(hrd:zFV rd F w)(hR:Rel P f H w)(hG:uY G f)
 (hx:codeOk (zB f) rd x=true) (zEL:qE P f env a.tmps.toList) (hm:Marks B f w a.defers) (h:((run (.code x env) H).bind (oW id)).holds Q) :
 (Code.block id x).wpIn F 0 P (jE P B f H w Q) a w:=by
 rw[T.zEP] at h;refine wpIn_block (wpIn_mono (hrun B F rd x env H f a w _ hF hrd hR hG hx zEL hm h) ?_);rintro e a' w' ⟨o,f',hq,rfl,h1,h2,h3,h4⟩;unfold oW at hq
 cases he:o.e with
 | normal=>rw[he] at hq;exact⟨o,f',hq,by rw[he],h1,h2,h3,h4⟩
 | exit id' =>
   rw[he] at hq;simp only[qKT,Exit.inBlock];simp only[cond_eq_ite] at hq;by_cases hid:id'=id
   ·rw[if_pos hid];rw[if_pos (by rw[hid];exact zRY id)] at hq;exact⟨⟨.normal,o.env,o.H⟩,f',hq,rfl,h1,h2,h3,h4⟩
   ·rw[if_neg hid];rw[if_neg (fun hb=>hid (zNU hb))] at hq;exact⟨o,f',hq,by rw[he];rfl,h1,h2,h3,h4⟩
 | goto l=>rw[he] at hq;exact⟨o,f',hq,by rw[he],h1,h2,h3,h4⟩
 | ret=>rw[he] at hq;exact⟨o,f',hq,by rw[he],h1,h2,h3,h4⟩
theorem qSK (hrun:xL P G run){v:Operand}(hF:aZ F)(hrd:zFV rd F w)(hR:Rel P f H w)(hG:uY G f)
 (hv:kW (zB f) v=true) (hx:codeOk (zB f) rd x=true) (hy:codeOk (zB f) rd y=true) (zEL:qE P f env a.tmps.toList) (hm:Marks B f w a.defers) (h:(qAC run (env.val v) x y env H).holds Q) :
 (Code.cond v x y).wpIn F 0 P (jE P B f H w Q) a w:=by
 have hev:=oN zEL hv;unfold qAC at h;split at h
 ·rename_i t ht;rw[ht] at hev;refine wpIn_cond (t:=t) hev.zGO ?_
  cases t with
  | true=>exact hrun B F rd x env H f a w Q hF hrd hR hG hx zEL hm h
  | false=>exact hrun B F rd y env H f a w Q hF hrd hR hG hy zEL hm h
 ·exact h.elim
theorem qHR (hc:kK P G (yN run nat))(hr:kZ P G run)(hd:qHI P G nat run){ops:Array Oper}{draw:Bool}(hF:aZ F)
 (hR:Rel P f H w) (hG:uY G f) (hok:gJ (zB f) ops=true) (hdr:(!draw||aD ops)=true) (zEL:qE P f env a.tmps.toList) (hm:Marks B f w a.defers) (h:(bM P run nat ops draw env H).holds Q) :
 (Code.region id ops draw).wpIn F 0 P (jE P B f H w Q) a w:=by
 unfold bM at h
 cases draw with
 | true =>
   simp only[cond_true] at h;unfold qFW at h;split at h
   ·rename_i zEX H2 hi;refine wpIn_mono (hd B F id ops env H f a w (zEX,H2) hF hR hG hok (by simpa using hdr) zEL hm hi) fun e a w=>jR (.refl _ _ _) fun o ho=>?_
    subst ho;exact h
   ·exact h.elim
 | false =>
   simp only[cond_false] at h;rw[T.zEP] at h;refine wpIn_region_list (qAQ hF hc hr ops.toList env H f a w _ hR hG zEL hm (fun o ho=>zNW.1 hok o ho) h ?_);intro r a' w' f' hq h1 h2 h3 h4;exact⟨⟨.normal,r.1,r.2⟩,f',hq,rfl,h1,h2,h3,h4⟩
end
theorem exists_least {p:Nat->Prop}(h:∃ n,p n):∃ n,p n∧∀ m,p m->n<=m:=by
 obtain⟨n,hn⟩:=h
 induction n using Nat.strongRecOn with
 | _ n ih =>
   by_cases hx:∃ m,m < n∧p m
   ·obtain⟨m,hm,hpm⟩:=hx;exact ih m hm hpm
   ·exact⟨n,hn,fun m hpm=>by
     by_cases hmn:n<=m
     ·exact hmn
     ·exact absurd ⟨m,by omega,hpm⟩ hx⟩
open Classical in
noncomputable def least (p:Nat->Prop):Nat:=if h:∃ n,p n then Classical.choose (exists_least h) else 0
theorem bS {p:Nat->Prop}(h:∃ n,p n):p (least p)∧∀ m,p m->least p<=m:=by
 unfold least;rw[dif_pos h];exact Classical.choose_spec (exists_least h)
theorem qJB {H0:IH}{w':World}(h:jE P B f H w (fun p=>∃ o,Q o∧Sub H0 p o) e a w'):jE P B f H w Q e a w':=by
 obtain⟨p,f',⟨o,hq,hs⟩,h1,h2,h3,h4,h5⟩:=h;exact⟨o,f',hq,by rw[hs.e];exact h1,hs.rel _ _ _ h2,h3.sizes (zNV _) hs.size,hs.env _ _ _ h4,h5⟩
theorem qSE {G:Nat->Bool}(hn:wI nat)(hF:aZ F)(hrd:zFV rd F w)(n:Nat)(hrun:∀ m,m < n->xL P G (iex P good nat m))
 (hR:Rel P f H w) (hG:uY G f)
 (hx:codeOk (zB f) rd x=true) (zEL:qE P f env a.tmps.toList) (hm:Marks B f w a.defers) (h:(iex P good nat n (.code (.loop x) env) H).holds Q) :
 (Code.loop x).wpIn F 0 P (jE P B f H w Q) a w:=by
 let J:Act->World->Nat->Prop:=fun a1 w1 m=>m<=n∧∃ zEJ H1 f1 Q1,Rel P f1 H1 w1∧Grow f H w f1 H1 w1∧qE P f1 zEJ a1.tmps.toList∧Marks B f1 w1 a1.defers∧(iex P good nat m (.code (.loop x) zEJ) H1).holds Q1 ∧
  ∀ e a2 w2,jE P B f1 H1 w1 Q1 e a2 w2->jE P B f H w Q e a2 w2
 refine wpIn_loop (fun a1 w1=>∃ m,J a1 w1 m) (fun a1 w1=>least (J a1 w1)) ⟨n,zNV _,env,H,f,Q,hR,.refl _ _ _,zEL,hm,h,fun _ _ _ h=>h⟩ ?_;intro a1 w1 hI;obtain⟨⟨hle,zEJ,H1,f1,Q1,r1,g1,v1,m1,hh,hq1⟩,hmin⟩:=bS hI;generalize hm0:least (J a1 w1)=m at *
 cases m with
 | zero=>exact hh.elim
 | succ m =>
   have hh':(join H1 ((iex P good nat m (.code x zEJ) H1).bind (bV (iex P good nat m) x))).holds Q1:=hh
   have hext:((iex P good nat m (.code x zEJ) H1).bind (bV (iex P good nat m) x)).all fun o=>Ext H1 o.H:=by
    refine uE (qBZ hn m) fun o=>?_
    unfold bV;split
    ·exact qBZ hn m _ _
    ·exact .refl _
   have h2:=qDT r1.fresh _ hext hh';rw[T.zEP] at h2;refine wpIn_mono (hrun m (by omega) B F rd x zEJ H1 f1 a1 w1 _ hF (hrd.mono g1.lps) r1 (hG.mono g1.le) (qU (zI g1.le) _ _ hx) v1 m1 h2) ?_;rintro e a2 w2 ⟨o,f2,hq,rfl,k1,k2,k3,k4⟩;unfold bV at hq
   have out:∀ {e:zFG},o.e=e->(T.ret o).holds (fun p=>∃ o,Q1 o∧Sub H1 p o)->jE P B f H w Q (qKT e) a2 w2:=fun {e} he hq=>by
    refine hq1 _ _ _ (qJB (H0:=H1) ⟨o,f2,hq,by rw[he],k1,k2,k3,k4⟩)
   cases he:o.e with
   | normal =>
     rw[he] at hq
     have hJ:J a2 w2 m:=⟨by omega,o.env,o.H,f2,_,k1,g1.trans k2,k3,k4,hq,fun e a3 w3 h3=>hq1 e a3 w3 (jR k2 (fun _ h=>h) (qJB (H0:=H1) h3))⟩
     exact⟨⟨m,hJ⟩,by have:=(bS ⟨m,hJ⟩).2 m hJ;show least (J a2 w2) < _;omega⟩
   | exit id=>rw[he] at hq;exact out he hq
   | goto l=>rw[he] at hq;exact out he hq
   | ret=>rw[he] at hq;exact out he hq
end Go.Idl
namespace Go.Idl
variable {P:Program}{good:FuncId->Bool}{nat:xK}{B:Nat}
variable {H:IH}{env:Env}{f:Inj}{tmps:Array Value}{v:Value}{w:World}
theorem Rel.other {w':World}{r:Nat}(hR:Rel P f H w)(hu:∀ b e,f b=some e->e.r≠r)(hs:w'.heap.size=w.heap.size)(hw:∀ x:Nat,x≠r->w'.heap[x]?=w.heap[x]?):Rel P f H w' :=
 ⟨hR.dom,hR.fresh,fun b e hb=>by rw[hs];exact hR.bound b e hb,fun b e o hb ho=>by rw[hw _ (hu b e hb)];exact hR.obj b e o hb ho,hR.sep,hR.zE1⟩
theorem aX {F:Fence}{fn:Func}{tmps:Array Value}{R:Ending->World->Prop}{f:Inj}{H:IH}:∀ (ds:List Deferred) (w:World),Rel P f H w->Marks B f w ds ->
 (∀ w',Rel P f H w'->(∀ r,(∀ d∈ds,d.target≠.collected r)->w'.heap[r]?=w.heap[r]?)->w'.heap.size=w.heap.size->(w'.os=w.os∧w'.output=w.output∧w'.tape=w.tape)->∃ v,(results fn tmps).run P w'=.ok v w'∧R (.returned v) w') ->
 LeavesInM F 0 P fn tmps R ds .returning w
 | [],w,hR,_,hK=>by
   obtain⟨v,h1,h2⟩:=hK w hR (fun _ _=>rfl) rfl ⟨rfl,rfl,rfl⟩;exact⟨v,h1,h2⟩
 | d::ds,w,hR,⟨⟨r,h1,hB,h2,h3,h4,h5⟩,h6⟩,hK=>by
   have hsame:∀ x:Nat,x≠r->(w.putObj r (.deferred none)).heap[x]?=w.heap[x]?:=fun x hx=>World.putObj_heap_other hx
   have hR':Rel P f H (w.putObj r (.deferred none)):=hR.other h4 (by simp) hsame;refine⟨by simp,.inl ⟨r,w.putObj r (.deferred none),h1,run_takeDeferred h3,aX ds _ hR' ?_ fun w' hR2 hs2 hsz hot=>hK w' hR2 (fun x hx=>?_) (by rw[hsz];simp) hot⟩⟩
   ·have key:∀ (ds:List Deferred),(∀ d'∈ds,d'.target≠.collected r)->Marks B f w ds->Marks B f (w.putObj r (.deferred none)) ds:=by
     intro ds
     induction ds with
     | nil=>intro _ hb;simpa [Marks] using hb
     | cons d ds ih =>
       rintro hn ⟨⟨x,g1,gB,g2,g3,g4,g5⟩,g6⟩;have hxr:x≠r:=fun hx=>hn d (by simp) (by rw[g1,hx])
       exact⟨⟨x,g1,gB,by simpa using g2,by rw[hsame x hxr];exact g3,g4,g5⟩,ih (fun d' hd'=>hn d' (by simp[hd'])) g6⟩
    exact key ds h5 h6
   ·rw[hs2 x (fun d' hd'=>hx d' (by simp[hd'])),hsame x (fun hxr=>hx d (by simp) (by rw[h1,hxr]))]
structure Reads (g:ResultVar->Sem Value) (tmps:Array Value):Prop where
 tmp:∀ t,g (.tmp t)=pure (tmps.getD t undef)
 cell:∀ a t,g (.cell a t)=(asAddr (tmps.getD a undef)).bind (loadVar t)
theorem qM2 {g:ResultVar->Sem Value}{rv:ResultVar}(hg:Reads g tmps)(zEL:qE P f env tmps.toList)(h:q1I P env H rv=some v) :
 ∀ w,Rel P f H w->∃ v',(g rv).run P w=.ok v' w∧zEF P f v v':=by
 intro w hR;have hget:∀ t,zEF P f ((zL env t).getD undef) (tmps.getD t undef):=fun t=>qWY (a:={ tmps:=tmps,defers:=[] }) zEL t
 cases rv with
 | tmp t =>
   simp only[q1I,zN2] at h;subst h;exact⟨_,by rw[hg.tmp];simp,hget t⟩
 | cell a t =>
   have h0:uT P t ((zL env a).getD undef) H=some v:=h;obtain⟨v',h1,h2⟩:=qD4 hR h0 (hget a)
   have hp:∃ x,tmps.getD a undef=.pointer (some x):=by
    have hg:=hget a;unfold uT at h0;split at h0
    ·rename_i b i he;rw[he] at hg;obtain⟨e,_,hv⟩:=hg.zFB;exact⟨_,hv⟩
    ·cases h0
   obtain⟨x,hx⟩:=hp;refine⟨v',?_,h2⟩;rw[hg.cell,hx];rw[hx] at h1;exact h1
theorem qA9 {g:ResultVar->Sem Value}{f:Inj}{H:IH}{env:Env}{tmps:Array Value}(hg:Reads g tmps)(zEL:qE P f env tmps.toList){w:World}(hR:Rel P f H w):∀ (l:List ResultVar) (vs:List Value),qNN P env H l=some vs ->
 ∃ vs',(l.mapM g).run P w=.ok vs' w∧qE P f vs vs'
 | [],vs,h=>by
   simp only[qNN,zN2] at h;subst h;exact⟨[],by simp,.nil⟩
 | rv::l,vs,h=>by
   unfold qNN at h;split at h
   ·rename_i v hv;split at h
    ·rename_i us hus;cases h;obtain⟨v',h1,h2⟩:=qM2 hg zEL hv w hR;obtain⟨us',h3,h4⟩:=qA9 hg zEL hR l us hus;refine⟨v'::us',?_,.cons h2 h4⟩;rw[zR7];simp only[Sem.run_bind,h1,Result.andThen_ok,h3,Sem.run_pure]
    ·cases h
   ·cases h
theorem q49 {vs vs':List Value}(h:qE P f vs vs'):zEF P f (one vs) (one vs'):=by
 cases vs with
 | nil=>rw[h.zEK];exact .undef
 | cons v vs =>
   obtain⟨v',t',rfl,hv,ht⟩:=h.zEH
   cases vs with
   | nil=>rw[ht.zEK];exact hv
   | cons u vs =>
     obtain⟨u',t2,rfl,hu,ht2⟩:=ht.zEH;exact .zFQ (.cons hv (.cons hu ht2))
theorem zAX (vs:List Value):(if h:vs.toArray.size=1 then vs.toArray[0] else Value.tuple vs.toArray)=one vs:=by
 cases vs with
 | nil=>rfl
 | cons v vs =>
   cases vs with
   | nil=>rfl
   | cons u vs=>rw[dif_neg (by simp)];rfl
theorem oQ {fn:Func}(zEL:qE P f env tmps.toList)(hR:Rel P f H w)(h:j3 P fn env H=some v) :
 ∃ v',(results fn tmps).run P w=.ok v' w∧zEF P f v v':=by
 unfold j3 at h;obtain⟨vs,h1,rfl⟩:=zN4.1 h
 have key:∀ g:ResultVar->Sem Value,Reads g tmps->∃ v',(do let vs <- fn.results.mapM g;pure (if h:vs.size=1 then vs[0] else .tuple vs):Sem Value).run P w=.ok v' w∧zEF P f (one vs) v':=by
  intro g hg;obtain⟨vs',h2,h3⟩:=qA9 hg zEL hR _ _ h1;refine⟨one vs',?_,q49 h3⟩;rw[Array.mapM_eq_mapM_toList];simp only[Sem.run_bind,Sem.run_map,h2,Result.andThen_ok,Sem.run_pure];rw[zAX]
 exact key _ ⟨fun _=>rfl,fun _ _=>rfl⟩
def q2B (P:Program)(good:FuncId->Bool)(G:Nat->Bool):Prop:=∀ f fn c,good f=true->P.funcs[f]?=some fn->fn.body=some c->codeOk G false c=true
theorem nG:∀ {B:Nat} {f:Inj} {w:World} (ds:List Deferred),Marks B f w ds->∀ r,r < B->∀ d∈ds,d.target≠.collected r
 | _,_,_,[],_,_,_,d,hd=>by cases hd
 | B,f,w,d::ds,⟨⟨x,g1,gB,_⟩,g6⟩,r,hr,d',hd'=>by
   rcases zOF.1 hd' with rfl | hd'
   ·rw[g1];intro hx;cases hx;omega
   ·exact nG ds g6 r hr d' hd'
theorem qR9 {G:Nat->Bool}(hn:wI nat)(hgood:q2B P good G)(n:Nat)(hrun:xL P G (iex P good nat n))(g:FuncId)(args args':List Value)(H:IH)(f:Inj)(w:World)(Q:Value×IH->Prop)
 (hR:Rel P f H w) (hG:uY G f) (ha:qE P f args args') (h:((nO P good (iex P good nat n) g args H).bind wM).holds Q):CallsIn Fence.wide 0 P g args'.toArray w (Comes P f H w Q):=by
 unfold nO at h;split at h
 ·rename_i fn hfn;split at h
  ·rename_i c hb
   cases hgd:good g with
   | false=>rw[hgd] at h;exact h.elim
   | true =>
     rw[hgd] at h;simp only[cond_true] at h;rw[T.zEP] at h
     have hext:((iex P good nat n (.code c (qEC args (List.replicate (fn.ntmps - args.length) undef))) H).bind (qBV P fn)).all fun o=>Ext H o.H:=by
      refine uE (qBZ hn n) fun o=>?_
      unfold qBV;split
      ·split
       ·exact .refl _
       ·exact trivial
      ·split
       ·exact .refl _
       ·exact trivial
      ·exact trivial
     have h2:=qDT hR.fresh _ hext h;rw[T.zEP,bF] at h2;have hcode:codeOk (zB f) false c=true:=qU hG _ _ (hgood g fn c hgd hfn hb)
     have zEL:qE P f (args++List.replicate (fn.ntmps - args.length) undef) (args'.toArray++Array.replicate (fn.ntmps - args'.toArray.size) undef).toList:=by
      have e1:(args'.toArray++Array.replicate (fn.ntmps - args'.toArray.size) undef).toList=args'++List.replicate (fn.ntmps - args.length) undef:=by simp[ha.1]
      rw[e1];refine ha.append ?_
      have key:∀ n,qE P f (List.replicate n undef) (List.replicate n undef):=by
       intro n
       induction n with
       | zero=>exact .nil
       | succ n ih=>exact .cons .undef ih
      exact key _
     refine callsIn_of_wp_marks hfn hb trivial (wpIn_mono (hrun w.heap.size Fence.wide false c _ H f _ w _ qH1 (.none rfl) hR hG hcode zEL (zNV _) h2) ?_);rintro e a' w' ⟨o,f',hq,rfl,k1,k2,k3,k4⟩
     -- what the function hands back
     have done:∀ v,j3 P fn o.env o.H=some v->(T.ret (⟨.normal,[v],o.H⟩:Out)).holds (fun p=>∃ o',(wM o').holds Q∧Sub H p o') ->
      LeavesInM Fence.wide 0 P fn a'.tmps (Comes P f H w Q) a'.defers .returning w':=by
      rintro v hv ⟨o',hq',hs⟩;refine aX a'.defers w' k1 k4 fun w2 hR2 hsame hsz hot=>?_
      obtain⟨v',h3,h4⟩:=oQ (fn:=fn) k3 hR2 hv;refine⟨v',h3,?_⟩;have zI3:=hs.env P f' [v'] (.cons h4 .nil);unfold wM at hq';split at hq'
      ·rename_i u hu;rw[hu] at zI3;obtain⟨u',t',he,hu',_⟩:=zI3.zEH;cases he;refine⟨v',(u,o'.H),f',rfl,hq',hs.rel _ _ _ hR2,⟨zOH k2.zFC hs.size,k2.stay,k2.le,by rw[hsz];exact k2.size,fun r hr ho=>?_,k2.un,⟨hot.1.trans k2.out.1,hot.2.1.trans k2.out.2.1,hot.2.2.trans k2.out.2.2⟩,fun r h=>⟨(k2.lps r h).choose,(hsame r (fun d hd=>nG _ k4 r h.lt d hd)).trans (k2.lps r h).choose_spec⟩⟩,hu'⟩;obtain⟨q1,q2⟩:=k2.keep r hr ho;exact⟨q1,by rw[hsame r (fun d hd=>nG _ k4 r hr d hd)];exact q2⟩
      ·exact hq'.elim
     unfold qBV at hq
     cases he:o.e with
     | normal =>
       rw[he] at hq;simp only at hq;split at hq
       ·rename_i v hv;exact done v hv hq
       ·exact hq.elim
     | ret =>
       rw[he] at hq;simp only at hq;split at hq
       ·rename_i v hv;exact done v hv hq
       ·exact hq.elim
     | exit id=>rw[he] at hq;exact hq.elim
     | goto l=>rw[he] at hq;exact hq.elim
  ·exact h.elim
 ·exact h.elim
end Go.Idl
namespace Go.Idl
variable {P:Program}{good:FuncId->Bool}{nat:xK}{B:Nat}
variable {H:IH}{f:Inj}{l:Nat}{w:World}
theorem q51 {r:Nat}{o:Obj}(h:r < w.heap.size)(x:Nat):(w.putObj r o).heap[x]?=if x=r then some o else w.heap[x]?:=heap_put h
theorem wG {e:Emb}{lp:Loop}(hR:Rel P f H w)(he:f l=some e)(hg:H.get l=some (.loop lp)) :
 e.ro=false∧∃ lp',w.heap[e.r]?=some (.loop lp')∧lp'.state=lp.state∧lp'.pending=lp.pending∧lp'.params=lp.params∧lp'.assign=lp.assign∧lp'.body=lp.body ∧
  qE P f lp.tmps.toList lp'.tmps.toList∧codeOk (zB f) true lp.assign=true∧codeOk (zB f) true lp.body=true∧(∀ c,lp.pending=some c->qHQ c=true)∧e.shift=0:=hR.obj l e _ he hg
theorem bW {e:Emb}{lp lp':Loop}(st:LoopState)(pd:Option Code)(hpd:∀ c,pd=some c->qHQ c=true)(hR:Rel P f H w)(he:f l=some e)(hg:H.get l=some (.loop lp))
 (h0:w.heap[e.r]?=some (.loop lp')) :
 Rel P f (H.put l (.loop { lp with state:=st,pending:=pd })) (w.putObj e.r (.loop { lp' with state:=st,pending:=pd }))∧Grow f H w f (H.put l (.loop { lp with state:=st,pending:=pd })) (w.putObj e.r (.loop { lp' with state:=st,pending:=pd })):=by
 obtain⟨hro,lp2,h1,g1,g2,g3,g4,g5,g6,g7,g8,g9,g10⟩:=wG hR he hg;rw[h0] at h1;cases h1
 obtain⟨r1,r2,_⟩:=Rel.put (o1:=.loop { lp with state:=st,pending:=pd }) (o1':=.loop { lp' with state:=st,pending:=pd }) (w':=w.putObj e.r (.loop { lp' with state:=st,pending:=pd })) hR he hg rfl hro
  ⟨hro,_,rfl,rfl,rfl,g3,g4,g5,g6,g7,g8,hpd,g10⟩ (q51 (hR.bound l e he)) (by simp)
 exact⟨r1,r2⟩
theorem qG2 {f:Inj}:∀ (ps:List Tmp) (args args':List Value) (t t':List Value),qE P f args args'->qE P f t t' ->
 qE P f ((ps.zip args).foldl (fun e p=>yT e p.1 p.2) t) ((ps.zip args').foldl (fun e p=>e.set p.1 p.2) t')
 | [],args,args',t,t',_,ht=>by simpa using ht
 | p::ps,[],args',t,t',ha,ht=>by rw[ha.zEK];simpa using ht
 | p::ps,a::args,args',t,t',ha,ht=>by
   obtain⟨a',r',rfl,hv,hr⟩:=ha.zEH;simp only[List.zip_cons_cons,zPM];exact qG2 ps args r' _ _ hr (by rw[qZ];exact ht.set hv p)
theorem qFZ:∀ (l:List (Tmp×Value)) (t:Array Value),(l.foldl (fun tmps (p:Tmp×Value)=>tmps.setIfInBounds p.1 p.2) t).toList=l.foldl (fun e p=>e.set p.1 p.2) t.toList
 | [],t=>rfl
 | p::l,t=>by
   simp only[zPM];rw[qFZ l,zQP]
theorem qMG {G:Nat->Bool}(n:Nat)(hrun:xL P G (iex P good nat n))(l:Nat)(args args':List Value)(H:IH)(f:Inj)(w:World)(e:Emb)(Q:Value×IH->Prop)
 (hR:Rel P f H w) (hG:uY G f) (he:f l=some e) (ha:qE P f args args') (h:((aO (iex P good nat n) l args H).bind wM).holds Q) :
 ∃ fn tmps assign body,(Instr.yield e.r args'.toArray).run P w=.ok (.round e.r fn tmps assign body) w∧RoundIn Fence.wide 0 P e.r fn tmps assign body w (Comes P f H w Q):=by
 unfold aO at h;split at h
 ·rename_i lp hg;split at h
  ·rename_i hc;simp only[zNT,beq_iff_eq,decide_eq_true_eq] at hc;obtain⟨hst,hbase,hlen⟩:=hc;have hlen:args.length=lp.params.size:=zNU hlen;obtain⟨hro,lp',h1,g1,g2,g3,g4,g5,g6,g7,g8,g9,g10⟩:=wG hR he hg;refine⟨lp'.fn,_,lp'.assign,lp'.body,run_yield h1 (by rw[g3,<-hlen,ha.1];simp),?_⟩;rw[T.zEP,T.zEP] at h
   have zEL:qE P f ((lp.params.toList.zip args).foldl (fun e p=>yT e p.1 p.2) lp.tmps.toList) ((lp'.params.zip args'.toArray).foldl (fun tmps (t,a)=>tmps.setIfInBounds t a) lp'.tmps).toList:=by
    rw[<-zP9,Array.toList_zip];have:=qFZ (lp'.params.toList.zip args') lp'.tmps;simp only[] at this ⊢;rw[this,g3];exact qG2 lp.params.toList args args' _ _ ha g6
   refine roundIn_of_wpIn (F:=Fence.wide) trivial ?_;rw[g4,g5];refine wpIn_mono (hrun w.heap.size (Fence.wide.inRound e.r) true lp.assign _ H f _ w _ (bX _) ⟨rfl,fun l h=>by have:=zOP h;subst this;exact⟨_,h1⟩⟩ hR hG g7 zEL (zNV _) h) ?_;rintro ex a1 w1 ⟨o,f1,hq,rfl,k1,k2,k3,k4⟩;unfold qCD at hq
   cases heo:o.e with
   | normal =>
     rw[heo] at hq;simp only at hq;split at hq
     ·rename_i lp1 hg1;split at hq
      ·rename_i zIM;simp only[beq_iff_eq] at zIM;have he1:=k2.le _ _ he;obtain⟨_,zHR,q1,q2,q3,q4,q5,q6,q7,q8,q9,q10,q11⟩:=wG k1 he1 hg1;refine⟨_,run_beginRound q1 (by rw[q2,zIM]),?_⟩;obtain⟨p1,p2⟩:=bW .busy lp1.pending q10 k1 he1 hg1 q1;rw[T.zEP] at hq;have e1:({ zHR with state:=.busy,pending:=lp1.pending }:Loop)={ zHR with state:=.busy }:=by rw[<-q3]
       have e2:({ lp1 with state:=.busy,pending:=lp1.pending }:Loop)={ lp1 with state:=.busy }:=rfl;rw[e1,e2] at p1;rw[e1] at p2;have hG1:=hG.mono k2.le;refine wpIn_mono (hrun w.heap.size (Fence.wide.inRound e.r) true lp.body _ _ f1 a1 _ _ (bX _) ⟨rfl,fun l h=>by have:=zOP h;subst this;exact p2.lps _ ⟨_,q1⟩⟩ p1 hG1 (qU (zI k2.le) _ _ g8) k3 (Marks.grow p2 _ k4) hq) ?_;rintro ex2 a2 w2 ⟨s,f2,hs,rfl,s1,s2,s3,s4⟩;unfold roundEnd at hs;split at hs
       ·rename_i lp2 hg2;have he2:=s2.le _ _ he1;obtain⟨_,zLN,t1,t2,t3,t4,t5,t6,t7,t8,t9,t10,t11⟩:=wG s1 he2 hg2
        have zHS:∀ c,yY s.e=some c->qHQ c=true:=by
         intro c hc;cases hse:s.e <;> rw[hse] at hc <;> simp[yY] at hc <;> subst hc <;> rfl
        obtain⟨u1,u2⟩:=bW (if (yY s.e).isNone then .ready else .done) (yY s.e) zHS s1 he2 hg2 t1
        have fin:∃ v w',(Instr.endRound e.r (yY s.e)).run P w2=.ok v w'∧Comes P f H w Q (.returned v) w' :=
         ⟨_,_,run_endRound (yY s.e) t1,⟨_,_,f2,rfl,hs,u1,((k2.trans p2).trans s2).trans u2,.base _ rfl⟩⟩
        cases hse:s.e with
        | normal=>rw[hse] at fin;exact fin
        | ret=>rw[hse] at fin;exact fin
        | exit id=>rw[hse] at fin;exact fin
        | goto t=>rw[hse] at fin;exact fin
       ·exact hs.elim
      ·exact hq.elim
     ·exact hq.elim
   | exit id=>rw[heo] at hq;exact hq.elim
   | goto t=>rw[heo] at hq;exact hq.elim
   | ret=>rw[heo] at hq;exact hq.elim
  ·exact h.elim
 ·exact h.elim
end Go.Idl
namespace Go.Idl
variable {P:Program}{good:FuncId->Bool}{nat:xK}{B:Nat}
variable {F:Fence}{G:Nat->Bool}{H:IH}{Q:Out->Prop}{a:Act}{env:Env}{f:Inj}{ps:Array Tmp}{v:Operand}{w:World}{x y:Code}
theorem Rel.beside (o:Obj)(hR:Rel P f H w):Rel P f H (w.alloc o)∧Grow f H w f H (w.alloc o)∧∀ b e,f b=some e->e.r≠w.heap.size:=by
 have hne:∀ b e,f b=some e->e.r≠w.heap.size:=fun b e hb=>by have:=hR.bound b e hb;omega
 refine⟨⟨hR.dom,hR.fresh,fun b e hb=>?_,fun b e ob hb ho=>?_,hR.sep,hR.zE1⟩,⟨zNV _,fun _ _ h=>h,f.le_refl,by simp,fun r hr ho=>⟨ho,?_⟩,fun _ _ h=>h,⟨rfl,rfl,rfl⟩,fun r h=>h.alloc _⟩,hne⟩
 ·have:=hR.bound b e hb;simp;omega
 ·rw[heap_alloc,if_neg (hne b e hb)];exact hR.obj b e ob hb ho
 ·rw[heap_alloc,if_neg (by omega)]
theorem qB9 {g:FuncId}(h:entered P g=true):∃ fn,P.funcs[g]?=some fn∧fn.body.isSome=true∧(fn.name != "runtime.NumGoroutine")=true:=by
 unfold entered at h;split at h
 ·rename_i fn hf;simp only[zNT] at h;exact⟨fn,hf,h.1,h.2⟩
 ·cases h
theorem sM {l₀:Nat}{r₀:Loop}(h:w.heap[l₀]?=some (.loop r₀))(fn:FuncId)(tmps:Array Value)(ps:Array Tmp)(assign body:Code) :
 (Instr.enterLoop fn tmps ps assign body (some l₀)).run P w=.ok (w.heap.size,[]) (w.alloc (.loop { state:=.ready,pending:=none,fn,tmps,params:=ps,assign,body,defers:=r₀.defers })):=by
 unfold Instr.enterLoop;simp only[Sem.run_bind,run_getLoop h,run_newObj_alloc,Result.andThen,Sem.run_pure]
theorem qII {run:Job->IH->T Out}(hc:kK P G (yN run nat))(hrun:xL P G run)
 (hF:aZ F) (hrd:F.round=none) (hR:Rel P f H w) (hG:uY G f) (hv:kW (zB f) v=true) (hx:codeOk (zB f) true x=true) (hy:codeOk (zB f) true y=true)
 (zEL:qE P f env a.tmps.toList) (hm:Marks B f w a.defers) (h:(jA P run nat (env.val v) ps x y env H).holds Q) :
 (Code.rangeFunc v ps x y).wpIn F 0 P (jE P B f H w Q) a w:=by
 have hev:=oN zEL hv;unfold jA at h;split at h
 ·rename_i g first captured hg
  rw[hg] at hev
  cases hent:entered P g with
  | false=>rw[hent] at h;exact h.elim
  | true =>
    rw[hent] at h;simp only[cond_true] at h;obtain⟨fn,hfn,hbody,hname⟩:=qB9 hent
    rcases hev.zFK with ⟨g',a',c',hg',zJK,h1,h2⟩ | ⟨l,e,hg',_⟩
    ·cases hg';refine wpIn_rangeFunc fun zGZ _=>?_
     have zFO:F.round=none:=hrd;obtain⟨b1,b2,b3⟩:=hR.beside (.deferred (some []));have hnone:f H.size=none:=oG hR
     let e0:Emb:=⟨w.heap.size+1,0,0,false⟩
     have hle:f.le (f.add H.size e0):=Inj.zFL hnone
     have hO:qCW P (f.add H.size e0) e0 (.loop { state:=.ready,pending:=none,fn:=0,tmps:=env.toArray,params:=ps,assign:=x,body:=y,defers:=0 })
      (some (.loop { state:=.ready,pending:=none,fn:=zGZ,tmps:=a.tmps,params:=ps,assign:=x,body:=y,defers:=w.heap.size })) :=
      ⟨rfl,_,rfl,rfl,rfl,rfl,rfl,rfl,by simpa using zEL.mono hle,qU (zI hle) _ _ hx,qU (zI hle) _ _ hy,(fun c hc=>by cases hc),rfl⟩
     obtain⟨p1,p2⟩:=Rel.push (e:=e0) b1 (by simp[e0]) hO
     let w1:World:=(w.alloc (.deferred (some []))).alloc (.loop { state:=.ready,pending:=none,fn:=zGZ,tmps:=a.tmps,params:=ps,assign:=x,body:=y,defers:=w.heap.size })
     refine⟨w.heap.size+1,[{ target:=.collected w.heap.size,args:=#[] }],w1,{ target:=.fn (.func g) c',args:=a'++#[.func (.yield (w.heap.size+1)) #[] #[]] },w1,g,a'++#[.func (.yield (w.heap.size+1)) #[] #[]]++c',w1,
      by rw[zFO];exact run_enterLoop_outer zGZ a.tmps ps x y,?_,fun f' _=>hF.fn f',?_,fun hd=>absurd hd (by rw[hF.depth];simp),?_⟩
     ·simp only[resolve];rw[zJK];simp[Deferred.ofValue,Act.eval]
     ·simp only[invoke];exact run_callFunc_enter hfn hbody hname
     ·have hall:qE P (f.add H.size e0) (qEC first.toList (Value.func (Fn.yield H.size) #[] #[]::captured.toList)) (a'.toList++(Value.func (Fn.yield (w.heap.size+1)) #[] #[]::c'.toList)):=by
       rw[bF];refine (h1.mono hle).append (.cons ?_ (h2.mono hle));have:=zEF.yield (P:=P) (Inj.add_same (f:=f) (b:=H.size) (e:=e0));exact this
      rw[T.zEP] at h;have hcall:=hc g _ _ _ _ w1 _ p1 (hG.mono hle) hall h;have harr:(a'.toList++(Value.func (Fn.yield (w.heap.size+1)) #[] #[]::c'.toList)).toArray=a'++#[.func (.yield (w.heap.size+1)) #[] #[]]++c':=by apply zPH;simp
      rw[harr] at hcall;have hg1:Grow f H w (f.add H.size e0) _ w1:=b2.trans p2
      have hmark:Marks B (f.add H.size e0) w1 ([{ target:=.collected w.heap.size,args:=#[] }]++a.defers):=by
       refine⟨⟨w.heap.size,rfl,Marks.le hm,by simp[w1];omega,?_,?_,?_⟩,Marks.grow hg1 _ hm⟩
       ·show w1.heap[w.heap.size]?=_;rw[heap_alloc,if_neg (by simp),heap_alloc,if_pos rfl]
       ·intro b e hb;by_cases hbs:b=H.size
        ·subst hbs;rw[Inj.add_same] at hb;cases hb;simp[e0]
        ·rw[Inj.zEG hbs] at hb;exact b3 b e hb
       ·have key:∀ (ds:List Deferred),Marks B f w ds->∀ d'∈ds,d'.target≠.collected w.heap.size:=by
         intro ds
         induction ds with
         | nil=>intro _ d' hd';cases hd'
         | cons d ds ih =>
           rintro⟨⟨r,q1,_,q2,_⟩,q3⟩ d' hd';rcases zOF.1 hd' with rfl | hd'
           ·rw[q1];intro hx;cases hx;omega
           ·exact ih q3 d' hd'
        exact key _ hm
      refine CallsIn.mono (hF.calls hcall) ?_;rintro e w3 ⟨v',r,f3,rfl,hq,k1,k2,k3⟩;unfold kV at hq;split at hq
      ·rename_i lp hgl;split at hq
       ·exact hq.elim
       ·rename_i zHT;have he3:f3 H.size=some e0:=k2.le _ _ Inj.add_same;obtain⟨_,lp',t1,t2,t3,t4,t5,t6,t7,t8,t9,t10,t11⟩:=wG k1 he3 hgl;obtain⟨u1,u2⟩:=bW .exhausted lp.pending t10 k1 he3 hgl t1;have hend:=run_endLoop (P:=P) t1 (by rw[t2];simpa using zHT);have hg3:Grow f H w f3 _ _:=(hg1.trans k2).trans u2;have e1:({ lp' with state:=.exhausted,pending:=lp.pending }:Loop)={ lp' with state:=.exhausted }:=by rw[<-t3]
        rw[e1] at u1 u2 hg3
        have hend':(Instr.endLoop (w.heap.size+1)).run P w3=.ok lp.pending (w3.putObj (w.heap.size+1) (.loop { lp' with state:=.exhausted })):=by
         have:=hend;rw[show (Instr.endLoop (w.heap.size+1))=Instr.endLoop e0.r from rfl,this,t3]
        refine⟨lp.pending,_,hend',?_⟩;split at hq
        ·rename_i hp;rw[hp];have e2:({ lp with state:=.exhausted,pending:=lp.pending }:Loop)={ lp with state:=.exhausted }:=rfl;rw[e2] at u1;exact⟨⟨.normal,env,_⟩,f3,hq,rfl,u1,hg3,zEL.mono hg3.le,Marks.grow (k2.trans u2) _ hmark⟩
        ·rename_i c hp;rw[hp];have hj:=t10 c hp
         have hok:codeOk (zB f3) F.round.isSome c=true:=by cases c <;> first | rfl | cases hj
         exact wpIn_mono (hrun B F _ c env _ f3 _ _ Q hF ⟨rfl,fun l h=>by rw[zFO] at h;cases h⟩ u1 (hG.mono hg3.le) hok (zEL.mono hg3.le) (Marks.grow (k2.trans u2) _ hmark) hq) fun e a w=>jR hg3 fun _ h=>h
      ·exact hq.elim
    ·cases hg'
 ·exact h.elim
theorem qKC {run:Job->IH->T Out}(hc:kK P G (yN run nat))(hrun:xL P G run){l0:Nat}{r0:Loop}
 (hF:aZ F) (hrd:F.round=some l0) (hR:Rel P f H w) (hG:uY G f) (hv:kW (zB f) v=true) (hx:codeOk (zB f) true x=true) (hy:codeOk (zB f) true y=true)
 (zEL:qE P f env a.tmps.toList) (hm:Marks B f w a.defers) (hl0:w.heap[l0]?=some (.loop r0)) (h:(jA P run nat (env.val v) ps x y env H).holds Q) :
 (Code.rangeFunc v ps x y).wpIn F 0 P (jE P B f H w Q) a w:=by
 have hev:=oN zEL hv;unfold jA at h;split at h
 ·rename_i g first captured hg
  rw[hg] at hev
  cases hent:entered P g with
  | false=>rw[hent] at h;exact h.elim
  | true =>
    rw[hent] at h;simp only[cond_true] at h;obtain⟨fn,hfn,hbody,hname⟩:=qB9 hent
    rcases hev.zFK with ⟨g',a',c',hg',zJK,h1,h2⟩ | ⟨l,e,hg',_⟩
    ·cases hg';refine wpIn_rangeFunc fun zGZ _=>?_
     have zFO:F.round=some l0:=hrd;have hnone:f H.size=none:=oG hR
     let e0:Emb:=⟨w.heap.size,0,0,false⟩
     have hle:f.le (f.add H.size e0):=Inj.zFL hnone
     have hO:qCW P (f.add H.size e0) e0 (.loop { state:=.ready,pending:=none,fn:=0,tmps:=env.toArray,params:=ps,assign:=x,body:=y,defers:=0 })
      (some (.loop { state:=.ready,pending:=none,fn:=zGZ,tmps:=a.tmps,params:=ps,assign:=x,body:=y,defers:=r0.defers })) :=
      ⟨rfl,_,rfl,rfl,rfl,rfl,rfl,rfl,by simpa using zEL.mono hle,qU (zI hle) _ _ hx,qU (zI hle) _ _ hy,(fun c hc=>by cases hc),rfl⟩
     obtain⟨p1,p2⟩:=Rel.push (e:=e0) hR (by simp[e0]) hO
     let w1:World:=w.alloc (.loop { state:=.ready,pending:=none,fn:=zGZ,tmps:=a.tmps,params:=ps,assign:=x,body:=y,defers:=r0.defers })
     refine⟨w.heap.size,[],w1,{ target:=.fn (.func g) c',args:=a'++#[.func (.yield w.heap.size) #[] #[]] },w1,g,a'++#[.func (.yield w.heap.size) #[] #[]]++c',w1,
      by rw[zFO];exact sM hl0 zGZ a.tmps ps x y,?_,fun f' _=>hF.fn f',?_,fun hd=>absurd hd (by rw[hF.depth];simp),?_⟩
     ·simp only[resolve];rw[zJK];simp[Deferred.ofValue,Act.eval]
     ·simp only[invoke];exact run_callFunc_enter hfn hbody hname
     ·have hall:qE P (f.add H.size e0) (qEC first.toList (Value.func (Fn.yield H.size) #[] #[]::captured.toList)) (a'.toList++(Value.func (Fn.yield w.heap.size) #[] #[]::c'.toList)):=by
       rw[bF];refine (h1.mono hle).append (.cons ?_ (h2.mono hle));have:=zEF.yield (P:=P) (Inj.add_same (f:=f) (b:=H.size) (e:=e0));exact this
      rw[T.zEP] at h;have hcall:=hc g _ _ _ _ w1 _ p1 (hG.mono hle) hall h;have harr:(a'.toList++(Value.func (Fn.yield w.heap.size) #[] #[]::c'.toList)).toArray=a'++#[.func (.yield w.heap.size) #[] #[]]++c':=by apply zPH;simp
      rw[harr] at hcall;have hg1:Grow f H w (f.add H.size e0) _ w1:=p2;have hmark:Marks B (f.add H.size e0) w1 ([]++a.defers):=Marks.grow hg1 _ hm;refine CallsIn.mono (hF.calls hcall) ?_;rintro e w3 ⟨v',r,f3,rfl,hq,k1,k2,k3⟩;unfold kV at hq;split at hq
      ·rename_i lp hgl;split at hq
       ·exact hq.elim
       ·rename_i zHT;have he3:f3 H.size=some e0:=k2.le _ _ Inj.add_same;obtain⟨_,lp',t1,t2,t3,t4,t5,t6,t7,t8,t9,t10,t11⟩:=wG k1 he3 hgl;obtain⟨u1,u2⟩:=bW .exhausted lp.pending t10 k1 he3 hgl t1;have hend:=run_endLoop (P:=P) t1 (by rw[t2];simpa using zHT);have hg3:Grow f H w f3 _ _:=(hg1.trans k2).trans u2;have e1:({ lp' with state:=.exhausted,pending:=lp.pending }:Loop)={ lp' with state:=.exhausted }:=by rw[<-t3]
        rw[e1] at u1 u2 hg3
        have hend':(Instr.endLoop w.heap.size).run P w3=.ok lp.pending (w3.putObj w.heap.size (.loop { lp' with state:=.exhausted })):=by
         have:=hend;rw[show (Instr.endLoop w.heap.size)=Instr.endLoop e0.r from rfl,this,t3]
        refine⟨lp.pending,_,hend',?_⟩;split at hq
        ·rename_i hp;rw[hp];have e2:({ lp with state:=.exhausted,pending:=lp.pending }:Loop)={ lp with state:=.exhausted }:=rfl;rw[e2] at u1;exact⟨⟨.normal,env,_⟩,f3,hq,rfl,u1,hg3,zEL.mono hg3.le,Marks.grow (k2.trans u2) _ hmark⟩
        ·rename_i c hp;rw[hp];have hj:=t10 c hp
         have hok:codeOk (zB f3) F.round.isSome c=true:=by cases c <;> first | rfl | cases hj
         exact wpIn_mono (hrun B F _ c env _ f3 _ _ Q hF ⟨rfl,fun l h=>by rw[zFO] at h;cases h;exact hg3.lps _ ⟨_,hl0⟩⟩ u1 (hG.mono hg3.le) hok (zEL.mono hg3.le) (Marks.grow (k2.trans u2) _ hmark) hq) fun e a w=>jR hg3 fun _ h=>h
      ·exact hq.elim
    ·cases hg'
 ·exact h.elim
theorem qAY {run:Job->IH->T Out}(hc:kK P G (yN run nat))(hrun:xL P G run){rd:Bool}
 (hF:aZ F) (hrd:zFV rd F w) (hR:Rel P f H w) (hG:uY G f) (hv:kW (zB f) v=true) (hx:codeOk (zB f) true x=true) (hy:codeOk (zB f) true y=true)
 (zEL:qE P f env a.tmps.toList) (hm:Marks B f w a.defers) (h:(jA P run nat (env.val v) ps x y env H).holds Q) :
 (Code.rangeFunc v ps x y).wpIn F 0 P (jE P B f H w Q) a w:=by
 cases hF0:F.round with
 | none=>exact qII hc hrun hF hF0 hR hG hv hx hy zEL hm h
 | some l0 =>
   obtain⟨r0,hl0⟩:=hrd.lp l0 hF0;exact qKC hc hrun hF hF0 hR hG hv hx hy zEL hm hl0 h
end Go.Idl
namespace Go.Idl
variable {P:Program}{good:FuncId->Bool}{nat:xK}
def vT (P:Program)(G:Nat->Bool)(nat:xK):Prop :=
 ∀ (g:FuncId) (k:List Value->IH->T (Value×IH)),nat g=some k->∀ (args args':List Value) (H:IH) (f:Inj) (w:World) (Q:Value×IH->Prop),Rel P f H w->uY G f->qE P f args args'->(k args H).holds Q ->
  CallsIn Fence.wide 0 P g args'.toArray w (Comes P f H w Q)
theorem qLQ {G:Nat->Bool}{run:Job->IH->T Out}{B:Nat}(hrun:xL P G run){F:Fence}{rd:Bool}{x:Code}{env:Env}{H:IH}{f:Inj}{a:Act}{w:World}{Q:Out->Prop}(hF:aZ F)(hrd:zFV rd F w)(hR:Rel P f H w)(hG:uY G f)
 (hx:codeOk (zB f) rd x=true) (zEL:qE P f env a.tmps.toList) (hm:Marks B f w a.defers) (h:((run (.code x env) H).bind nE).holds Q) :
 (Code.scope x).wpIn F 0 P (jE P B f H w Q) a w:=by
 rw[T.zEP] at h;refine wV (wpIn_mono (hrun B F rd x env H f a w _ hF hrd hR hG hx zEL hm h) ?_);rintro e a' w' ⟨o,f',hq,rfl,h1,h2,h3,h4⟩;unfold nE at hq
 cases he:o.e with
 | normal=>rw[he] at hq;exact⟨o,f',hq,by rw[he],h1,h2,h3,h4⟩
 | exit id=>rw[he] at hq;exact⟨o,f',hq,by rw[he],h1,h2,h3,h4⟩
 | goto l=>rw[he] at hq;exact hq.elim
 | ret=>rw[he] at hq;exact⟨o,f',hq,by rw[he],h1,h2,h3,h4⟩
theorem qHP {G:Nat->Bool}(hn:wI nat)(zLO:vT P G nat)(hgood:q2B P good G)(zKC:∀ run,aC run->kK P G (yN run nat)->kZ P G run->qHI P G nat run) :
 ∀ n,xL P G (iex P good nat n)∧kK P G (yN (iex P good nat n) nat)∧kZ P G (iex P good nat n):=by
 intro n
 induction n using Nat.strongRecOn with
 | _ n ih =>
   have hcode:xL P G (iex P good nat n):=by
    cases n with
    | zero=>intro B F rd c env H f a w Q _ _ _ _ _ _ _ h;exact h.elim
    | succ n =>
      obtain⟨h1,h2,h3⟩:=ih n (zOO n);intro B F rd c env H f a w Q hF hrd hR hG hok zEL hm h;have h':(qAA P (iex P good nat n) nat c env H).holds Q:=h
      cases c with
      | skip=>exact wpIn_skip (vD (e:=.normal) hR zEL hm h')
      | label l=>exact wpIn_label (vD (e:=.normal) hR zEL hm h')
      | ret=>exact wpIn_ret (vD (e:=.ret) hR zEL hm h')
      | exit id=>exact wpIn_exit (vD (e:=.exit id) hR zEL hm h')
      | seq x y =>
        simp only[codeOk,zNT] at hok;exact qUE h1 hF hrd hR hG hok.1 hok.2 zEL hm h'
      | cond v x y =>
        simp only[codeOk,zNT] at hok;exact qSK h1 hF hrd hR hG hok.1 hok.2.1 hok.2.2 zEL hm h'
      | block id x=>exact qM6 h1 hF hrd hR hG hok zEL hm h'
      | loop x=>exact qSE hn hF hrd (n+1) (fun m hm=>(ih m hm).1) hR hG hok zEL hm h
      | region id ops draw =>
        simp only[codeOk,zNT] at hok;exact qHR h2 h3 (zKC _ (qBZ hn n) h2 h3) hF hR hG hok.1 hok.2 zEL hm h'
      | rangeFunc v ps x y =>
        simp only[codeOk,zNT] at hok;exact qAY h2 h1 hF hrd hR hG hok.2.1 hok.2.2.1 hok.2.2.2 zEL hm h'
      | scope x=>exact qLQ h1 hF hrd hR hG hok zEL hm h'
      | goto l=>exact h'.elim
      | refuse s=>exact h'.elim
   refine⟨hcode,?_,?_⟩
   ·intro g args args' H f w Q hR hG ha h;unfold yN at h;split at h
    ·rename_i k hk;exact zLO g k hk args args' H f w Q hR hG ha h
    ·cases n with
     | zero=>exact h.elim
     | succ n=>exact qR9 hn hgood n (ih n (zOO n)).1 g args args' H f w Q hR hG ha h
   ·intro l args args' H f w e Q hR hG he ha h
    cases n with
    | zero=>exact h.elim
    | succ n=>exact qMG n (ih n (zOO n)).1 l args args' H f w e Q hR hG he ha h
end Go.Idl
namespace Go.Idl
variable {i j:Nat}{ops:Array Oper}
def qHO (acc:Array Nat)(o:Oper):Nat:=o.after.foldl (fun s e=>if Region.binds .any e then s ||| 2 ^ e.on ||| acc.getD e.on 0 else s) 0
def pushB (acc:Array Nat)(o:Oper):Array Nat:=acc.push (qHO acc o)
theorem qAJ (ops:Array Oper):Region.before ops=ops.toList.foldl pushB #[]:=by
 unfold Region.before pushB qHO;rw[<-zP9]
theorem qNZ (acc:Array Nat)(i:Nat):∀ (l:List Edge) (s:Nat),
 (l.foldl (fun s e=>if Region.binds .any e then s ||| 2 ^ e.on ||| acc.getD e.on 0 else s) s).testBit i=true ↔
   s.testBit i=true∨∃ e∈l,Region.binds .any e=true∧(i=e.on∨(acc.getD e.on 0).testBit i=true)
 | [],s=>by simp
 | e::l,s=>by
   rw[zPM,qNZ acc i l];by_cases hb:Region.binds .any e=true
   ·rw[if_pos hb];simp only[Nat.testBit_or,Nat.testBit_two_pow,zOU,decide_eq_true_eq,zOF];constructor
    ·rintro (((h | h) | h) | ⟨e',h1,h2,h3⟩)
     ·exact .inl h
     ·exact .inr ⟨e,.inl rfl,hb,.inl h.symm⟩
     ·exact .inr ⟨e,.inl rfl,hb,.inr h⟩
     ·exact .inr ⟨e',.inr h1,h2,h3⟩
    ·rintro (h | ⟨e',h1 | h1,h2,h3⟩)
     ·exact .inl (.inl (.inl h))
     ·subst h1;rcases h3 with h3 | h3
      ·exact .inl (.inl (.inr h3.symm))
      ·exact .inl (.inr h3)
     ·exact .inr ⟨e',h1,h2,h3⟩
   ·rw[if_neg hb];simp only[zOF];constructor
    ·rintro (h | ⟨e',h1,h2,h3⟩)
     ·exact .inl h
     ·exact .inr ⟨e',.inr h1,h2,h3⟩
    ·rintro (h | ⟨e',h1 | h1,h2,h3⟩)
     ·exact .inl h
     ·subst h1;exact absurd h2 hb
     ·exact .inr ⟨e',h1,h2,h3⟩
theorem row_iff (acc:Array Nat)(o:Oper)(i:Nat):(qHO acc o).testBit i=true ↔ ∃ e∈o.after,Region.binds .any e=true∧(i=e.on∨(acc.getD e.on 0).testBit i=true):=by
 unfold qHO;rw[<-zP9,qNZ];simp
theorem qWM (acc:Array Nat)(o:Oper)(k:Nat)(h:k < acc.size):(pushB acc o).getD k 0=acc.getD k 0:=by
 unfold pushB;simp only[zN7,Array.getElem?_push];rw[if_neg (by omega)]
theorem qC7 (acc:Array Nat)(o:Oper):(pushB acc o).getD acc.size 0=qHO acc o:=by
 unfold pushB;simp[zN7]
theorem bN (acc:Array Nat)(o:Oper):(pushB acc o).size=acc.size+1:=by simp[pushB]
theorem qBG:∀ (l:List Oper) (acc:Array Nat) (k:Nat),k < acc.size->(l.foldl pushB acc).getD k 0=acc.getD k 0
 | [],_,_,_=>rfl
 | o::l,acc,k,h=>by
   rw[zPM,qBG l _ _ (by rw[bN];omega),qWM acc o k h]
theorem rU:∀ (l:List Oper) (acc:Array Nat),(l.foldl pushB acc).size=acc.size+l.length
 | [],_=>rfl
 | o::l,acc=>by rw[zPM,rU l,bN,zOI];omega
theorem fold_at:∀ (l:List Oper) (acc:Array Nat) (k:Nat) (o:Oper),l[k]?=some o->(l.foldl pushB acc).getD (acc.size+k) 0=qHO ((l.take k).foldl pushB acc) o
 | [],_,_,_,h=>by simp at h
 | p::l,acc,0,o,h=>by
   simp only[zOM,zN2] at h;subst h;rw[zPM,qBG l _ _ (by rw[bN];omega),zQE,qC7];rfl
 | p::l,acc,k+1,o,h=>by
   have:=fold_at l (pushB acc p) k o (by simpa using h);rw[bN] at this;rw[zPM,zPV,zPM,show acc.size+(k+1)=acc.size+1+k by omega];exact this
theorem qGR (hb:∀ j o,ops[j]?=some o->∀ e∈o.after,Region.binds .any e=true->e.on < j){j:Nat}{o:Oper}(ho:ops[j]?=some o) :
 vK (Region.before ops) i j=true ↔ ∃ e∈o.after,Region.binds .any e=true∧(i=e.on∨vK (Region.before ops) i e.on=true):=by
 have ho':ops.toList[j]?=some o:=by simpa using ho
 have hlen:j < ops.toList.length:=(zN0.1 ho').1
 have h1:(Region.before ops).getD j 0=qHO ((ops.toList.take j).foldl pushB #[]) o:=by
  have:=fold_at ops.toList #[] j o ho';rw[qAJ];simpa using this
 have h2:∀ k,k < j->((ops.toList.take j).foldl pushB #[]).getD k 0=(Region.before ops).getD k 0:=by
  intro k hk;have e1:ops.toList=ops.toList.take j++ops.toList.drop j:=(zRV j _).symm;rw[qAJ]
  conv=>rhs;rw[e1,zSA]
  refine (qBG _ _ _ ?_).symm;rw[rU];simp only[zO4];have:(#[]:Array Nat).size=0:=rfl;omega
 unfold vK;rw[h1,row_iff];constructor
 ·rintro⟨e,he,hbd,h3⟩;refine⟨e,he,hbd,?_⟩;rw[h2 _ (hb j o ho e he hbd)] at h3;exact h3
 ·rintro⟨e,he,hbd,h3⟩;refine⟨e,he,hbd,?_⟩;rw[h2 _ (hb j o ho e he hbd)];exact h3
theorem q14 (ho:ops[j]?=none):vK (Region.before ops) i j=false:=by
 unfold vK
 have:(Region.before ops)[j]?=none:=by
  rw[qAJ,zRN];rw[rU];have:=Array.getElem?_eq_none_iff.1 ho;simpa using this
 simp[zN7,this]
theorem vY (hb:∀ j o,ops[j]?=some o->∀ e∈o.after,Region.binds .any e=true->e.on < j):∀ (j i:Nat),vK (Region.before ops) i j=true->i < j:=by
 intro j
 induction j using Nat.strongRecOn with
 | _ j ih =>
   intro i h
   cases ho:ops[j]? with
   | none=>rw[q14 ho] at h;cases h
   | some o =>
     obtain⟨e,he,hbd,h3⟩:=(qGR hb ho).1 h;have hlt:=hb j o ho e he hbd;rcases h3 with h3 | h3
     ·omega
     ·have:=ih e.on hlt i h3;omega
end Go.Idl
namespace Go.Idl
variable {P:Program}
variable {H:IH}{env env':Env}{o:Oper}
theorem pK {o:Oper}(hs:∀ cs b,o.op≠.select cs b)(h:∀ x∈o.op.operands,env.val x=env'.val x):kL P o env H=kL P o env' H:=by
 unfold kL;rw[execOp_congr o hs h,xI,xI,zPD (g:=env'.val) fun x hx=>h x (zO6.2 hx)]
theorem qVR {o:Oper}(h:∀ x∈o.op.operands,env.val x=env'.val x):iop P o env H=iop P o env' H:=by
 have hd:(∀ cs b,o.op≠.select cs b)->kL P o env H=kL P o env' H:=fun hs=>pK hs h
 have pairs:∀ ps:Array (Nat×Operand),(∀ x∈ps.map (·.2),env.val x=env'.val x) ->
  (ps.toList.map fun p=>(p.1,env.val p.2))=(ps.toList.map fun p=>(p.1,env'.val p.2)):=fun ps hp =>
  zPD fun p hm=>by
   rw[hp p.2 (Array.mem_map.2 ⟨p,zO6.2 hm,rfl⟩)]
 unfold iop;cases ho:o.op <;> rw[ho] at h hd <;> simp only[Op.operands] at h <;> simp only
 case build t ps=>rw[pairs ps fun x hx=>h x (by simpa using hx)]
 case buildSlice t n ps=>rw[pairs ps fun x hx=>h x (by simpa using hx)]
 case makeFunc fn first captured =>
  rw[Array.map_congr_left (xs:=first) fun x hx=>h x (by simp[hx]),Array.map_congr_left (xs:=captured) fun x hx=>h x (by simp[hx])]
 case binOp op t x y t2 =>
  have hd:=hd (by simp);rw[h x (by simp),h y (by simp)];simp only[yX,zE6,zET,hd]
 case unOp=>exact hd (by simp)
 case convert src dst x =>
  have hd:=hd (by simp);rw[h x (by simp)];simp only[fF,hd]
 case slice t x lo hi mx =>
  have hd:=hd (by simp);have e1:lo.map env.val=lo.map env'.val:=by cases lo <;> simp_all
  have e2:hi.map env.val=hi.map env'.val:=by cases hi <;> simp_all
  have e3:mx.map env.val=mx.map env'.val:=by cases mx <;> simp_all
  rw[e1,e2,e3,h x (by simp)];simp only[uL,hd]
 case index t x ix =>
  have hd:=hd (by simp);rw[h x (by simp),h ix (by simp)];simp only[uJ,hd]
 case call c =>
  have hd:=hd (by simp);simp only[Call.operands] at h
  have ha:kR env.val c.args.toList=kR env'.val c.args.toList:=by
   rw[xI,xI];exact zPD fun x hx=>h x (by cases c.callee <;> simp[zO6,hx])
  have hc:gY P c env H=gY P c env' H:=by
   unfold gY;simp only[ha];split
   ·rfl
   ·rfl
   ·rename_i f hf;rw[hf] at h;rw[h f (by simp)]
  simp only[yL,hd,hc]
 all_goals (first | rfl | (simp_all;done))
def Loose (s:IH->Option zEM):Prop:=∀ H r,s H=some r->∃ v,r=.val v H∧∀ H',s H'=some (.val v H')
theorem Loose.ofO (v:Option Value):Loose fun H=>zEM.ofO H v:=by
 intro H r h
 cases v with
 | none=>cases h
 | some v=>cases h;exact⟨v,rfl,fun _=>rfl⟩
theorem Loose.dry (o:Oper)(env:Env):Loose fun H=>kL P o env H:=by
 intro H r h;simp only[kL] at h ⊢;by_cases hp:zR (kR env.val o.op.operands.toList)=true
 ·rw[if_pos hp] at h;simp only[hp,if_true]
  cases hs:yE P (execOp env.val o) with
  | none=>rw[hs] at h;cases h
  | some x =>
    rw[hs] at h
    cases x with
    | value v =>
      simp only[qFB,qB0] at h ⊢
      cases hd:qIS v with
      | false=>rw[hd] at h;cases h
      | true=>rw[hd] at h;cases h;exact⟨v,rfl,fun _=>rfl⟩
    | _=>cases h
 ·rw[if_neg hp] at h;cases h
theorem Loose.val (v:Value):Loose fun H=>some (.val v H):=by
 intro H r h;cases h;exact⟨v,rfl,fun _=>rfl⟩
theorem Loose.none:Loose fun _=>none:=by intro H r h;cases h
theorem Loose.cond {b:Bool}{s t:IH->Option zEM}(hs:Loose s)(ht:Loose t):Loose fun H=>cond b (s H) (t H):=by
 cases b
 ·exact ht
 ·exact hs
theorem Loose.zE6 (o:Oper)(op:BinOp)(k k':IntKind)(a b:Int)(env:Env):Loose fun H=>zE6 P o op k k' a b env H:=by
 unfold Go.Idl.zE6;refine .cond ?_ (.dry _ _);split
 ·exact .val _
 ·exact .dry _ _
theorem Loose.zET (o:Oper)(op:BinOp)(t:TypeId)(x y:Value)(env:Env):Loose fun H=>zET P o op t x y env H:=by
 unfold Go.Idl.zET;split
 ·split
  ·exact .val _
  ·exact .dry _ _
 ·split
  ·exact .val _
  ·exact .dry _ _
 ·exact .dry _ _
theorem Loose.binOp (o:Oper)(op:BinOp)(t:TypeId)(x y:Value)(env:Env):Loose fun H=>yX P o op t x y env H:=by
 unfold yX;split
 ·split
  ·exact .zE6 _ _ _ _ _ _ _
  ·exact .zET _ _ _ _ _ _
 ·exact .zET _ _ _ _ _ _
theorem Loose.orElse {s t:IH->Option zEM}(hs:Loose s)(hn:∀ H H',s H=Option.none->s H'=Option.none)(ht:Loose t):Loose fun H=>match s H with
 | some r=>some r
 | .none=>t H:=by
 intro H r h;simp only at h ⊢
 cases hsH:s H with
 | none =>
   rw[hsH] at h;obtain⟨v,h1,h2⟩:=ht H r h;exact⟨v,h1,fun H'=>by rw[hn H H' hsH];exact h2 H'⟩
 | some q =>
   rw[hsH] at h;cases h;obtain⟨v,h1,h2⟩:=hs H r hsH;exact⟨v,h1,fun H'=>by rw[h2 H']⟩
theorem qD5 (hc:xN o=.pure):Loose fun H=>iop P o env H:=by
 unfold iop;unfold xN at hc;cases ho:o.op <;> rw[ho] at hc <;> simp only at hc <;> (try cases hc) <;> simp only
 case move=>exact .val _
 case assign=>exact .val _
 case pick=>unfold qLY;split;exact .val _;exact .none
 case build=>exact .ofO _
 case nilCheck=>unfold wN;split;exact .val _;exact .val _;exact .val _;exact .none
 case binOp=>exact .binOp _ _ _ _ _ _
 case unOp=>exact .dry _ _
 case makeFunc=>unfold wQ;split;exact .val _;exact .none
 case slice=>unfold uL;split;exact .dry _ _;exact .ofO _
 case fieldAddr=>exact .ofO _
 case field=>exact .none
 case indexAddr=>exact .ofO _
 case index=>unfold uJ;split;exact .dry _ _;exact .ofO _
 case extract =>
  unfold gX;split
  ·unfold wK;split
   ·exact .cond (.val _) .none
   ·exact .none
  ·exact .none
 case alloc=>split at hc <;> cases hc
 case call c =>
  unfold yL;refine .orElse (s:=fun H=>gY P c env H) ?_ ?_ (.dry _ _)
  ·unfold gY
   split at hc <;> (try cases hc)
   ·rename_i h;simp only[h,yK];exact .none
   ·rename_i h;simp only[h,yK];exact .none
   ·rename_i h;simp only[h,yK];split
    ·exact .val _
    ·split
     ·exact .val _
     ·exact .none
    ·exact .none
  ·intro H H' hn;unfold gY at hn ⊢
   split at hc <;> (try cases hc)
   ·rename_i h;simp only[h,yK]
   ·rename_i h;simp only[h,yK]
   ·rename_i h;simp only[h,yK] at hn ⊢;split at hn
    ·cases hn
    ·split at hn
     ·cases hn
     ·rename_i hc0;simp only[hc0];rfl
    ·rfl
theorem qG7 {v:Option Value}{r:zEM}(h:zEM.ofO H v=some r):∃ u,r=.val u H:=by
 cases v with
 | none=>cases h
 | some u=>cases h;exact⟨u,rfl⟩
theorem qHV {r:zEM}(hc:xN o=.read)(h:iop P o env H=some r):∃ v,r=.val v H:=by
 unfold iop at h;unfold xN at hc
 have dry:∀ {r},kL P o env H=some r->∃ v,r=.val v H:=fun h=>by
  obtain⟨v,h1,_⟩:=Loose.dry o env H _ h;exact⟨v,h1⟩
 cases ho:o.op <;> rw[ho] at hc h <;> simp only at hc h <;> (try cases hc)
 case load=>exact qG7 h
 case lookup=>exact qG7 h
 case entry=>cases h
 case convert =>
  unfold fF at h;split at h
  ·exact qG7 h
  ·exact dry h
 case alloc=>split at hc <;> cases hc
 case call c =>
  unfold yL at h;split at h
  ·rename_i q hq;cases h;unfold gY at hq
   split at hc <;> (try cases hc)
   rename_i hb;simp only[hb,yK,oV] at hq;split at hq
   ·cases hq;exact⟨_,rfl⟩
   ·split at hq
    ·cases hq;exact⟨_,rfl⟩
    ·cases hq
   ·cases hq;exact⟨_,rfl⟩
   ·cases hq
  ·exact dry h
 all_goals (split at h <;> exact absurd h (by simp))
theorem qKN (h:qL o=true):∃ elem,o.op=.alloc elem∧o.guard=none:=by
 unfold qL at h;have hc:=of_decide_eq_true h;unfold xN at hc
 split at hc <;> (try cases hc)
 ·rename_i elem he;refine⟨elem,he,?_⟩;split at hc
  ·rename_i hg;simpa using hg
  ·cases hc
 ·split at hc <;> cases hc
end Go.Idl
namespace Go.Idl
variable {P:Program}{nat:xK}
variable {H:IH}{o:Oper}{t:Nat}{v:Value}
noncomputable def Env.at (env:Env)(t:Nat):Value:=(zL env t).getD undef
theorem qNA (env:Env)(d:Option Tmp)(v:Value)(t:Nat):(env.zE0 d v).at t=if d=some t∧t < env.length then v else env.at t:=by
 cases d with
 | none=>simp[Env.zE0]
 | some d =>
   simp only[Env.zE0,Env.at,qF,qZ,zON,zN2];by_cases h:d=t
   ·subst h;by_cases hl:d < env.length
    ·simp[hl]
    ·simp[hl]
   ·simp[h]
theorem gT (env:Env)(d:Option Tmp)(v:Value):(env.zE0 d v).length=env.length:=by
 cases d with
 | none=>rfl
 | some d=>simp[Env.zE0,qZ]
theorem qDG {env:Env}{d:Option Tmp}(h:d≠some t):(env.zE0 d v).at t=env.at t:=by
 rw[qNA,if_neg (fun hh=>h hh.1)]
theorem rP {env:Env}(h:t < env.length):(env.zE0 (some t) v).at t=v:=by
 rw[qNA,if_pos ⟨rfl,h⟩]
theorem qWF {env env':Env}(hl:env.length=env'.length)(h:env.at t=env'.at t):zL env t=zL env' t:=by
 simp only[Env.at,qF] at h ⊢;by_cases ht:t < env.length
 ·have ht':t < env'.length:=by omega
  rw[zNX ht,zNX ht'] at h ⊢;simpa using h
 ·rw[zO9 (by omega),zO9 (by omega)]
def yU (o:Oper):Bool:=(xN o).eff
def aY (l:List Oper):Nat:=l.countP yU
def d9 (l:List Oper):Nat:=l.countP qL
theorem oP (h:qL o=true):yU o=false:=by
 unfold qL at h;unfold yU;rw[of_decide_eq_true h];rfl
theorem qF2 (h:yU o=false)(ha:qL o=false):xN o=.pure∨xN o=.read:=by
 unfold yU at h;unfold qL at ha
 cases hc:xN o <;> rw[hc] at h ha <;> first | exact .inl rfl | exact .inr rfl | (cases h;done) | (exact absurd ha (by decide))
theorem qA8 (o:Oper)(l:List Oper):aY (o::l)=(if yU o then 1 else 0)+aY l:=by
 unfold aY;rw[zQ7];omega
theorem aU (o:Oper)(l:List Oper):d9 (o::l)=(if qL o then 1 else 0)+d9 l:=by
 unfold d9;rw[zQ7];omega
theorem qJ2 {run:Job->IH->T Out}{env:Env}{r:Value×IH}(he:yU o=false)(ha:qL o=false)(h:rX P run nat o env H=.ret r):r.2=H∧iop P o env H=some (.val r.1 H):=by
 unfold rX at h
 have key:∀ s,iop P o env H=some s->∃ v,s=.val v H:=by
  intro s hs;rcases qF2 he ha with hc | hc
  ·obtain⟨v,h1,_⟩:=qD5 hc H s hs;exact⟨v,h1⟩
  ·exact qHV hc hs
 cases hs:iop P o env H with
 | none=>rw[hs] at h;cases h
 | some s =>
   obtain⟨v,rfl⟩:=key s hs;rw[hs] at h;cases h;exact⟨rfl,rfl⟩
theorem qZM {run:Job->IH->T Out}{env:Env}{H':IH}(h:iop P o env H=some (.val v H')):rX P run nat o env H=.ret (v,H'):=by
 unfold rX;rw[h];rfl
theorem qS7 {t:T (Value×IH)}{r:Value×IH}(h:q25 t=some r):t=.ret r:=by
 unfold q25 at h;split at h
 ·cases h;rfl
 ·cases h
structure At (P:Program) (run:Job->IH->T Out) (nat:xK) (ops:Array Oper) (lo:List (Nat×Nat×Nat)) (i:Nat) (o:Oper) (env:Env) (H:IH) (eF:Env) (next:Option IH) (rs:List Rec) (later:Nat->Prop):Prop where
 out:(kP ops o env=some false∧(∀ d,o.dst=some d->d < env.length->¬ later d->eF.at d=undef)∧(yU o=true->next=some H)) ∨
  (kP ops o env=some true∧∃ v H',rX P run nat o env H=.ret (v,H')∧(∀ d,o.dst=some d->d < env.length->¬ later d->eF.at d=v)∧(yU o=true->next=some H')∧(yU o=false->H'=H) ∧
    (∀ p,qBD i lo=some p->(⟨i,o,env,v⟩:Rec)∈rs))
def writes (l:List Oper)(lo:Nat->Prop)(t:Nat):Prop:=∃ k o,lo k∧l[k]?=some o∧qL o=false∧o.dst=some t
theorem jM {l:List Oper}{q:Nat->Prop}:writes (o::l) q t ↔ (q 0∧qL o=false∧o.dst=some t)∨writes l (fun k=>q (k+1)) t:=by
 constructor
 ·rintro⟨k,p,h1,h2,h3,h4⟩
  cases k with
  | zero=>simp only[zOM,zN2] at h2;subst h2;exact .inl ⟨h1,h3,h4⟩
  | succ k=>exact .inr ⟨k,p,h1,by simpa using h2,h3,h4⟩
 ·rintro (⟨h1,h3,h4⟩ | ⟨k,p,h1,h2,h3,h4⟩)
  ·exact⟨0,o,h1,rfl,h3,h4⟩
  ·exact⟨k+1,p,h1,by simpa using h2,h3,h4⟩
structure Trace (P:Program) (run:Job->IH->T Out) (nat:xK) (ops:Array Oper) (lo:List (Nat×Nat×Nat)) (l:List Oper) (i:Nat) (env:Env) (H:IH) (eF:Env) (HF:IH) (hs:List IH) (rs:List Rec):Prop where
 len:eF.length=env.length
 last:(H::hs)[aY l]?=some HF
 keep:∀ t,¬ writes l (fun _=>True) t->eF.at t=env.at t
 step:∀ k o,l[k]?=some o->qL o=false->∃ zHC Hk,zHC.length=env.length∧(∀ t,¬ writes l (fun k'=>k' < k) t->zHC.at t=env.at t)∧(∀ t,¬ writes l (fun k'=>k<=k') t->eF.at t=zHC.at t) ∧
  (H::hs)[aY (l.take k)]?=some Hk∧At P run nat ops lo (i+k) o zHC Hk eF ((H::hs)[aY (l.take k)+1]?) rs (writes l fun k'=>k < k')
theorem fE {run:Job->IH->T Out}{ops:Array Oper}{lo:List (Nat×Nat×Nat)}:∀ (l:List Oper) (i:Nat) (env:Env) (H:IH) (eF:Env) (HF:IH) (hs:List IH) (rs:List Rec),
 qNI P run nat ops lo l i env H=some (eF,HF,hs,rs)->Trace P run nat ops lo l i env H eF HF hs rs
 | [],i,env,H,eF,HF,hs,rs,h=>by
   have h':some (env,H,[],[])=some (eF,HF,hs,rs):=h;cases h';exact⟨rfl,rfl,fun _ _=>rfl,fun k o hk=>by simp at hk⟩
 | o::l,i,env,H,eF,HF,hs,rs,h=>by
   rw[qEA] at h
   -- what the rest says,said of the whole
   have lift:∀ (zEJ:Env) (H1:IH) (hs1:List IH) (rs1:List Rec) (v:Value),Trace P run nat ops lo l (i+1) zEJ H1 eF HF hs1 rs1->zEJ=(if qL o=true then env else env.zE0 o.dst v) ->
    (∀ r,r∈rs1->r∈rs)->(∀ n,(H::hs)[(if yU o then 1 else 0)+n]?=(H1::hs1)[n]?) ->
    (qL o=false->At P run nat ops lo i o env H eF ((H::hs)[1]?) rs (writes l fun _=>True))->Trace P run nat ops lo (o::l) i env H eF HF hs rs:=by
    intro zEJ H1 hs1 rs1 v ht he hrs hh hat;have hlen:zEJ.length=env.length:=by rw[he];split;rfl;exact gT _ _ _
    have zJL:∀ t,¬ (qL o=false∧o.dst=some t)->zEJ.at t=env.at t:=by
     intro t hn;rw[he];split
     ·rfl
     ·rename_i ha;exact qDG fun hd=>hn ⟨by simpa using ha,hd⟩
    refine⟨by rw[ht.len,hlen],by rw[qA8,hh];exact ht.last,?_,?_⟩
    ·intro t hw;rw[jM] at hw;rw[ht.keep t (fun hw'=>hw (.inr hw')),zJL t (fun hw'=>hw (.inl ⟨trivial,hw'⟩))]
    ·intro k p hk hp
     cases k with
     | zero =>
       simp only[zOM,zN2] at hk;subst hk;refine⟨env,H,rfl,fun _ _=>rfl,?_,rfl,?_⟩
       ·intro t hw;rw[jM] at hw;rw[ht.keep t (fun hw'=>hw (.inr ?_)),zJL t (fun hw'=>hw (.inl ⟨zNV _,hw'⟩))];obtain⟨k,p,_,h2,h3,h4⟩:=hw';exact⟨k,p,zPO _,h2,h3,h4⟩
       ·have hq:∀ d,¬ writes (o::l) (fun k'=>0 < k') d->¬ writes l (fun _=>True) d:=by
         intro d hn hw;refine hn (jM.2 (.inr ?_));obtain⟨k,p,_,h2,h3,h4⟩:=hw;exact⟨k,p,Nat.succ_pos _,h2,h3,h4⟩
        rcases (hat hp).out with ⟨a1,a2,a3⟩ | ⟨a1,v',H',a2,a3,a4,a5,a6⟩
        ·exact⟨.inl ⟨a1,fun d hd hl hn=>a2 d hd hl (hq d hn),a3⟩⟩
        ·exact⟨.inr ⟨a1,v',H',a2,fun d hd hl hn=>a3 d hd hl (hq d hn),a4,a5,a6⟩⟩
     | succ k =>
       obtain⟨zHC,Hk,b1,b2,b3,b4,b5⟩:=ht.step k p (by simpa using hk) hp;have hcnt:aY ((o::l).take (k+1))=(if yU o then 1 else 0)+aY (l.take k):=by rw[zPV,qA8]
       refine⟨zHC,Hk,by rw[b1,hlen],?_,?_,by rw[hcnt,hh];exact b4,?_⟩
       ·intro t hw;rw[jM] at hw;rw[b2 t (fun hw'=>hw (.inr ?_)),zJL t (fun hw'=>hw (.inl ⟨Nat.succ_pos _,hw'⟩))];obtain⟨k',p',h1,h2,h3,h4⟩:=hw';exact⟨k',p',zRR h1,h2,h3,h4⟩
       ·intro t hw;refine b3 t fun hw'=>hw (jM.2 (.inr ?_))
        obtain⟨k',p',h1,h2,h3,h4⟩:=hw';exact⟨k',p',Nat.succ_le_succ h1,h2,h3,h4⟩
       ·have hq:∀ d,¬ writes (o::l) (fun k'=>k+1 < k') d->¬ writes l (fun k'=>k < k') d:=by
         intro d hn hw;refine hn (jM.2 (.inr ?_));obtain⟨k',p',h1,h2,h3,h4⟩:=hw;exact⟨k',p',zRR h1,h2,h3,h4⟩
        have hn1:(H::hs)[aY ((o::l).take (k+1))+1]?=(H1::hs1)[aY (l.take k)+1]?:=by rw[hcnt,zPQ,hh]
        have hi:i+(k+1)=i+1+k:=by omega
        rw[hn1,hi]
        rcases b5.out with ⟨a1,a2,a3⟩ | ⟨a1,v',H',a2,a3,a4,a5,a6⟩
        ·exact⟨.inl ⟨a1,fun d hd hl hn=>a2 d hd hl (hq d hn),a3⟩⟩
        ·exact⟨.inr ⟨a1,v',H',a2,fun d hd hl hn=>a3 d hd hl (hq d hn),a4,a5,fun p hp=>hrs _ (a6 p hp)⟩⟩
   cases ha:qL o with
   | true =>
     rw[ha] at h;have hne:yU o=false:=oP ha;exact lift env H hs rs undef (fE l _ _ _ _ _ _ _ h) (by rw[ha];rfl) (fun _ h=>h) (fun n=>by rw[hne];simp) (fun h0=>by rw[ha] at h0;cases h0)
   | false =>
     rw[ha] at h;simp only[cond_false] at h;unfold j6 at h;split at h
     ·rename_i hw
      cases ho:q25 (rX P run nat o env H) with
      | none=>rw[ho] at h;cases h
      | some q =>
        rw[ho] at h;simp only[qZA,q5G] at h;split at h
        ·rename_i e hh hs1 rs1 hq;have hio:=qS7 ho;have ht:=fE l _ _ _ _ _ _ _ hq;cases h
         have hvl:∀ d,o.dst=some d->d < env.length->¬ writes l (fun _=>True) d->eF.at d=q.1:=by
          intro d hd hl hn;rw[ht.keep d hn,hd];exact rP hl
         have hrec:∀ p,qBD i lo=some p->(⟨i,o,env,q.1⟩:Rec)∈q2D (qBD i lo) i o env q.1 rs1:=by
          intro p hp;rw[hp];exact zN1
         have hin:∀ r,r∈rs1->r∈q2D (qBD i lo) i o env q.1 rs1:=by
          intro r hr;unfold q2D;split;exact zNZ _ hr;exact hr
         cases hE:yU o with
         | true =>
           have hE':(xN o).eff=true:=hE;refine lift _ q.2 hs1 rs1 q.1 ht (by rw[ha];rfl) hin (fun n=>by rw[hE'];simp only[hE,qEN,cond_true,if_true];rw[zQM,zQ0]) fun _=>?_
           exact⟨.inr ⟨hw,q.1,q.2,hio,hvl,fun _=>by rw[hE'];rfl,fun h0=>(by rw[hE] at h0;cases h0),hrec⟩⟩
         | false =>
           have hE':(xN o).eff=false:=hE;obtain⟨g1,g2⟩:=qJ2 hE ha hio;refine lift _ q.2 hs1 rs1 q.1 ht (by rw[ha];rfl) hin (fun n=>by rw[hE'];simp[hE,qEN,g1]) fun _=>?_
           exact⟨.inr ⟨hw,q.1,q.2,hio,hvl,fun h0=>(by rw[hE] at h0;cases h0),fun _=>g1,hrec⟩⟩
        ·cases h
     ·rename_i hw;simp only[q0X] at h;split at h
      ·rename_i e hh hs1 rs1 hq;have ht:=fE l _ _ _ _ _ _ _ hq;cases h
       have hvl:∀ d,o.dst=some d->d < env.length->¬ writes l (fun _=>True) d->eF.at d=undef:=by
        intro d hd hl hn;rw[ht.keep d hn,hd];exact rP hl
       cases hE:yU o with
       | true =>
         have hE':(xN o).eff=true:=hE;refine lift _ H hs1 rs undef ht (by rw[ha];rfl) (fun _ h=>h) (fun n=>by rw[hE'];simp only[hE,qEN,cond_true,if_true];rw[zQM,zQ0]) fun _=>?_
         exact⟨.inl ⟨hw,hvl,fun _=>by rw[hE'];rfl⟩⟩
       | false =>
         have hE':(xN o).eff=false:=hE;refine lift _ H hs1 rs undef ht (by rw[ha];rfl) (fun _ h=>h) (fun n=>by rw[hE'];simp[hE,qEN]) fun _=>?_
         exact⟨.inl ⟨hw,hvl,fun h0=>(by rw[hE] at h0;cases h0)⟩⟩
      ·cases h
     ·cases h
end Go.Idl
namespace Go.Idl
variable {P:Program}{nat:xK}
variable {H:IH}{f:Inj}{i j:Nat}{l:List Oper}{o:Oper}{ops:Array Oper}{w:World}
def qBC (l:List Oper)(lo:Nat->Prop)(t:Nat):Prop:=∃ k o,lo k∧l[k]?=some o∧qL o=true∧o.dst=some t
theorem j5 {q:Nat->Prop}{t:Nat}:qBC (o::l) q t ↔ (q 0∧qL o=true∧o.dst=some t)∨qBC l (fun k=>q (k+1)) t:=by
 constructor
 ·rintro⟨k,p,h1,h2,h3,h4⟩
  cases k with
  | zero=>simp only[zOM,zN2] at h2;subst h2;exact .inl ⟨h1,h3,h4⟩
  | succ k=>exact .inr ⟨k,p,h1,by simpa using h2,h3,h4⟩
 ·rintro (⟨h1,h3,h4⟩ | ⟨k,p,h1,h2,h3,h4⟩)
  ·exact⟨0,o,h1,rfl,h3,h4⟩
  ·exact⟨k+1,p,h1,by simpa using h2,h3,h4⟩
theorem Rel.zJM (o:Obj)(h:Rel P f H w):Rel P f (H.push o) w:=by
 have hne:∀ b e,f b=some e->b≠H.size:=fun b e hb=>by have:=h.dom b e hb;omega
 refine⟨fun b e hb=>by have:=h.dom b e hb;simp;omega,fun b hb=>?_,h.bound,fun b e ob hb hob=>?_,fun b1 b2 e1 e2 o1 o2 hn h1 h2 g1 g2=>?_,h.zE1⟩
 ·simp only[IH.size_push] at hb;rw[IH.zEO,if_neg (by omega)];exact h.fresh b (by omega)
 ·rw[IH.zEO,if_neg (hne b e hb)] at hob;exact h.obj b e ob hb hob
 ·rw[IH.zEO,if_neg (hne b1 e1 h1)] at g1;rw[IH.zEO,if_neg (hne b2 e2 h2)] at g2;exact h.sep b1 b2 e1 e2 o1 o2 hn h1 h2 g1 g2
structure zHU (P:Program) (l:List Oper) (env:Env) (H:IH) (e1:Env) (H1:IH):Prop where
 len:e1.length=env.length
 size:H1.size=H.size+d9 l
 old:∀ b,b < H.size->H1.get b=H.get b
 rel:∀ f w,Rel P f H w->Rel P f H1 w
 keep:∀ t,¬ qBC l (fun _=>True) t->e1.at t=env.at t
 step:∀ k o,l[k]?=some o->qL o=true->∃ elem z,o.op=.alloc elem∧qB4 P elem=some z∧H1.get (H.size+d9 (l.take k))=some (.cells z.cells elem) ∧
  ∀ d,o.dst=some d->d < env.length->¬ qBC l (fun k'=>k < k') d->e1.at d=.pointer (some ⟨H.size+d9 (l.take k),0,none⟩)
theorem mI:∀ (l:List Oper) (env:Env) (H:IH) (e1:Env) (H1:IH),qFG P l env H=some (e1,H1)->zHU P l env H e1 H1
 | [],env,H,e1,H1,h=>by
   simp only[qFG,zN2,Prod.mk.injEq] at h;obtain⟨rfl,rfl⟩:=h;exact⟨rfl,rfl,fun _ _=>rfl,fun _ _ h=>h,fun _ _=>rfl,fun k o hk=>by simp at hk⟩
 | o::l,env,H,e1,H1,h=>by
   unfold qFG at h;split at h
   ·rename_i ha;split at h
    ·rename_i v H' hv;obtain⟨elem,he,_⟩:=qKN ha;unfold iop at hv;rw[he] at hv;simp only[rY] at hv;split at hv
     ·rename_i z hz;cases hv;have t:=mI l _ _ _ _ h;have hc:∀ k,d9 ((o::l).take (k+1))=1+d9 (l.take k):=fun k=>by rw[zPV,aU,if_pos ha]
      refine⟨by rw[t.len,gT],by rw[t.size,aU,if_pos ha,IH.size_push];omega,?_,fun f w hR=>t.rel f w (hR.zJM _),?_,?_⟩
      ·intro b hb;rw[t.old b (by simp;omega),IH.zEO,if_neg (by omega)]
      ·intro x hw;rw[j5] at hw;rw[t.keep x fun hw'=>hw (.inr hw')];exact qDG fun hd=>hw (.inl ⟨trivial,ha,hd⟩)
      ·intro k p hk hp
       cases k with
       | zero =>
         simp only[zOM,zN2] at hk;subst hk;refine⟨elem,z,he,hz,?_,?_⟩
         ·simp only[List.take_zero,d9,List.countP_nil,zQE];rw[t.old H.size (by simp),IH.zEO,if_pos rfl]
         ·intro d hd hl hn;rw[t.keep d ?_,hd,rP hl]
          ·rfl
          ·rintro⟨k,p,_,h2,h3,h4⟩;exact hn (j5.2 (.inr ⟨k,p,Nat.succ_pos _,h2,h3,h4⟩))
       | succ k =>
         obtain⟨el,z',b1,b2,b3,b4⟩:=t.step k p (by simpa using hk) hp;have hsz:H.size+d9 ((o::l).take (k+1))=(H.push (.cells z.cells elem)).size+d9 (l.take k):=by rw[hc,IH.size_push];omega
         refine⟨el,z',b1,b2,by rw[hsz];exact b3,?_⟩;intro d hd hl hn;rw[hsz];refine b4 d hd (by rw[gT];exact hl) ?_;rintro⟨k',p',h1,h2,h3,h4⟩;exact hn (j5.2 (.inr ⟨k',p',zRR h1,h2,h3,h4⟩))
     ·cases hv
    ·cases h
   ·rename_i ha;have ha:qL o=false:=by simpa using ha
    have t:=mI l _ _ _ _ h;have hc:∀ k,d9 ((o::l).take (k+1))=d9 (l.take k):=fun k=>by rw[zPV,aU,ha];simp
    refine⟨t.len,by rw[t.size,aU,ha];simp,t.old,t.rel,?_,?_⟩
    ·intro x hw;rw[j5] at hw;exact t.keep x fun hw'=>hw (.inr hw')
    ·intro k p hk hp
     cases k with
     | zero =>
       simp only[zOM,zN2] at hk;subst hk;rw[ha] at hp;cases hp
     | succ k =>
       obtain⟨el,z',b1,b2,b3,b4⟩:=t.step k p (by simpa using hk) hp;refine⟨el,z',b1,b2,by rw[hc];exact b3,?_⟩;intro d hd hl hn;rw[hc];refine b4 d hd hl ?_;rintro⟨k',p',h1,h2,h3,h4⟩;exact hn (j5.2 (.inr ⟨k',p',zRR h1,h2,h3,h4⟩))
theorem Rel.zJN {b:Nat}{c:Array Value}{elem:TypeId}(h:Rel P f H w)(hb:b < H.size)(hn:f b=none)(hg:H.get b=some (.cells c elem))(hp:zR c.toList=true) :
 Rel P (f.add b ⟨w.heap.size,0,c.size,false⟩) H (w.alloc (.cells c elem))∧(∀ H0:IH,H0.size<=b->Grow f H0 w (f.add b ⟨w.heap.size,0,c.size,false⟩) H0 (w.alloc (.cells c elem))):=by
 have hle:f.le (f.add b ⟨w.heap.size,0,c.size,false⟩):=Inj.zFL hn;have old:∀ x y,f x=some y->y.r≠w.heap.size:=fun x y hx=>by have:=h.bound x y hx;omega
 refine⟨⟨?_,h.fresh,?_,?_,?_,?_⟩,fun H0 h0=>⟨zNV _,fun x hx hxn=>by rw[Inj.zEG (by omega)];exact hxn,hle,by simp,?_,?_,⟨rfl,rfl,rfl⟩,fun r h=>h.alloc _⟩⟩
 ·intro x y hx;by_cases e1:x=b
  ·subst e1;exact hb
  ·rw[Inj.zEG e1] at hx;exact h.dom x y hx
 ·intro x y hx;by_cases e1:x=b
  ·subst e1;rw[Inj.add_same] at hx;cases hx;simp
  ·rw[Inj.zEG e1] at hx;have:=h.bound x y hx;simp;omega
 ·intro x y ob hx hob;by_cases e1:x=b
  ·subst e1;rw[Inj.add_same] at hx;cases hx;rw[hg] at hob;cases hob;rw[heap_alloc,if_pos rfl];refine⟨c,elem,(0,0),rfl,rfl,by simp,?_,fun _=>⟨rfl,rfl,fun j _=>by simp⟩,fun _=>⟨rfl,rfl⟩⟩;intro i v hv;refine⟨v,by simpa using hv,.base v ?_⟩;exact xU.1 hp v (zO6.1 (Array.mem_of_getElem? hv))
  ·rw[Inj.zEG e1] at hx;rw[heap_alloc,if_neg (old x y hx)];exact (h.obj x y ob hx hob).mono hle
 ·intro b1 b2 e1 e2 o1 o2 hne h1 h2 g1 g2 l1 l2 hr;by_cases x1:b1=b
  ·subst x1;rw[Inj.add_same] at h1;cases h1;rw[Inj.zEG (Ne.symm hne)] at h2;exact absurd hr.symm (old b2 e2 h2)
  ·rw[Inj.zEG x1] at h1;by_cases x2:b2=b
   ·subst x2;rw[Inj.add_same] at h2;cases h2;exact absurd hr (old b1 e1 h1)
   ·rw[Inj.zEG x2] at h2;exact h.sep b1 b2 e1 e2 o1 o2 hne h1 h2 g1 g2 l1 l2 hr
 ·intro b1 b2 e1 e2 h1 h2 hr;by_cases x1:b1=b
  ·subst x1;rw[Inj.add_same] at h1;cases h1;by_cases x2:b2=b1
   ·subst x2;rw[Inj.add_same] at h2;cases h2;rfl
   ·rw[Inj.zEG x2] at h2;exact absurd hr.symm (old b2 e2 h2)
  ·rw[Inj.zEG x1] at h1;by_cases x2:b2=b
   ·subst x2;rw[Inj.add_same] at h2;cases h2;exact absurd hr (old b1 e1 h1)
   ·rw[Inj.zEG x2] at h2;exact h.zE1 b1 b2 e1 e2 h1 h2 hr
 ·intro r hr hno;refine⟨?_,by rw[heap_alloc,if_neg (by omega)]⟩;rintro⟨x,y,hx,hyr,hro⟩;by_cases e1:x=b
  ·subst e1;rw[Inj.add_same] at hx;cases hx;simp at hyr;omega
  ·rw[Inj.zEG e1] at hx;exact hno ⟨x,y,hx,hyr,hro⟩
 ·intro r hr hu x y hx;by_cases e1:x=b
  ·subst e1;rw[Inj.add_same] at hx;cases hx;simp;omega
  ·rw[Inj.zEG e1] at hx;exact hu x y hx
structure Stat (ops:Array Oper):Prop where
 back:∀ j o,ops[j]?=some o->∀ e∈o.after,Region.binds .any e=true->e.on < j
 dst:∀ (i j:Nat) (o p:Oper) (d:Tmp),i≠j->ops[i]?=some o->ops[j]?=some p->o.dst=some d->p.dst≠some d
 reads:∀ (i j:Nat) (o p:Oper) (d:Tmp),i≠j->ops[i]?=some o->ops[j]?=some p->o.dst=some d->d∈wZ ops p ->
  vK (Region.before ops) i j=true∨(qL o=false∧vK (Region.before ops) j i=true)
 zIG:∀ (i j:Nat) (o p:Oper),i≠j->ops[i]?=some o->ops[j]?=some p->yU o=true->yU p=true->vK (Region.before ops) i j=true∨vK (Region.before ops) j i=true
theorem aQ:(o,i)∈l.zipIdx ↔ l[i]?=some o:=by
 rw[zQD]
theorem qMY (h:aD ops=true):Stat ops:=by
 unfold aD qTM at h;simp only[zNW] at h
 have h1:∀ i o,ops[i]?=some o->∀ e∈o.after,Region.binds .any e=true->e.on < i:=by
  intro i o ho e he hb;have:=h (o,i) (aQ.2 (by simpa using ho));simp only[zNT,zRS] at this;have:=this.1 e he;rw[hb] at this;simpa using this
 have h2:∀ i j o p,i≠j->ops[i]?=some o->ops[j]?=some p ->
  (match o.dst with
    | some d=>p.dst != some d&&(!((wZ ops p).contains d)||cond (qL o) (vK (Region.before ops) i j) (qOZ (Region.before ops) i j))
    | none=>true)=true∧(!((xN o).eff&&(xN p).eff)||qOZ (Region.before ops) i j)=true:=by
  intro i j o p hij ho hp;have h3:=h (o,i) (aQ.2 (by simpa using ho));simp only[zNT,zNW] at h3;have h4:=h3.2 (p,j) (aQ.2 (by simpa using hp));simp only[hij,decide_false,zQQ,zNT] at h4;exact⟨h4.1.1,h4.1.2⟩
 refine⟨h1,?_,?_,?_⟩
 ·intro i j o p d hij ho hp hd;have:=(h2 i j o p hij ho hp).1;rw[hd] at this;simp only[zNT,bne_iff_ne,ne_eq] at this;exact this.1
 ·intro i j o p d hij ho hp hd hr;have:=(h2 i j o p hij ho hp).1;rw[hd] at this;simp only[zNT] at this;have:=this.2;have hc:(wZ ops p).contains d=true:=List.contains_iff_mem.2 hr;rw[hc] at this;simp only[zRP,zQQ] at this
  cases ha:qL o with
  | true=>rw[ha] at this;exact .inl this
  | false =>
    rw[ha] at this;simp only[cond_false,qOZ,zOU] at this;rcases this with h | h
    ·exact .inl h
    ·exact .inr ⟨rfl,h⟩
 ·intro i j o p hij ho hp he1 he2;have:=(h2 i j o p hij ho hp).2;have e1:(xN o).eff=true:=he1;have e2:(xN p).eff=true:=he2;rw[e1,e2] at this;simpa [qOZ] using this
def eU (ops:Array Oper):List (Oper×Nat):=ops.toList.zipIdx.filter fun q=>(xN q.1).eff
theorem qVO:∀ (l:List Oper) (n m:Nat),(((l.zipIdx n).filter fun q=>(xN q.1).eff).filter fun q=>decide (q.2 < m)).length=aY (l.take (m - n))
 | [],n,m=>by simp[aY]
 | o::l,n,m=>by
   rw[zQ6,zQ8];have ih:=qVO l (n+1) m;by_cases hm:n < m
   ·have e1:m - n=(m - (n+1))+1:=by omega
    rw[e1,zPV,qA8,<-ih];by_cases he:yU o=true
    ·have he':(xN o).eff=true:=he;rw[if_pos he',if_pos he,zQ8];simp only[hm,decide_true,if_true,zOI];omega
    ·have he':¬ (xN o).eff=true:=he;rw[if_neg he',if_neg he];omega
   ·have e1:m - n=0:=by omega
    have e2:m - (n+1)=0:=by omega
    rw[e2] at ih;rw[e1];simp only[List.take_zero] at ih ⊢;by_cases he':(xN o).eff=true
    ·rw[if_pos he',zQ8];simp only[hm,decide_false,zQA,if_false];exact ih
    ·rw[if_neg he'];exact ih
theorem qOV (ops:Array Oper)(m:Nat):((eU ops).filter fun q=>decide (q.2 < m)).length=aY (ops.toList.take m):=by
 have:=qVO ops.toList 0 m;simpa [eU] using this
theorem filter_le {α:Type}{l:List α}{p q:α->Bool}(h:∀ a∈l,p a=true->q a=true):(l.filter p).length<=(l.filter q).length:=by
 rw[<-List.countP_eq_length_filter,<-List.countP_eq_length_filter];exact List.countP_mono_left h
theorem qD3 {i:Nat}{v:Nat×Nat}:∀ (l:List (Nat×Nat×Nat)),(∀ a∈l,a.1=i->a.2=v)->(∃ a∈l,a.1=i)->qBD i l=some v
 | [],_,⟨a,ha,_⟩=>by cases ha
 | a::l,h,hx=>by
   have hdef:qBD i (a::l)=cond (Nat.beq a.1 i) (some a.2) (qBD i l):=rfl;rw[hdef]
   cases hb:Nat.beq a.1 i with
   | true=>rw[cond_true,h a zN1 (zNU hb)]
   | false =>
     rw[cond_false];refine qD3 l (fun b hb=>h b (zNZ _ hb)) ?_;obtain⟨b,hb1,hb2⟩:=hx;rcases zOF.1 hb1 with rfl | hb1
     ·rw[hb2,zRY] at hb;cases hb
     ·exact⟨b,hb1,hb2⟩
def q7X (ops:Array Oper)(j:Nat):Nat:=((eU ops).filter fun q=>vK (Region.before ops) q.2 j).length
def qZR (ops:Array Oper)(j:Nat):Nat:=((eU ops).filter fun q=>!vK (Region.before ops) j q.2).length
theorem qQ5 (ho:ops[j]?=some o)(hc:xN o=.read)(hne:q7X ops j≠qZR ops j):qBD j (loose ops)=some (q7X ops j,qZR ops j):=by
 refine qD3 _ ?_ ?_
 ·intro a ha hj;unfold loose qL7 at ha;rw[zQB] at ha;obtain⟨⟨p,k⟩,hp,ha⟩:=ha;simp only at ha;split at ha
  ·cases ha
  ·cases ha;simp only at hj;subst hj;rfl
 ·refine⟨(j,q7X ops j,qZR ops j),?_,rfl⟩;unfold loose qL7;rw[zQB];refine⟨(o,j),List.mem_filter.2 ⟨aQ.2 (by simpa using ho),by simpa using hc⟩,?_⟩;exact if_neg hne
theorem qKL {lo hi:Nat}{r:Rec}:∀ (hs:List IH) (m:Nat),gD P lo hi r hs m=true->∀ k E,hs[k]?=some E->lo<=m+k->m+k<=hi->mJ r.v (iop P r.o r.env E)=true
 | [],_,_,k,E,hk,_,_=>by simp at hk
 | h::hs,m,hst,k,E,hk,h1,h2=>by
   have hst':cond (Nat.ble lo m&&Nat.ble m hi) (cond (mJ r.v (iop P r.o r.env h)) (gD P lo hi r hs (m+1)) false) (gD P lo hi r hs (m+1))=true:=hst
   cases k with
   | zero =>
     simp only[zOM,zN2] at hk;subst hk;have e1:Nat.ble lo m=true:=zOA (by omega);have e2:Nat.ble m hi=true:=zOA (by omega);rw[e1,e2] at hst'
     cases hs:mJ r.v (iop P r.o r.env h) with
     | true=>rfl
     | false=>rw[hs] at hst';cases hst'
   | succ k =>
     have hnext:gD P lo hi r hs (m+1)=true:=by
      cases hc:(Nat.ble lo m&&Nat.ble m hi) with
      | true =>
        rw[hc] at hst'
        cases hs:mJ r.v (iop P r.o r.env h) with
        | true=>rw[hs] at hst';exact hst'
        | false=>rw[hs] at hst';cases hst'
      | false=>rw[hc] at hst';exact hst'
     exact qKL hs (m+1) hnext k E (by simpa using hk) (by omega) (by omega)
theorem qNU {v:Value}{r:Option zEM}(h:mJ v r=true):∃ H,r=some (.val v H):=by
 unfold mJ at h;split at h
 ·rename_i u H;exact⟨H,by rw[qBX h]⟩
 ·cases h
theorem qDK {b:Nat}{o:Option Obj}:∀ (hs:List IH) (n:Nat),qBO b o hs n=true->∀ m E,m < n->hs[m]?=some E->E.get b=o
 | [],_,_,m,E,_,hm=>by simp at hm
 | h::hs,0,_,m,E,hlt,_=>by omega
 | h::hs,n+1,hst,m,E,hlt,hm=>by
   have hst':cond (q71 (h.get b) o) (qBO b o hs n) false=true:=hst
   cases hc:q71 (h.get b) o with
   | false=>rw[hc] at hst';cases hst'
   | true =>
     rw[hc] at hst'
     cases m with
     | zero =>
       simp only[zOM,zN2] at hm;subst hm;exact p8 hc
     | succ m=>exact qDK hs n hst' m E (by omega) (by simpa using hm)
theorem qBF {H1:IH}{hs:List IH}:∀ (al:List Nat) (b:Nat),oD H1 hs al b=true->∀ k hi,al[k]?=some hi->∀ m E,m < hi->hs[m]?=some E->E.get (b+k)=H1.get (b+k)
 | [],_,_,k,hi,hk=>by simp at hk
 | a::al,b,h,k,hi,hk=>by
   have h':cond (qBO b (H1.get b) hs a) (oD H1 hs al (b+1)) false=true:=h
   cases hc:qBO b (H1.get b) hs a with
   | false=>rw[hc] at h';cases h'
   | true =>
     rw[hc] at h'
     cases k with
     | zero =>
       simp only[zOM,zN2] at hk;subst hk;exact fun m E hm he=>qDK hs a hc m E hm he
     | succ k =>
       intro m E hm he;have:=qBF al (b+1) h' k hi (by simpa using hk) m E hm he
       rwa [show b+(k+1)=b+1+k by omega]
theorem qH9:∀ (l:List Oper) (n i:Nat) (o:Oper),l[i]?=some o->qL o=true->((l.zipIdx n).filter fun p=>qL p.1)[d9 (l.take i)]?=some (o,n+i)
 | [],n,i,o,h,_=>by simp at h
 | p::l,n,0,o,h,ha=>by
   simp only[zOM,zN2] at h;subst h;rw[zQ6,zQ8,if_pos ha];rfl
 | p::l,n,i+1,o,h,ha=>by
   have ih:=qH9 l (n+1) i o (by simpa using h) ha;rw[zQ6,zQ8,zPV,aU];by_cases hp:qL p=true
   ·rw[if_pos hp,if_pos hp,zQM 1,zQ0,ih];simp;omega
   ·rw[if_neg hp,if_neg hp,zOR,ih];simp;omega
theorem qWU (ho:ops[i]?=some o)(ha:qL o=true):(qE3 ops)[d9 (ops.toList.take i)]?=some (qZR ops i):=by
 unfold qE3 qOR;rw[zN9,qH9 ops.toList 0 i o (by simpa using ho) ha];simp[qZR,eU]
theorem qL4 (ho:l[i]?=some o)(ha:qL o=true):d9 (l.take i) < d9 l:=by
 have e1:l=l.take i++l.drop i:=(zRV i l).symm;have hlt:i < l.length:=(zN0.1 ho).1
 have e2:l.drop i=o::l.drop (i+1):=by
  rw[zQU hlt]
  congr 1
  have:=zNX hlt;rw[ho] at this;simpa using this.symm
 conv=>rhs;rw[e1,e2]
 unfold d9;rw[List.countP_append,zQ7,if_pos ha];omega
theorem qVV (ho:l[i]?=some o)(ha:qL o=true)(hij:i < j):d9 (l.take i) < d9 (l.take j):=by
 have h1:(l.take j)[i]?=some o:=by rw[zPJ,if_pos hij];exact ho
 have:=qL4 h1 ha
 rwa [zQ4,zPK (by omega)] at this
end Go.Idl
namespace Go.Idl
variable {P:Program}{nat:xK}{B:Nat}
variable {E H:IH}{G:Nat->Bool}{S:Array Bool}{a b env zGL:Env}{f f0:Inj}{i j:Nat}{o:Oper}{q:Oper×Nat->Bool}{t:Tmp}{v:Value}{w w0:World}
structure DR (P:Program) (run:Job->IH->T Out) (nat:xK) (ops:Array Oper) (zEI:Env) (H0:IH) (e1:Env) (H1:IH) (eF:Env) (HF:IH) (hs:List IH) (rs:List Rec):Prop where
 st:Stat ops
 ta:zHU P ops.toList zEI H0 e1 H1
 tr:Trace P run nat ops (loose ops) ops.toList 0 e1 H1 eF HF hs rs
 stable:∀ r∈rs,tC P (loose ops) (H1::hs) r=true
 fresh:oD H1 hs (qE3 ops) H0.size=true
theorem zBR {run:Job->IH->T Out}{ops:Array Oper}{r:Env×IH}(hd:aD ops=true)(h:qRG P run nat ops env H=some r) :
 ∃ e1 H1 hs rs,DR P run nat ops env H e1 H1 r.1 r.2 hs rs:=by
 unfold qRG at h;split at h
 ·rename_i e1 H1 ha;unfold qMW at h;split at h
  ·rename_i zEX H2 hs rs hD
   cases hst:jX (tC P (loose ops) (H1::hs)) rs with
   | false=>rw[hst] at h;cases h
   | true =>
     rw[hst] at h
     cases hf:oD H1 hs (qE3 ops) H.size with
     | false=>rw[hf] at h;cases h
     | true =>
       rw[hf] at h;cases h;exact⟨e1,H1,hs,rs,qMY hd,mI _ _ _ _ _ ha,fE _ _ _ _ _ _ _ _ hD,fun r hr=>xV.1 hst r hr,hf⟩
  ·cases h
 ·cases h
def sel (S:Array Bool)(j:Nat):Prop:=S.getD j false=true
def wr (ops:Array Oper)(S:Array Bool)(t:Nat):Prop:=∃ j o,ops[j]?=some o∧sel S j∧o.dst=some t
open Classical in
noncomputable def cur (ops:Array Oper)(S:Array Bool)(zEI eF:Env):Env:=(List.range zEI.length).map fun t=>if wr ops S t then eF.at t else zEI.at t
theorem jV (ops:Array Oper)(S:Array Bool)(zEI eF:Env):(cur ops S zEI eF).length=zEI.length:=by simp[cur]
theorem qV7 {t:Nat}(h:env.length<=t):env.at t=undef:=by
 simp[Env.at,qF,zO9 h]
open Classical in
theorem qJJ {ops:Array Oper}{zEI eF:Env}(hl:eF.length=zEI.length)(t:Nat):(cur ops S zEI eF).at t=if wr ops S t then eF.at t else zEI.at t:=by
 by_cases ht:t < zEI.length
 ·simp[cur,Env.at,qF,zR5 ht]
 ·rw[qV7 (by rw[jV];omega),qV7 (by omega),qV7 (by omega)];simp
theorem qMV (hl:a.length=b.length)(h:∀ t,a.at t=b.at t):a=b:=by
 apply zPB;intro t;have:=qWF hl (h t)
 rwa [qF,qF] at this
theorem yP (hj:j < S.size):sel (S.setIfInBounds j true) i ↔ i=j∨sel S i:=by
 unfold sel;by_cases h:i=j
 ·subst h;simp[zN7,hj]
 ·simp only[zN7,zPT (Ne.symm h),h,false_or]
theorem q3V:env.val (.tmp t)=env.at t:=rfl
theorem val_congr {ops:Array Oper}{o:Oper}(h:∀ t∈wZ ops o,a.at t=b.at t):∀ x∈o.op.operands,a.val x=b.val x:=by
 intro x hx
 cases x with
 | tmp t =>
   rw[q3V,q3V];refine h t (zO5 _ (zQB.2 ⟨.tmp t,zO6.1 hx,rfl⟩))
 | _=>rfl
theorem qJC {ops:Array Oper}{o:Oper}(hl:a.length=b.length)(h:∀ t∈wZ ops o,a.at t=b.at t):kP ops o a=kP ops o b:=by
 unfold kP;split
 ·rfl
 ·rename_i g want hg;split
  ·rename_i t ht;rw[qWF hl (h t (zPR _ (by rw[hg];simp[ht])))]
  ·rfl
theorem qDU {run:Job->IH->T Out}{o:Oper}(h:∀ x∈o.op.operands,a.val x=b.val x):rX P run nat o a H=rX P run nat o b H:=by
 unfold rX;rw[qVR h]
section
variable {run:Job->IH->T Out}{ops:Array Oper}{zEI:Env}{H0:IH}{e1:Env}{H1:IH}{eF:Env}{HF:IH}{hs:List IH}{rs:List Rec}
def Clo (ops:Array Oper)(S:Array Bool):Prop:=∀ i j,vK (Region.before ops) i j=true->sel S j->sel S i
def Cut (ops:Array Oper)(S:Array Bool)(p:Nat):Prop:=∀ (j:Nat) (o:Oper),ops[j]?=some o->yU o=true->(sel S j ↔ j < p)
theorem toL (h:ops[j]?=some o):ops.toList[j]?=some o:=by simpa using h
theorem qBK (d:DR P run nat ops zEI H0 e1 H1 eF HF hs rs):eF.length=zEI.length:=by rw[d.tr.len,d.ta.len]
theorem agree (d:DR P run nat ops zEI H0 e1 H1 eF HF hs rs)(zF4:Clo ops S){o:Oper}(ho:ops[j]?=some o)(ha:qL o=false)(hj:¬ sel S j)
 (hp:∀ i,vK (Region.before ops) i j=true->sel S i) (h1:∀ t,¬ writes ops.toList (fun k'=>k' < j) t->zGL.at t=e1.at t) (h2:∀ t,¬ writes ops.toList (fun k'=>j<=k') t->eF.at t=zGL.at t) :
 ∀ t∈wZ ops o,(cur ops S zEI eF).at t=zGL.at t:=by
 intro t ht;rw[qJJ (qBK d)];by_cases hw:wr ops S t
 ·rw[if_pos hw];obtain⟨i,oi,hi,hs,hd⟩:=hw;have hij:i≠j:=fun e=>hj (e ▸ hs)
  have hb:vK (Region.before ops) i j=true:=by
   rcases d.st.reads i j oi o t hij hi ho hd ht with h | ⟨_,h⟩
   ·exact h
   ·exact absurd (zF4 j i h hs) hj
  have hlt:=vY d.st.back j i hb;refine h2 t ?_;rintro⟨k,p,hk,hp',_,hdp⟩;have hp'':ops[k]?=some p:=by simpa using hp'
  exact d.st.dst i k oi p t (by omega) hi hp'' hd hdp
 ·rw[if_neg hw]
  have hA:¬ qBC ops.toList (fun _=>True) t:=by
   rintro⟨k,p,_,hp',hpa,hdp⟩;have hp'':ops[k]?=some p:=by simpa using hp'
   have hkj:k≠j:=by intro e;subst e;rw[ho] at hp'';cases hp'';rw[ha] at hpa;cases hpa
   rcases d.st.reads k j p o t hkj hp'' ho hdp ht with h | ⟨h,_⟩
   ·exact hw ⟨k,p,hp'',hp k h,hdp⟩
   ·rw[hpa] at h;cases h
  rw[<-d.ta.keep t hA];refine (h1 t ?_).symm;rintro⟨k,p,hk,hp',_,hdp⟩;have hp'':ops[k]?=some p:=by simpa using hp'
  rcases d.st.reads k j p o t (by omega) hp'' ho hdp ht with h | ⟨_,h⟩
  ·exact hw ⟨k,p,hp'',hp k h,hdp⟩
  ·have:=vY d.st.back k j h;omega
theorem qNO (d:DR P run nat ops zEI H0 e1 H1 eF HF hs rs)(ho:ops[j]?=some o)(hjs:j < S.size)(hv:∀ t,o.dst=some t->t < zEI.length->eF.at t=v) :
 cur ops (S.setIfInBounds j true) zEI eF=(cur ops S zEI eF).zE0 o.dst v:=by
 apply qMV
 ·rw[gT,jV,jV]
 intro t;rw[qNA,jV,qJJ (qBK d),qJJ (qBK d)];by_cases hd:o.dst=some t
 ·have hw:wr ops (S.setIfInBounds j true) t:=⟨j,o,ho,(yP hjs).2 (.inl rfl),hd⟩
  rw[if_pos hw];by_cases ht:t < zEI.length
  ·rw[if_pos ⟨hd,ht⟩,hv t hd ht]
  ·rw[if_neg (c:=o.dst=some t∧t < zEI.length) (fun h=>ht h.2),qV7 (by rw[qBK d];omega),qV7 (by omega)];simp
 ·rw[if_neg (c:=o.dst=some t∧t < zEI.length) (fun h=>hd h.1)]
  have:wr ops (S.setIfInBounds j true) t ↔ wr ops S t:=by
   constructor
   ·rintro⟨i,oi,h1,h2,h3⟩;rcases (yP hjs).1 h2 with rfl | h2
    ·rw[ho] at h1;cases h1;exact absurd h3 hd
    ·exact⟨i,oi,h1,h2,h3⟩
   ·rintro⟨i,oi,h1,h2,h3⟩;exact⟨i,oi,h1,(yP hjs).2 (.inr h2),h3⟩
  by_cases hw:wr ops S t
  ·rw[if_pos hw,if_pos (this.2 hw)]
  ·rw[if_neg hw,if_neg (fun h=>hw (this.1 h))]
theorem qAM {p:Nat}(h:∀ x∈eU ops,x.2 < p->q x=true):aY (ops.toList.take p)<=((eU ops).filter q).length:=by
 rw[<-qOV];exact filter_le fun a ha hp=>h a ha (by simpa using hp)
theorem qJO {p:Nat}(h:∀ x∈eU ops,q x=true->x.2 < p):((eU ops).filter q).length<=aY (ops.toList.take p):=by
 rw[<-qOV];exact filter_le fun a ha hp=>by simpa using h a ha hp
theorem qAE {x:Oper×Nat}(h:x∈eU ops):ops[x.2]?=some x.1∧yU x.1=true:=by
 obtain⟨h1,h2⟩:=List.mem_filter.1 h;exact⟨by have:=aQ.1 (show (x.1,x.2)∈ops.toList.zipIdx from h1);simpa using this,h2⟩
theorem q5D (d:DR P run nat ops zEI H0 e1 H1 eF HF hs rs)(zF4:Clo ops S)(ho:ops[j]?=some o)(he:yU o=true)(hj:¬ sel S j)
 (hp:∀ i,vK (Region.before ops) i j=true->sel S i):∀ (k:Nat) (q:Oper),ops[k]?=some q->yU q=true->(sel S k ↔ k < j):=by
 intro k q hk hq;by_cases hkj:k=j
 ·subst hkj;exact⟨fun h=>absurd h hj,fun h=>absurd h (zQ2 _)⟩
 ·rcases d.st.zIG k j q o hkj hk ho hq he with h | h
  ·have:=vY d.st.back j k h;exact⟨fun _=>this,fun _=>hp k h⟩
  ·have:=vY d.st.back k j h;exact⟨fun hs=>absurd (zF4 j k h hs) hj,fun hlt=>by omega⟩
theorem qXW {p q:Nat}(h1:Cut ops S p)(h2:Cut ops S q):aY (ops.toList.take p)=aY (ops.toList.take q):=by
 rw[<-qOV,<-qOV]
 congr 1
 refine List.filter_congr fun x hx=>?_
 obtain⟨g1,g2⟩:=qAE hx;have e1:=h1 _ _ g1 g2;have e2:=h2 _ _ g1 g2;have:(x.2 < p) ↔ (x.2 < q):=e1.symm.trans e2;simp[this]
theorem qM5 (d:DR P run nat ops zEI H0 e1 H1 eF HF hs rs){p:Nat}(zF4:Clo ops S)(hcut:Cut ops S p)(hE:(H1::hs)[aY (ops.toList.take p)]?=some E)(ho:ops[i]?=some o)
 (ha:qL o=true) (hi:¬ sel S i):E.get (H0.size+d9 (ops.toList.take i))=H1.get (H0.size+d9 (ops.toList.take i)):=by
 have hle:aY (ops.toList.take p)<=qZR ops i:=qAM fun x hx hlt=>by
  obtain⟨g1,g2⟩:=qAE hx;have hs:=(hcut _ _ g1 g2).2 hlt
  cases hb:vK (Region.before ops) i x.2 with
  | false=>rfl
  | true=>exact absurd (zF4 i x.2 hb hs) hi
 cases hc:aY (ops.toList.take p) with
 | zero=>rw[hc] at hE;simp at hE;rw[hE]
 | succ m =>
   rw[hc] at hE hle;rw[zQ0] at hE;exact qBF (qE3 ops) H0.size d.fresh _ _ (qWU ho ha) m E (by omega) hE
theorem q59 (d:DR P run nat ops zEI H0 e1 H1 eF HF hs rs){p:Nat}(zF4:Clo ops S)(hcut:Cut ops S p)(hE:(H1::hs)[aY (ops.toList.take p)]?=some E)(ho:ops[j]?=some o)
 (he:yU o=false) (ha:qL o=false) (hj:¬ sel S j) (hp:∀ i,vK (Region.before ops) i j=true->sel S i) {Hj:IH} (hH:(H1::hs)[aY (ops.toList.take j)]?=some Hj)
 (hv:iop P o zGL Hj=some (.val v Hj)) (hrec:∀ p,qBD j (loose ops)=some p->(⟨j,o,zGL,v⟩:Rec)∈rs):iop P o zGL E=some (.val v E):=by
 rcases qF2 he ha with hc | hc
 ·obtain⟨u,h1,h2⟩:=qD5 hc Hj _ hv;cases h1;exact h2 E
 ·have l1:q7X ops j<=aY (ops.toList.take p):=qJO fun x hx hb=>by
   obtain⟨g1,g2⟩:=qAE hx;exact (hcut _ _ g1 g2).1 (hp _ hb)
  have l2:q7X ops j<=aY (ops.toList.take j):=qJO fun x hx hb=>vY d.st.back _ _ hb
  have u1:aY (ops.toList.take p)<=qZR ops j:=qAM fun x hx hlt=>by
   obtain⟨g1,g2⟩:=qAE hx;have hs:=(hcut _ _ g1 g2).2 hlt
   cases hb:vK (Region.before ops) j x.2 with
   | false=>rfl
   | true=>exact absurd (zF4 j x.2 hb hs) hj
  have u2:aY (ops.toList.take j)<=qZR ops j:=qAM fun x hx hlt=>by
   cases hb:vK (Region.before ops) j x.2 with
   | false=>rfl
   | true=>have:=vY d.st.back _ _ hb;omega
  by_cases heq:q7X ops j=qZR ops j
  ·have:aY (ops.toList.take p)=aY (ops.toList.take j):=by omega
   rw[this,hH] at hE;cases hE;exact hv
  ·have hf:=qQ5 ho hc heq;have hst:=d.stable _ (hrec _ hf);unfold tC at hst;simp only[hf] at hst;have hsv:=qKL (H1::hs) 0 hst _ E hE (by omega) (by omega);obtain⟨H',hH'⟩:=qNU hsv;simp only at hH';obtain⟨u,hu⟩:=qHV hc hH';cases hu;exact hH'
def unl (ops:Array Oper)(S:Array Bool):Nat:=(List.range ops.size).countP fun j=>!S.getD j false
theorem qK4 {α:Type}{p q:α->Bool}:∀ (l:List α),(∀ a∈l,p a=true->q a=true)->(∃ a∈l,q a=true∧p a=false)->l.countP p < l.countP q
 | [],_,⟨a,ha,_⟩=>by cases ha
 | b::l,h,⟨a,ha,h1,h2⟩=>by
   rw[zQ7,zQ7];have hle:l.countP p<=l.countP q:=List.countP_mono_left fun a ha=>h a (zNZ _ ha)
   rcases zOF.1 ha with rfl | ha
   ·rw[h1,h2];simp;omega
   ·have:=qK4 l (fun a ha=>h a (zNZ _ ha)) ⟨a,ha,h1,h2⟩;by_cases hb:p b=true
    ·rw[if_pos hb,if_pos (h b zN1 hb)];omega
    ·rw[if_neg hb];omega
theorem qLB (hj:j < ops.size)(hs:S.size=ops.size)(hn:¬ sel S j):unl ops (S.setIfInBounds j true) < unl ops S:=by
 refine qK4 _ ?_ ⟨j,zQX.2 hj,?_,?_⟩
 ·intro i _ h;simp only[zOE] at h ⊢
  cases hi:S.getD i false with
  | false=>rfl
  | true =>
    have:=(yP (S:=S) (j:=j) (i:=i) (by omega)).2 (.inr hi);unfold sel at this;rw[h] at this;cases this
 ·simp only[zOE]
  cases hi:S.getD j false with
  | false=>rfl
  | true=>exact absurd hi hn
 ·have:=(yP (S:=S) (j:=j) (i:=j) (by omega)).2 (.inl rfl);unfold sel at this;rw[this];rfl
structure Stand (P:Program) (B:Nat) (ops:Array Oper) (zEI:Env) (H0:IH) (H1:IH) (eF:Env) (hs:List IH) (f0:Inj) (w0:World) (S:Array Bool) (a:Act) (w:World) (p:Nat) (E:IH) (f:Inj):Prop where
 size:S.size=ops.size
 clo:Clo ops S
 cut:Cut ops S p
 heap:(H1::hs)[aY (ops.toList.take p)]?=some E
 rel:Rel P f E w
 grow:Grow f0 H0 w0 f H0 w
 env:qE P f (cur ops S zEI eF) a.tmps.toList
 marks:Marks B f w a.defers
 zFC:H1.size<=E.size
 un:∀ i o,ops[i]?=some o->qL o=true->¬ sel S i->f (H0.size+d9 (ops.toList.take i))=none
theorem Grow.at {f':Inj}{H' H0:IH}{w':World}(h:Grow f H w f' H' w')(h0:H0.size<=H.size):Grow f H0 w f' H0 w' :=
 ⟨zNV _,fun b hb hn=>h.stay b (zNY hb h0) hn,h.le,h.size,h.keep,h.un,h.out,h.lps⟩
theorem qLW (hjs:j < S.size)(zF4:Clo ops S)(hp:∀ i,vK (Region.before ops) i j=true->sel S i):Clo ops (S.setIfInBounds j true):=by
 intro i k hb hk;rw[yP hjs] at hk ⊢;rcases hk with rfl | hk
 ·exact .inr (hp i hb)
 ·exact .inr (zF4 i k hb hk)
theorem qSJ {l:List Oper}(h:l[j]?=some o):l.take (j+1)=l.take j++[o]:=by
 rw[zSB,h];rfl
theorem qV9 (h:ops[j]?=some o)(he:yU o=true):aY (ops.toList.take (j+1))=aY (ops.toList.take j)+1:=by
 rw[qSJ (toL h)];unfold aY;rw[List.countP_append,List.countP_singleton,if_pos he]
theorem qIE (d:DR P run nat ops zEI H0 e1 H1 eF HF hs rs)(ho:ops[j]?=some o)(hd:o.dst=some t):¬ writes ops.toList (fun k=>j < k) t:=by
 rintro⟨k,p,hk,hp,_,hdp⟩;exact d.st.dst j k o p t (by omega) ho (by simpa using hp) hd hdp
theorem Stand.done (d:DR P run nat ops zEI H0 e1 H1 eF HF hs rs){a:Act}{p:Nat}(s:Stand P B ops zEI H0 H1 eF hs f0 w0 S a w p E f)(hall:∀ j,j < ops.size->sel S j) :
 jE P B f0 H0 w0 (fun o=>o=⟨.normal,eF,HF⟩) .normal a w:=by
 have hcut:Cut ops S ops.size:=fun j o ho _=>⟨fun _=>(zN6.1 ho).1,fun h=>hall j h⟩
 have hc:=qXW s.cut hcut
 have hfull:ops.toList.take ops.size=ops.toList:=by
  apply zOL;simp
 rw[hfull] at hc
 have hE:E=HF:=by
  have h1:=s.heap;rw[hc,d.tr.last] at h1;cases h1;rfl
 subst hE
 have hcur:cur ops S zEI eF=eF:=by
  apply qMV
  ·rw[jV,qBK d]
  intro t;rw[qJJ (qBK d)];by_cases hw:wr ops S t
  ·rw[if_pos hw]
  ·rw[if_neg hw];have hn:∀ (k:Nat) (o:Oper),ops[k]?=some o->o.dst≠some t:=fun k o hk hd=>hw ⟨k,o,hk,hall k (zN6.1 hk).1,hd⟩
   rw[d.tr.keep t,d.ta.keep t]
   ·rintro⟨k,o,_,h2,_,h4⟩;exact hn k o (by simpa using h2) h4
   ·rintro⟨k,o,_,h2,_,h4⟩;exact hn k o (by simpa using h2) h4
 have h0:H0.size<=E.size:=zOH (by rw[d.ta.size];omega) s.zFC;exact⟨⟨.normal,eF,E⟩,f,rfl,rfl,s.rel,s.grow.sizes (zNV _) h0,hcur ▸ s.env,s.marks⟩
theorem qYD {F:Fence}(hF:aZ F)(hc:kK P G (yN run nat))(hr:kZ P G run)(d:DR P run nat ops zEI H0 e1 H1 eF HF hs rs)(hG:uY G f0)(hok:gJ (zB f0) ops=true) :
 ∀ (fuel:Nat) (S:Array Bool) (a:Act) (w:World),unl ops S<=fuel->(∃ p E f,Stand P B ops zEI H0 H1 eF hs f0 w0 S a w p E f) ->
  wpAnyIn F 0 P .any ops (jE P B f0 H0 w0 fun o=>o=⟨.normal,eF,HF⟩) fuel S a w:=by
 intro fuel
 have zE7:∀ {S:Array Bool},S.size=ops.size->Region.ready .any ops S=[]->∀ j,j < ops.size->sel S j:=by
  intro S hsz hr j
  induction j using Nat.strongRecOn with
  | _ j ih =>
    intro hj;by_cases hs:sel S j
    ·exact hs
    ·exfalso
     have:j∈Region.ready .any ops S:=by
      rw[mem_ready];refine⟨?_,ops[j],by simp[hj],fun e he hb=>?_⟩
      ·unfold sel at hs;rw[zN7] at hs ⊢;rw[zOB (by omega)] at hs ⊢;simpa using hs
      ·have hlt:=d.st.back j ops[j] (by simp[hj]) e he hb;exact ih e.on hlt (by omega)
     rw[hr] at this;cases this
 induction fuel with
 | zero =>
   rintro S a w hu ⟨p,E,f,s⟩
   have hall:∀ j,j < ops.size->sel S j:=by
    intro j hj;have hz:unl ops S=0:=by omega
    unfold unl at hz;have:=zRD.1 hz j (zQX.2 hj);unfold sel;simpa using this
   refine⟨?_,s.done d hall⟩
   cases hrd:Region.ready .any ops S with
   | nil=>rfl
   | cons x l =>
     have hx:x∈Region.ready .any ops S:=by rw[hrd];exact zN1
     rw[mem_ready] at hx;obtain⟨h1,o,ho,_⟩:=hx;have hlt:=(zN6.1 ho).1;have:=hall x hlt;unfold sel at this;rw[zN7,zOB (by rw[s.size];exact hlt)] at h1 this;simp only[zPW] at h1 this;rw[h1] at this;cases this
 | succ fuel ih =>
   rintro S a w hu ⟨p,E,f,s⟩;refine⟨fun hrd=>s.done d (zE7 s.size hrd),fun j hj=>?_⟩;rw[mem_ready] at hj;obtain⟨hjl,o,ho,zGS⟩:=hj;have hlt:=(zN6.1 ho).1;have hjs:j < S.size:=by rw[s.size];exact hlt
   have hnj:¬ sel S j:=by
    unfold sel;rw[zN7,zOB hjs] at hjl ⊢;simp only[zPW] at hjl ⊢;rw[hjl];simp
   have hp:∀ i,vK (Region.before ops) i j=true->sel S i:=by
    intro i hb;obtain⟨e,he,hbd,h3⟩:=(qGR d.st.back ho).1 hb;have:=zGS e he hbd;rcases h3 with rfl | h3
    ·exact this
    ·exact s.clo _ _ h3 this
   have hu':unl ops (S.setIfInBounds j true)<=fuel:=by
    have:=qLB hlt s.size hnj;omega
   have hH0:H0.size<=E.size:=zOH (by rw[d.ta.size];omega) s.zFC;have zFS:=qLW hjs s.clo hp
   have hok':o.op.operands.toList.all (kW (zB f))=true:=by
    have h1:=kQ (zI s.grow.le) hok;unfold gJ at h1;exact zNW.1 h1 o (zO6.1 (Array.mem_of_getElem? ho))
   have hG':uY G f:=hG.mono s.grow.le;unfold wpOpIn;simp only[ho]
   cases hal:qL o with
   | true =>
     obtain⟨elem,hop,hguard⟩:=qKN hal;obtain⟨elem',z,hop',hz,hcell,hval⟩:=d.ta.step j o (toL ho) hal;rw[hop] at hop';cases hop';obtain⟨hz0,hplain⟩:=jS hz;have hwant:Region.wanted o (yielded ops a.tmps)=true:=by unfold Region.wanted;rw[hguard]
     rw[hwant,if_pos rfl]
     have hb:H0.size+d9 (ops.toList.take j) < E.size:=by
      have h1:=qL4 (toL ho) hal;have h2:=d.ta.size;have h3:=s.zFC;omega
     have hcells:E.get (H0.size+d9 (ops.toList.take j))=some (.cells z.cells elem):=by
      rw[qM5 d s.clo s.cut s.heap ho hal hnj];exact hcell
     have hun:=s.un j o ho hal hnj;obtain⟨r1,r2⟩:=s.rel.zJN hb hun hcells hplain;refine⟨fun g _=>hF.fn g,?_⟩
     have zJI:o.semAt F.round a.eval=execOp a.eval o:=by
      cases F.round with
      | none=>rfl
      | some l=>exact Oper.semAt_some l _ _ (fun c hc=>by rw[hop] at hc;cases hc)
     have hrun:(execOp a.eval o).run P w=.ok (.value (.pointer (some ⟨w.heap.size,0,none⟩))) (w.alloc (.cells z.cells elem)):=by
      unfold execOp;rw[hop];simp[Instr.alloc,uH hz0,newVar,newRow]
     rw[zJI,hrun];show wpAnyIn F 0 P .any ops _ fuel (S.setIfInBounds j true) (a.put o.dst (.pointer (some ⟨w.heap.size,0,none⟩))) (w.alloc (.cells z.cells elem));refine ih _ _ _ hu' ⟨p,E,f.add (H0.size+d9 (ops.toList.take j)) ⟨w.heap.size,0,z.cells.size,false⟩,?_⟩;have hg1:=r2 H0 (by omega);refine⟨by simp[s.size],zFS,?_,s.heap,r1,s.grow.trans hg1,?_,?_,s.zFC,?_⟩
     ·intro k q hk hq;rw[yP hjs];have hkj:k≠j:=by intro e;subst e;rw[ho] at hk;cases hk;rw[oP hal] at hq;cases hq
      simp only[hkj,false_or];exact s.cut k q hk hq
     ·rw[qNO d (v:=.pointer (some ⟨H0.size+d9 (ops.toList.take j),0,none⟩)) ho hjs]
      ·refine jD (s.env.mono hg1.le) ?_ _;have:=zEF.ptr (P:=P) (o:=0) (Inj.add_same (f:=f) (b:=H0.size+d9 (ops.toList.take j)) (e:=⟨w.heap.size,0,z.cells.size,false⟩));exact this
      ·intro t hd ht;rw[d.tr.keep t,hval t hd ht]
       ·rintro⟨k,q,hk,hq,_,hdq⟩;exact d.st.dst j k o q t (by omega) ho (by simpa using hq) hd hdq
       ·rintro⟨k,q,_,hq,hqa,hdq⟩;have hq':ops[k]?=some q:=by simpa using hq
        have hkj:j≠k:=by intro e;subst e;rw[ho] at hq';cases hq';rw[hal] at hqa;cases hqa
        exact d.st.dst j k o q t hkj ho hq' hd hdq
     ·rw[put_defers];exact Marks.grow hg1 _ s.marks
     ·intro i q hi hq hni;rw[yP hjs] at hni;have hij:i≠j:=fun e=>hni (.inl e)
      have hne:H0.size+d9 (ops.toList.take i)≠H0.size+d9 (ops.toList.take j):=by
       rcases Nat.lt_or_gt_of_ne hij with h | h
       ·have:=qVV (toL hi) hq h;omega
       ·have:=qVV (toL ho) hal h;omega
      rw[Inj.zEG hne];exact s.un i q hi hq (fun h=>hni (.inr h))
   | false =>
     obtain⟨zGL,Hj,b1,b2,b3,b4,b5⟩:=d.tr.step j o (toL ho) hal;rw[zOR] at b5;have hag:=agree d s.clo ho hal hnj hp b2 b3;have hlen:(cur ops S zEI eF).length=zGL.length:=by rw[jV,b1,d.ta.len]
     have hle':zGL.length=zEI.length:=by rw[b1,d.ta.len]
     have hval:=val_congr hag;have hwc:=qJC hlen hag
     -- the cut behind the operation,and the heap there
     have zGE:yU o=true->Cut ops S j:=fun he=>q5D d s.clo ho he hnj hp
     have hEj:yU o=true->E=Hj:=fun he=>by
      have h1:=s.heap;rw[qXW s.cut (zGE he),b4] at h1;cases h1;rfl
     have cut':∀ (E':IH),(yU o=true->(H1::hs)[aY (ops.toList.take j)+1]?=some E')->(yU o=false->E'=E) ->
      ∃ p',Cut ops (S.setIfInBounds j true) p'∧(H1::hs)[aY (ops.toList.take p')]?=some E':=by
      intro E' h1 h2
      cases he:yU o with
      | true =>
        refine⟨j+1,?_,by rw[qV9 ho he];exact h1 he⟩;intro k q hk hq;rw[yP hjs,zGE he k q hk hq];omega
      | false =>
        refine⟨p,?_,by rw[h2 he];exact s.heap⟩;intro k q hk hq;rw[yP hjs];have hkj:k≠j:=by intro e;subst e;rw[ho] at hk;cases hk;rw[he] at hq;cases hq
        simp only[hkj,false_or];exact s.cut k q hk hq
     have un':∀ (f':Inj),(∀ b,b < E.size->f b=none->f' b=none)->∀ i q,ops[i]?=some q->qL q=true->¬ sel (S.setIfInBounds j true) i->f' (H0.size+d9 (ops.toList.take i))=none:=by
      intro f' hst i q hi hq hni;rw[yP hjs] at hni;have h1:=qL4 (toL hi) hq;have h2:=d.ta.size;have h3:=s.zFC;exact hst _ (by omega) (s.un i q hi hq (fun h=>hni (.inr h)))
     rcases b5.out with ⟨c1,c2,c3⟩ | ⟨c1,v,H',c2,c3,c4,c5,c6⟩
     ·rw[<-hwc] at c1;rw[xD s.env c1,if_neg (by simp)];refine⟨fun g _=>hF.fn g,ih _ _ _ hu' ?_⟩;obtain⟨p',k1,k2⟩:=cut' E (fun he=>by rw[hEj he];exact c3 he) (fun _=>rfl);refine⟨p',E,f,by simp[s.size],zFS,k1,k2,s.rel,s.grow,?_,by rw[put_defers];exact s.marks,s.zFC,un' f fun _ _ h=>h⟩;rw[qNO d ho hjs (v:=undef) fun t hd ht=>c2 t hd (Nat.lt_of_lt_of_eq ht hle'.symm) (qIE d ho hd)];exact jD s.env .undef _
     ·rw[<-hwc] at c1;rw[xD s.env c1,if_pos rfl]
      have hrun:∃ E',rX P run nat o (cur ops S zEI eF) E=.ret (v,E')∧(yU o=true->E'=H')∧(yU o=false->E'=E):=by
       cases he:yU o with
       | true=>exact⟨H',by rw[qDU hval,hEj he];exact c2,fun _=>rfl,fun h=>absurd h (by simp)⟩
       | false =>
         obtain⟨g1,g2⟩:=qJ2 he hal c2;simp only at g1 g2;have:=q59 d s.clo s.cut s.heap ho he hal hnj hp b4 g2 c6;exact⟨E,by rw[qDU hval];exact qZM this,fun h=>absurd h (by simp),fun _=>rfl⟩
      obtain⟨E',q1,q2,q3⟩:=hrun;refine wH (Q:=fun r=>r=(v,E')) hF hc hr s.rel hG' s.env hok' (by rw[q1];rfl) ?_;rintro r v' w' f' rfl k1 k2 k3;refine ih _ _ _ hu' ?_;obtain⟨p',m1,m2⟩:=cut' E' (fun he=>by rw[q2 he];exact c4 he) q3;refine⟨p',E',f',by simp[s.size],zFS,m1,m2,k1,s.grow.trans (k2.at hH0),?_,by rw[put_defers];exact Marks.grow k2 _ s.marks,zOH s.zFC k2.zFC,un' f' k2.stay⟩;rw[qNO d ho hjs (v:=v) fun t hd ht=>c3 t hd (Nat.lt_of_lt_of_eq ht hle'.symm) (qIE d ho hd)];exact jD (s.env.mono k2.le) k3 _
theorem qDW (zLP:P.follows .mixedOrders=true)(hc:kK P G (yN run nat))(hr:kZ P G run):qHI P G nat run:=by
 intro B F id ops env H f a w r hF hR hG hok hdr zEL hm h;obtain⟨e1,H1,hs,rs,d⟩:=zBR hdr h;refine wpIn_region_any zLP (qYD hF hc hr d hG hok _ _ _ _ ?_ ⟨0,H1,f,?_⟩)
 ·unfold unl;have:=zRW (p:=fun j=>!(Array.replicate ops.size false).getD j false) (l:=List.range ops.size);simpa using this
 ·have hsel:∀ i,¬ sel (Array.replicate ops.size false) i:=by
   intro i h;unfold sel at h;rw[zN7,zRH] at h;split at h <;> simp at h
  have hcur:cur ops (Array.replicate ops.size false) env r.1=env:=by
   apply qMV (jV _ _ _ _);intro t;rw[qJJ (qBK d),if_neg];rintro⟨j,o,_,h2,_⟩;exact hsel j h2
  have hw:Grow f H w f H { w with drawn:=w.drawn+1 }:=Grow.world rfl;refine⟨by simp,fun i j _ hj=>absurd hj (hsel j),fun j o _ _=>⟨fun h=>absurd h (hsel j),fun h=>by omega⟩,?_,(d.ta.rel f w hR).world rfl,hw,by rw[hcur];exact zEL,Marks.grow hw _ hm,zNV _,?_⟩
  ·simp[aY]
  ·intro i o ho ha _
   cases hx:f (H.size+d9 (ops.toList.take i)) with
   | none=>rfl
   | some y=>have:=hR.dom _ _ hx;omega
end
end Go.Idl
