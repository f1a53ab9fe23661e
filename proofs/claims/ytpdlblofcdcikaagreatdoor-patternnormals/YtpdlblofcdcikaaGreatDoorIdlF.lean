/- Trees of choices, what a run writes, operations in a frame, code, calls, rounds: an ideal run is a run of the model. Conditions: none. -/
import Derived.Test.YtpdlblofcdcikaaGreatDoorIdlE
import Derived.TacticsIn
import Derived.RangeFuncRecord
import Derived.Test.YtpdlblofcdcikaaGreatDoorIdlA
set_option linter.unusedSimpArgs false
set_option linter.unusedVariables false
namespace Go.Idl

/-! ### Trees -/
def T.holds {α : Type} (Q : α → Prop) (t : T α) : Prop := T.rec False (fun a => Q a) (fun n _ ih => ∀ i, i < n → ih i) (fun p _ ih => ∀ r, p r → ih r) t
/-- of all that ends -/
def T.all {α : Type} (Q : α → Prop) (t : T α) : Prop := T.rec True (fun a => Q a) (fun n _ ih => ∀ i, i < n → ih i) (fun _ _ _ => True) t
theorem T.holds_mono {α : Type} {Q R : α → Prop} (h : ∀ a, Q a → R a) : ∀ (t : T α), t.holds Q → t.holds R
  | .fail, hq => hq
  | .ret a, hq => h a hq
  | .ch n k, hq => fun i hi => T.holds_mono h (k i) (hq i hi)
  | .sp p k, hq => fun r hr => T.holds_mono h (k r) (hq r hr)
theorem T.all_mono {α : Type} {Q R : α → Prop} (h : ∀ a, Q a → R a) : ∀ (t : T α), t.all Q → t.all R
  | .fail, _ => trivial
  | .ret a, hq => h a hq
  | .ch n k, hq => fun i hi => T.all_mono h (k i) (hq i hi)
  | .sp _ _, _ => trivial
theorem T.holds_bind {α β : Type} {g : α → T β} {Q : β → Prop} : ∀ (t : T α), (t.bind g).holds Q ↔ t.holds fun a => (g a).holds Q
  | .fail => Iff.rfl
  | .ret a => Iff.rfl
  | .ch n k => by
    constructor
    · intro h i hi; exact (T.holds_bind (k i)).1 (h i hi)
    · intro h i hi; exact (T.holds_bind (k i)).2 (h i hi)
  | .sp p k => by
    constructor
    · intro h i hi; exact (T.holds_bind (k i)).1 (h i hi)
    · intro h i hi; exact (T.holds_bind (k i)).2 (h i hi)
theorem T.all_bind {α β : Type} {g : α → T β} {Q : β → Prop} : ∀ (t : T α), (t.bind g).all Q ↔ t.all fun a => (g a).all Q
  | .fail => Iff.rfl
  | .ret a => Iff.rfl
  | .ch n k => by
    constructor
    · intro h i hi; exact (T.all_bind (k i)).1 (h i hi)
    · intro h i hi; exact (T.all_bind (k i)).2 (h i hi)
  | .sp _ _ => Iff.rfl

theorem mapM_get {α β : Type} (g : α → Option β) : ∀ (l : List α) (r : List β), l.mapM g = some r → ∀ (i : Nat) a, l[i]? = some a → ∃ b, r[i]? = some b ∧ g a = some b := by
  intro l r h i a ha
  have := optMapM g l r h
  have h1 := congrArg (fun l => l[i]?) this
  simp only [List.getElem?_map, ha, Option.map_some] at h1
  cases hb : r[i]? with
  | none => rw [hb] at h1; cases h1
  | some b => rw [hb] at h1; simp at h1; exact ⟨b, rfl, h1⟩

theorem T.leaves_all {α : Type} {Q : α → Prop} : ∀ (t : T α) (l : List α), t.leaves = some l → ((∀ a ∈ l, Q a) → t.holds Q) ∧ (t.all Q → ∀ a ∈ l, Q a)
  | .fail, l, h => by simp [T.leaves] at h
  | .sp _ _, l, h => by simp [T.leaves] at h
  | .ret a, l, h => by
    simp [T.leaves] at h
    subst h
    exact ⟨fun h => h a (by simp), fun h b hb => by simp at hb; subst hb; exact h⟩
  | .ch n k, l, h => by
    simp only [T.leaves, Option.map_eq_some_iff] at h
    obtain ⟨ls, h1, rfl⟩ := h
    have h2 : ∀ i, i < n → ∃ b, ls[i]? = some b ∧ (k i).leaves = some b := fun i hi => mapM_get _ _ _ h1 i i (by simp [hi])
    constructor
    · intro hq i hi
      obtain ⟨b, hb, hl⟩ := h2 i hi
      exact ((k i).leaves_all b hl).1 fun a ha => hq a (List.mem_flatten.2 ⟨b, List.mem_of_getElem? hb, ha⟩)
    · intro hall a ha
      obtain ⟨b, hb, hab⟩ := List.mem_flatten.1 ha
      obtain ⟨i, hi⟩ := List.mem_iff_getElem?.1 hb
      have hlen : ls.length = n := by
        have := congrArg List.length (optMapM _ _ _ h1)
        simpa using this.symm
      have hin : i < n := by rw [← hlen]; exact (List.getElem?_eq_some_iff.1 hi).1
      obtain ⟨b', hb', hl⟩ := h2 i hin
      rw [hi] at hb'; cases hb'
      exact ((k i).leaves_all b hl).2 (hall i hin) a hab

/-! ### What a run writes -/
structure Ext (H H' : IH) : Prop where
  size : H.size ≤ H'.size
  log : ∃ l, H'.log = l ++ H.log ∧ ∀ b, b < H.size → b ∉ l → H'.get b = H.get b

theorem Ext.refl (H : IH) : Ext H H := ⟨Nat.le_refl _, [], rfl, fun _ _ _ => rfl⟩
theorem Ext.trans {H H1 H2 : IH} (a : Ext H H1) (b : Ext H1 H2) : Ext H H2 := by
  obtain ⟨s1, l1, h1, g1⟩ := a
  obtain ⟨s2, l2, h2, g2⟩ := b
  refine ⟨Nat.le_trans s1 s2, l2 ++ l1, by rw [h2, h1, List.append_assoc], fun x hx hn => ?_⟩
  simp only [List.mem_append, not_or] at hn
  rw [g2 x (Nat.lt_of_lt_of_le hx s1) hn.1, g1 x hx hn.2]
theorem Ext.put (H : IH) (b : Nat) (o : Obj) : Ext H (H.put b o) :=
  ⟨Nat.le_refl _, [b], rfl, fun x _ hn => by rw [IH.get_put, if_neg (by simpa using hn)]⟩
theorem Ext.push (H : IH) (o : Obj) : Ext H (H.push o) :=
  ⟨by simp, [], rfl, fun x hx _ => by rw [IH.get_push, if_neg (by omega)]⟩
theorem Ext.stores {H H' : IH} {b i : Nat} {vs : List Value} (h : H.stores b i vs = some H') : Ext H H' := by
  unfold IH.stores at h
  split at h
  · split at h
    · cases h; exact .put _ _ _
    · cases h
  · cases h

def ExtS (H : IH) : Step1 → Prop
  | .val _ H' => Ext H H'
  | .enter _ _ H' => H' = H
  | .round _ _ H' => H' = H
  | .choice n k => ∀ i, i < n → ∀ v H', k i = some (v, H') → Ext H H'

theorem iappend_ext {P : Program} {ts : Array TypeId} {as : List Value} {H : IH} {s : Step1} (h : iappend P ts as H = some s) : ExtS H s := by
  unfold iappend iappend2 at h
  repeat' split at h
  all_goals first | (cases h; done) | skip
  · unfold iroom at h
    repeat' split at h
    all_goals first | (cases h; exact .refl _) | (rename_i hst; cases h; exact .stores hst) | cases h
  · unfold igrow at h
    split at h
    · split at h
      · rename_i old H2 _ hk
        cases h
        refine .trans ?_ (.push _ _)
        unfold ikill at hk
        repeat' split at hk
        all_goals first | (cases hk; exact .refl _) | (cases hk; exact .put _ _ _) | cases hk
      · cases h
    · cases h

theorem icopy_ext {P : Program} {ts : Array TypeId} {as : List Value} {H : IH} {s : Step1} (h : icopy P ts as H = some s) : ExtS H s := by
  unfold icopy icopyEnd at h
  repeat' split at h
  all_goals first | (cases h; exact .refl _) | (rename_i hst; cases h; exact .stores hst) | cases h

theorem ibuiltin_ext {P : Program} {b : Builtin} {c : Call} {as : List Value} {H : IH} {s : Step1} (h : ibuiltin P b c as H = some s) : ExtS H s := by
  unfold ibuiltin at h
  split at h
  · exact iappend_ext h
  · exact icopy_ext h
  · unfold ilenB at h
    repeat' split at h
    all_goals first | (cases h; exact .refl _) | cases h
  · repeat' split at h
    all_goals first | (cases h; exact .refl _) | cases h
  · unfold iunsafeString at h
    repeat' split at h
    all_goals first | (cases h; exact .refl _) | (cases h; exact .put _ _ _) | cases h
  · cases h

theorem idry_ext {P : Program} {o : Oper} {env : Env} {H : IH} {s : Step1} (h : idry P o env H = some s) : ExtS H s := by
  obtain ⟨v, rfl, _⟩ := idry_val h
  exact .refl _

theorem icall_ext {P : Program} {o : Oper} {c : Call} {env : Env} {H : IH} {s : Step1} (h : icallOp P o c env H = some s) : ExtS H s := by
  unfold icallOp at h
  split at h
  · rename_i r hr
    cases h
    unfold icall at hr
    simp only at hr
    split at hr
    · exact ibuiltin_ext hr
    · cases hr
    · repeat' split at hr
      all_goals first | (cases hr; rfl) | (cases hr; exact .refl _) | cases hr
  · exact idry_ext h

theorem skip_ext {H : IH} {r : Option IH} {s : Step1} (h : skipO r = some s) (hr : ∀ H', r = some H' → Ext H H') : ExtS H s := by
  cases r with
  | none => cases h
  | some H2 => cases h; exact hr H2 rfl
theorem ofO_ext {H : IH} {r : Option Value} {s : Step1} (h : Step1.ofO H r = some s) : ExtS H s := by
  obtain ⟨v, rfl, _⟩ := val_ofO h
  exact .refl _

theorem inext_ext {x : Value} {b : Bool} {H : IH} {s : Step1} (h : inext x b H = some s) : ExtS H s := by
  unfold inext at h
  split at h
  · split at h
    · repeat' split at h
      all_goals first | (cases h; exact .refl _) | (cases h; exact .put _ _ _) | cases h
    · split at h
      · split at h
        · unfold inextMap at h
          split at h
          · cases h; exact .put _ _ _
          · cases h
            intro i _ v H' hk
            simp only at hk
            split at hk
            · split at hk
              · cases hk
              · cases hk; exact .put _ _ _
            · cases hk
        · cases h
      · cases h
    · cases h
  · cases h

theorem nilBin_ext {P : Program} {o : Oper} {op : BinOp} {t : TypeId} {x y : Value} {env : Env} {H : IH} {s : Step1} (h : nilBin P o op t x y env H = some s) : ExtS H s := by
  unfold nilBin at h
  repeat' split at h
  all_goals first | (cases h; exact .refl _) | exact idry_ext h

theorem iop_ext {P : Program} {o : Oper} {env : Env} {H : IH} {s : Step1} (h : iop P o env H = some s) : ExtS H s := by
  unfold iop at h
  split at h <;> first
    | exact ofO_ext h
    | exact idry_ext h
    | exact icall_ext h
    | exact inext_ext h
    | (cases h; exact .refl _)
    | (cases h; done)
    | skip
  · unfold ipick at h; split at h <;> cases h; exact .refl _
  · unfold ialloc at h; split at h <;> cases h; exact .push _ _
  · unfold ibox at h; split at h <;> cases h; exact .push _ _
  · unfold ibuildSlice at h
    repeat' split at h
    all_goals first | (cases h; exact .push _ _) | cases h
  · refine skip_ext h fun H' h' => ?_
    unfold istoreAt at h'
    repeat' split at h'
    all_goals first | exact .stores h' | cases h'
  · unfold inilCheck at h
    repeat' split at h
    all_goals first | (cases h; exact .refl _) | cases h
  · unfold ibinOp at h
    split at h
    · split at h
      · unfold intBin2 at h
        rw [cond_eq_ite] at h
        repeat' split at h
        all_goals first | (cases h; exact .refl _) | exact idry_ext h
      · exact nilBin_ext h
    · exact nilBin_ext h
  · unfold iconvert at h
    split at h
    · exact ofO_ext h
    · exact idry_ext h
  · unfold imakeFunc at h; split at h <;> cases h; exact .refl _
  · unfold imakeMap at h; split at h <;> cases h; exact .push _ _
  · unfold imakeSlice at h
    repeat' split at h
    all_goals first | (cases h; exact .push _ _) | cases h
  · unfold isliceOp at h
    split at h
    · exact idry_ext h
    · exact ofO_ext h
  · unfold iindexOp at h
    split at h
    · exact idry_ext h
    · exact ofO_ext h
  · refine skip_ext h fun H' h' => ?_
    unfold imapUpdate at h'
    repeat' split at h'
    all_goals first | (cases h'; exact .put _ _ _) | cases h'
  · refine skip_ext h fun H' h' => ?_
    unfold imapUpdate at h'
    repeat' split at h'
    all_goals first | (cases h'; exact .put _ _ _) | cases h'
  · unfold imapEntry at h
    repeat' split at h
    all_goals first | (cases h; exact .put _ _ _) | cases h
  · refine skip_ext h fun H' h' => ?_
    unfold ientryStore at h'
    repeat' split at h'
    all_goals first | (cases h'; exact .put _ _ _) | cases h'
  · unfold irange at h
    repeat' split at h
    all_goals first | (cases h; exact .push _ _) | cases h
  · unfold iextract at h
    split at h
    · unfold iextract2 at h
      split at h
      · rw [cond_eq_ite] at h
        split at h
        · cases h; exact .refl _
        · cases h
      · cases h
    · cases h

end Go.Idl

namespace Go.Idl

theorem veqF_sound (n : Nat) : ∀ v w, veqF n v w = true → v = w := by
  induction n with
  | zero => intro v w h; exact absurd h (by show ¬ (false = true); simp)
  | succ n ih =>
    intro v w h
    have hl : ∀ (a b : Array Value), eqL (veqF n) a.toList b.toList = true → a = b := fun a b hab => Array.ext' (eqL_sound ih hab)
    have hs : ∀ (a b : ByteArray), eqL (· == ·) a.data.toList b.data.toList = true → a = b := fun a b hab => by
      have := eqL_sound (fun x y (h : (x == y) = true) => by simpa using h) hab
      cases a; cases b; simp only at this; congr 1; exact Array.ext' this
    cases v <;> cases w <;> first | (exact absurd h (by show ¬ (false = true); simp)) | skip
    case bool.bool a b => have h' : (a == b) = true := h; simp at h'; rw [h']
    case int.int k a k' b => have h' : (k == k' && a == b) = true := h; simp at h'; rw [h'.1, h'.2]
    case string.string a b => rw [hs a b h]
    case pointer.pointer a b => have h' : (a == b) = true := h; simp at h'; rw [h']
    case slice.slice a l c a' l' c' => have h' : (a == a' && (l == l' && c == c')) = true := h; simp at h'; rw [h'.1, h'.2.1, h'.2.2]
    case map.map a b => have h' : (a == b) = true := h; simp at h'; rw [h']
    case func.func f a b f' a' b' =>
      have h' : (f == f' && (eqL (veqF n) a.toList a'.toList && eqL (veqF n) b.toList b'.toList)) = true := h
      simp only [Bool.and_eq_true, beq_iff_eq] at h'
      rw [h'.1, hl _ _ h'.2.1, hl _ _ h'.2.2]
    case nilFunc.nilFunc => rfl
    case nilIface.nilIface => rfl
    case agg.agg a b => rw [hl _ _ h]
    case tuple.tuple a b => rw [hl _ _ h]

theorem veq_sound {v w : Value} (h : veq v w = true) : v = w := veqF_sound 4 v w h
theorem veqL_sound {l m : List Value} (h : veqL l m = true) : l = m := eqL_sound (fun _ _ => veq_sound) h

theorem entries_ext {es es' : Array MapEntry} (hk : es.toList.map (·.key) = es'.toList.map (·.key)) (hv : es.toList.map (·.val) = es'.toList.map (·.val)) (hb : es.toList.map (·.born) = es'.toList.map (·.born)) : es = es' := by
  have key : ∀ (l l' : List MapEntry), l.map (·.key) = l'.map (·.key) → l.map (·.val) = l'.map (·.val) → l.map (·.born) = l'.map (·.born) → l = l' := by
    intro l
    induction l with
    | nil => intro l' h _ _; cases l' with
      | nil => rfl
      | cons a b => simp at h
    | cons a l ih => intro l' h1 h2 h3; cases l' with
      | nil => simp at h1
      | cons b l' =>
        simp only [List.map_cons, List.cons.injEq] at h1 h2 h3
        rw [ih l' h1.2 h2.2 h3.2]
        cases a; cases b
        simp only at h1 h2 h3
        rw [h1.1, h2.1, h3.1]
  exact Array.ext' (key _ _ hk hv hb)

theorem oeq_sound {o o' : Obj} (h : oeq o o' = true) : o = o' := by
  unfold oeq at h
  split at h
  · simp only [Bool.and_eq_true, beq_iff_eq] at h
    rw [Array.ext' (veqL_sound h.1.1), h.1.2, h.2]
  · simp only [Bool.and_eq_true, beq_iff_eq] at h
    rw [Array.ext' (veqL_sound h.1), h.2]
  · simp only [Bool.and_eq_true, beq_iff_eq] at h
    rename_i s p s' p'
    have := eqL_sound (fun x y (h : (x == y) = true) => by simpa using h) h.1
    rw [h.2]
    cases s; cases s'; simp only at this; rw [Array.ext' this]
  · simp only [Bool.and_eq_true, beq_iff_eq] at h
    rw [h.1.1.1, h.1.1.2, Array.ext' h.1.2, h.2]
  · simp only [Bool.and_eq_true, beq_iff_eq] at h
    rw [h.1.1.1, entries_ext (veqL_sound h.1.1.2) (veqL_sound h.1.2) h.2]
  · cases h

theorem ooeq_sound {o o' : Option Obj} (h : ooeq o o' = true) : o = o' := by
  unfold ooeq at h
  split at h
  · rfl
  · rw [oeq_sound h]
  · cases h

/-- what holds behind one end holds behind the joined one -/
structure Sub (H0 : IH) (p o : Out) : Prop where
  e : o.e = p.e
  env : ∀ (P : Program) (f : Inj) (l : List Value), VRelL P f p.env l → VRelL P f o.env l
  rel : ∀ (P : Program) (f : Inj) (w : World), Rel P f p.H w → Rel P f o.H w
  keep : ∀ f, Keep f H0 p.H → Keep f H0 o.H
  size : p.H.size ≤ o.H.size

theorem joinEnv_length : ∀ (a b : Env), a.length = b.length → (joinEnv a b).length = a.length
  | [], [], _ => rfl
  | x :: a, y :: b, h => by simp [joinEnv, joinEnv_length a b (by simpa using h)]
  | [], _ :: _, h => by simp at h
  | _ :: _, [], h => by simp at h

theorem joinEnv_left {P : Program} {f : Inj} : ∀ (a b l : List Value), a.length = b.length → VRelL P f a l → VRelL P f (joinEnv a b) l
  | [], [], l, _, h => by rw [h.nil_left]; exact .nil
  | x :: a, y :: b, l, hl, h => by
    obtain ⟨v', t', rfl, hv, ht⟩ := h.uncons
    refine .cons ?_ (joinEnv_left a b t' (by simpa using hl) ht)
    split
    · exact hv
    · exact .any _
  | [], _ :: _, l, h, _ => by simp at h
  | _ :: _, [], l, h, _ => by simp at h
theorem joinEnv_right {P : Program} {f : Inj} : ∀ (a b l : List Value), a.length = b.length → VRelL P f b l → VRelL P f (joinEnv a b) l
  | [], [], l, _, h => by rw [h.nil_left]; exact .nil
  | x :: a, y :: b, l, hl, h => by
    obtain ⟨v', t', rfl, hv, ht⟩ := h.uncons
    refine .cons ?_ (joinEnv_right a b t' (by simpa using hl) ht)
    split
    · rename_i he; rw [veq_sound he]; exact hv
    · exact .any _
  | [], _ :: _, l, h, _ => by simp at h
  | _ :: _, [], l, h, _ => by simp at h

theorem foldEnv {P : Program} {f : Inj} {l : List Value} : ∀ (rest : List Out) (e : Env), (∀ p ∈ rest, p.env.length = e.length) → (VRelL P f e l ∨ ∃ p ∈ rest, VRelL P f p.env l) →
    VRelL P f (rest.foldl (fun e p => joinEnv e p.env) e) l
  | [], e, _, h => by
    rcases h with h | ⟨p, hp, _⟩
    · exact h
    · cases hp
  | q :: rest, e, hl, h => by
    have hq : e.length = q.env.length := (hl q (by simp)).symm
    refine foldEnv rest _ (fun p hp => by rw [joinEnv_length _ _ hq]; exact hl p (by simp [hp])) ?_
    rcases h with h | ⟨p, hp, h⟩
    · exact .inl (joinEnv_left _ _ _ hq h)
    · rcases List.mem_cons.1 hp with rfl | hp
      · exact .inl (joinEnv_right _ _ _ hq h)
      · exact .inr ⟨p, hp, h⟩

theorem foldTr (H : IH) (l : List Nat) (hl : ∀ b ∈ l, (H.get b).isSome = true) : ∀ (t : Tr Obj) (b : Nat), (l.foldl (fun t b => match H.get b with
    | some ob => t.set b ob
    | none => t) t).get b = if b ∈ l then H.get b else t.get b := by
  induction l with
  | nil => intro t b; simp
  | cons x l ih =>
    intro t b
    simp only [List.foldl_cons]
    rw [ih (fun y hy => hl y (by simp [hy]))]
    have hx := hl x (by simp)
    cases hg : H.get x with
    | none => rw [hg] at hx; cases hx
    | some ob =>
      simp only
      by_cases hb : b ∈ l
      · simp [hb]
      · rw [if_neg hb, Tr.get_set]
        by_cases hbx : b = x
        · subst hbx; simp [hg]
        · simp [hb, hbx]

theorem foldMax (l : List Out) : ∀ (m : Nat), m ≤ l.foldl (fun m p => Nat.max m p.H.size) m ∧ ∀ p ∈ l, p.H.size ≤ l.foldl (fun m p => Nat.max m p.H.size) m := by
  induction l with
  | nil => intro m; simp
  | cons x l ih =>
    intro m
    obtain ⟨h1, h2⟩ := ih (Nat.max m x.H.size)
    simp only [List.foldl_cons]
    refine ⟨Nat.le_trans (Nat.le_max_left _ _) h1, fun p hp => ?_⟩
    rcases List.mem_cons.1 hp with rfl | hp
    · exact Nat.le_trans (Nat.le_max_right _ _) h1
    · exact h2 p hp

theorem Ext.since {H H' : IH} (h : Ext H H') {b : Nat} (hb : b < H.size) (hn : b ∉ H'.since H.log.length) : H'.get b = H.get b := by
  obtain ⟨l, hl, hg⟩ := h.log
  refine hg b hb ?_
  unfold IH.since at hn
  rw [hl] at hn
  simpa using hn

theorem joinOut_sub {H0 : IH} {l : List Out} {o : Out} (h : joinOut H0 H0.log.length l = some o) (hext : ∀ p ∈ l, Ext H0 p.H) :
    ((∀ b, H0.size ≤ b → H0.get b = none) → ∀ p ∈ l, Sub H0 p o) ∧ Ext H0 o.H := by
  unfold joinOut at h
  split at h
  · cases h
  · rename_i o1 rest
    split at h
    · rename_i hc
      cases h
      simp only [Bool.and_eq_true, List.all_eq_true, decide_eq_true_eq] at hc
      obtain ⟨hsome, hrest⟩ := hc
      have hb1 : ∀ b, b ∈ (o1.H.since H0.log.length).filter (· < H0.size) ↔ b ∈ o1.H.since H0.log.length ∧ b < H0.size := fun b => by simp
      -- the joined heap, block by block
      have hget : ∀ b, (IH.mk (((o1.H.since H0.log.length).filter (· < H0.size)).foldl (fun t b => match o1.H.get b with
            | some ob => t.set b ob
            | none => t) H0.tr) ((o1 :: rest).foldl (fun m p => Nat.max m p.H.size) 0) H0.base ((o1.H.since H0.log.length).filter (· < H0.size) ++ H0.log)).get b =
          if b ∈ (o1.H.since H0.log.length).filter (· < H0.size) then o1.H.get b else H0.get b := fun b => foldTr o1.H _ hsome H0.tr b
      generalize hJ : (IH.mk (((o1.H.since H0.log.length).filter (· < H0.size)).foldl (fun t b => match o1.H.get b with
            | some ob => t.set b ob
            | none => t) H0.tr) ((o1 :: rest).foldl (fun m p => Nat.max m p.H.size) 0) H0.base ((o1.H.since H0.log.length).filter (· < H0.size) ++ H0.log)) = J at *
      have hJsize : J.size = (o1 :: rest).foldl (fun m p => Nat.max m p.H.size) 0 := by rw [← hJ]
      have hJlog : J.log = (o1.H.since H0.log.length).filter (· < H0.size) ++ H0.log := by rw [← hJ]
      have hlow1 : ∀ b, b < H0.size → J.get b = o1.H.get b := by
        intro b hb
        rw [hget]
        split
        · rfl
        · rename_i hn
          exact ((hext o1 (by simp)).since hb (fun hx => hn ((hb1 b).2 ⟨hx, hb⟩))).symm
      have hlow : ∀ p ∈ o1 :: rest, ∀ b, b < H0.size → J.get b = p.H.get b := by
        intro p hp b hb
        rcases List.mem_cons.1 hp with rfl | hp
        · exact hlow1 b hb
        · obtain ⟨⟨⟨_, _⟩, hs1⟩, hs2⟩ := hrest p hp
          rw [hlow1 b hb]
          by_cases hm1 : b ∈ o1.H.since H0.log.length
          · exact ooeq_sound (List.all_eq_true.1 hs1 b ((hb1 b).2 ⟨hm1, hb⟩))
          · by_cases hm2 : b ∈ p.H.since H0.log.length
            · exact ooeq_sound (List.all_eq_true.1 hs2 b (by simp [hm2, hb]))
            · rw [(hext o1 (by simp)).since hb hm1, (hext p (by simp [hp])).since hb hm2]
      have hhigh : (∀ b, H0.size ≤ b → H0.get b = none) → ∀ b, H0.size ≤ b → J.get b = none := by
        intro hfresh b hb
        rw [hget, if_neg (fun hx => by have := ((hb1 b).1 hx).2; omega)]
        exact hfresh b hb
      have hsize : ∀ p ∈ o1 :: rest, p.H.size ≤ J.size := fun p hp => by rw [hJsize]; exact (foldMax _ 0).2 p hp
      refine ⟨fun hfresh p hp => ⟨?_, ?_, ?_, ?_, hsize p hp⟩, ?_, ?_⟩
      · rcases List.mem_cons.1 hp with rfl | hp
        · rfl
        · exact (hrest p hp).1.1.1.symm
      · intro P f l hl
        refine foldEnv rest o1.env (fun q hq => (hrest q hq).1.1.2) ?_
        rcases List.mem_cons.1 hp with rfl | hp
        · exact .inl hl
        · exact .inr ⟨p, hp, hl⟩
      · intro P f w hR
        have some_low : ∀ b ob, J.get b = some ob → p.H.get b = some ob := by
          intro b ob hb
          by_cases hlt : b < H0.size
          · rw [← hlow p hp b hlt]; exact hb
          · rw [hhigh hfresh b (by omega)] at hb; cases hb
        refine ⟨fun b e hb => Nat.lt_of_lt_of_le (hR.dom b e hb) (hsize p hp), fun b hb => ?_, hR.bound, fun b e ob hb hob => hR.obj b e ob hb (some_low b ob hob), ?_, hR.rosame⟩
        · by_cases hlt : b < H0.size
          · have h1 := (hext p hp).size
            have h2 := hsize p hp
            simp only at hb
            omega
          · exact hhigh hfresh b (by omega)
        · intro b1 b2 e1 e2 o1' o2' hne h1 h2 g1 g2
          exact hR.sep b1 b2 e1 e2 o1' o2' hne h1 h2 (some_low _ _ g1) (some_low _ _ g2)
      · intro f hK
        exact ⟨Nat.le_trans hK.1 (hsize p hp), fun b hb hn => by rw [hlow p hp b hb]; exact hK.2 b hb hn⟩
      · exact Nat.le_trans (hext o1 (by simp)).size (hsize o1 (by simp))
      · exact ⟨_, hJlog, fun b hb hn => by rw [hget, if_neg hn]⟩
    · cases h

theorem Sub.refl (H0 : IH) (p : Out) : Sub H0 p p := ⟨rfl, fun _ _ _ h => h, fun _ _ _ h => h, fun _ h => h, Nat.le_refl _⟩

theorem join_holds {H : IH} {Q : Out → Prop} (hfresh : ∀ b, H.size ≤ b → H.get b = none) (t : T Out) (ha : t.all fun o => Ext H o.H) (h : (join H t).holds Q) : t.holds fun p => ∃ o, Q o ∧ Sub H p o := by
  have triv : t.holds Q → t.holds fun p => ∃ o, Q o ∧ Sub H p o := fun h => T.holds_mono (fun p hp => ⟨p, hp, .refl _ _⟩) t h
  unfold join at h
  split at h
  · rename_i n k
    split at h
    · rename_i l hl
      split at h
      · rename_i o ho
        obtain ⟨h1, h2⟩ := (T.ch n k).leaves_all (Q := fun p => ∃ o, Q o ∧ Sub H p o) l hl
        obtain ⟨_, h4⟩ := (T.ch n k).leaves_all (Q := fun o => Ext H o.H) l hl
        exact h1 fun p hp => ⟨o, h, (joinOut_sub ho (h4 ha)).1 hfresh p hp⟩
      · exact triv h
    · exact triv h
  · exact triv h

theorem join_all {H : IH} (t : T Out) (ha : t.all fun o => Ext H o.H) : (join H t).all fun o => Ext H o.H := by
  unfold join
  split
  · rename_i n k
    split
    · rename_i l hl
      split
      · rename_i o ho
        obtain ⟨_, h4⟩ := (T.ch n k).leaves_all (Q := fun o => Ext H o.H) l hl
        exact (joinOut_sub ho (h4 ha)).2
      · exact ha
    · exact ha
  · exact ha

end Go.Idl

namespace Go.Idl
variable {P : Program} {good : FuncId → Bool} {nat : Nats}

def NatExt (nat : Nats) : Prop := ∀ f g, nat f = some g → ∀ args H, (g args H).all fun r => Ext H r.2
def RunExt (run : Job → IH → T Out) : Prop := ∀ j H, (run j H).all fun o => Ext H o.H

theorem all_ext_trans {α : Type} {g : α → IH} {H H1 : IH} (h : Ext H H1) {t : T α} (ht : t.all fun a => Ext H1 (g a)) : t.all fun a => Ext H (g a) := T.all_mono (fun _ ha => h.trans ha) t ht

theorem callOut_ext {H : IH} {r : Out} (h : Ext H r.H) : (callOut r).all fun r => Ext H r.2 := by
  unfold callOut
  split
  · exact h
  · exact trivial

theorem enterT_ext {run : Job → IH → T Out} (hn : NatExt nat) (hr : RunExt run) (f : FuncId) (args : List Value) (H : IH) : (enterT run nat f args H).all fun r => Ext H r.2 := by
  unfold enterT
  split
  · rename_i g hg; exact hn f g hg args H
  · rw [T.all_bind]
    exact T.all_mono (fun o ho => callOut_ext ho) _ (hr _ H)

theorem iop1_ext {run : Job → IH → T Out} (hn : NatExt nat) (hr : RunExt run) (o : Oper) (env : Env) (H : IH) : (iop1 P run nat o env H).all fun r => Ext H r.2 := by
  unfold iop1 step1T
  split
  · rename_i v H' h; exact iop_ext h
  · rename_i f args H' h
    have : H' = H := iop_ext h
    subst this
    exact enterT_ext hn hr f args H'
  · rename_i l args H' h
    have : H' = H := iop_ext h
    subst this
    rw [T.all_bind]
    exact T.all_mono (fun o ho => callOut_ext ho) _ (hr _ H')
  · rename_i n k h
    intro i hi
    have := iop_ext h i hi
    show (T.ofO (k i)).all _
    cases hk : k i with
    | none => exact trivial
    | some r => exact this r.1 r.2 hk
  · exact trivial

theorem iops_ext {run : Job → IH → T Out} (hn : NatExt nat) (hr : RunExt run) (ops : Array Oper) : ∀ (l : List Oper) (env : Env) (H : IH), (iops P run nat ops l env H).all fun r => Ext H r.2
  | [], env, H => .refl _
  | o :: l, env, H => by
    rw [iops_cons]
    unfold byWant
    split
    · rw [T.all_bind]
      exact T.all_mono (fun r hrr => all_ext_trans hrr (iops_ext hn hr ops l _ _)) _ (iop1_ext hn hr o env H)
    · exact iops_ext hn hr ops l _ _
    · exact trivial

theorem iopsA_ext : ∀ (l : List Oper) (env env1 : Env) (H H1 : IH), iopsA P l env H = some (env1, H1) → Ext H H1
  | [], env, env1, H, H1, h => by simp [iopsA] at h; rw [h.2]; exact .refl _
  | o :: l, env, env1, H, H1, h => by
    unfold iopsA at h
    split at h
    · split at h
      · rename_i v H' hv
        exact .trans (iop_ext hv) (iopsA_ext l _ _ _ _ h)
      · cases h
    · exact iopsA_ext l _ _ _ _ h

theorem out1_all {Q : Value × IH → Prop} {t : T (Value × IH)} {r : Value × IH} (h : Out1 t = some r) (ha : t.all Q) : Q r := by
  unfold Out1 at h
  split at h
  · cases h; exact ha
  · cases h

theorem iopsD_cons {run : Job → IH → T Out} {ops : Array Oper} {lo : List (Nat × Nat × Nat)} {o : Oper} {l : List Oper} {i : Nat} {env : Env} {H : IH} :
    iopsD P run nat ops lo (o :: l) i env H = cond (isAlloc o) (iopsD P run nat ops lo l (i + 1) env H)
      (byWant (iwanted ops o env) (thenD o i env lo (iopsD P run nat ops lo l (i + 1)) (Out1 (iop1 P run nat o env H)))
        (consS o H (iopsD P run nat ops lo l (i + 1) (env.putD o.dst undef) H)) none) := rfl

theorem iopsD_ext {run : Job → IH → T Out} (hn : NatExt nat) (hr : RunExt run) (ops : Array Oper) (lo : List (Nat × Nat × Nat)) : ∀ (l : List Oper) (i : Nat) (env : Env) (H : IH) (r : Env × IH × List IH × List Rec),
    iopsD P run nat ops lo l i env H = some r → Ext H r.2.1
  | [], i, env, H, r, h => by
    have h' : some (env, H, [], []) = some r := h
    cases h'; exact .refl _
  | o :: l, i, env, H, r, h => by
    rw [iopsD_cons] at h
    cases ha : isAlloc o with
    | true => rw [ha] at h; exact iopsD_ext hn hr ops lo l _ _ _ _ h
    | false =>
      rw [ha] at h
      simp only [cond_false] at h
      unfold byWant at h
      split at h
      · cases ho : Out1 (iop1 P run nat o env H) with
        | none => rw [ho] at h; cases h
        | some q =>
          rw [ho] at h
          simp only [thenD, consD] at h
          split at h
          · rename_i e hh hs rs hq
            cases h
            exact .trans (out1_all ho (iop1_ext hn hr o env H)) (iopsD_ext hn hr ops lo l _ _ _ (e, hh, hs, rs) hq)
          · cases h
      · simp only [consS] at h
        split at h
        · rename_i e hh hs rs hq
          cases h
          exact iopsD_ext hn hr ops lo l _ _ _ (e, hh, hs, rs) hq
        · cases h
      · cases h

theorem idraw_ext {run : Job → IH → T Out} (hn : NatExt nat) (hr : RunExt run) {ops : Array Oper} {env : Env} {H : IH} {r : Env × IH} (h : idraw P run nat ops env H = some r) : Ext H r.2 := by
  unfold idraw at h
  split at h
  · rename_i env1 H1 h1
    unfold drawEnd at h
    split at h
    · rename_i env2 H2 hs rs h2
      rw [cond_eq_ite] at h
      split at h
      · cases h
        exact .trans (iopsA_ext _ _ _ _ _ h1) (iopsD_ext hn hr _ _ _ _ _ _ _ h2)
      · cases h
    · cases h
  · cases h

theorem bind_ext {run : Job → IH → T Out} (hr : RunExt run) {j : Job} {H : IH} {k : Out → T Out} (hk : ∀ o, (k o).all fun o' => Ext o.H o'.H) : ((run j H).bind k).all fun o => Ext H o.H := by
  rw [T.all_bind]
  exact T.all_mono (fun o ho => all_ext_trans ho (hk o)) _ (hr j H)

theorem roundStep_ext {run : Job → IH → T Out} (hr : RunExt run) (l : Nat) (args : List Value) (H : IH) : (roundStep run l args H).all fun o => Ext H o.H := by
  unfold roundStep
  split
  · split
    · refine bind_ext hr fun o => ?_
      unfold roundBody
      split
      · split
        · split
          · rw [T.all_bind]
            refine T.all_mono (fun s hs => ?_) _ (hr _ _)
            have hs' : Ext o.H s.H := .trans (.put _ _ _) hs
            unfold roundEnd
            split
            · exact .trans hs' (.put _ _ _)
            · exact trivial
          · exact trivial
        · exact trivial
      · exact trivial
    · exact trivial
  · exact trivial

theorem rangeStep_ext {run : Job → IH → T Out} (hn : NatExt nat) (hr : RunExt run) (v : Value) (params : Array Tmp) (assign body : Code) (env : Env) (H : IH) : (rangeStep P run nat v params assign body env H).all fun o => Ext H o.H := by
  unfold rangeStep
  split
  · rw [cond_eq_ite]
    split
    case isFalse => exact trivial
    rw [T.all_bind]
    refine T.all_mono (fun r hrr => ?_) _ (enterT_ext hn hr _ _ _)
    have h1 : Ext H r.2 := .trans (.push _ _) hrr
    unfold afterRange
    split
    · split
      · exact trivial
      · split
        · exact .trans h1 (.put _ _ _)
        · exact all_ext_trans (.trans h1 (.put _ _ _)) (hr _ _)
    · exact trivial
  · exact trivial

theorem codeStep_ext {run : Job → IH → T Out} (hn : NatExt nat) (hr : RunExt run) (c : Code) (env : Env) (H : IH) : (codeStep P run nat c env H).all fun o => Ext H o.H := by
  unfold codeStep
  split
  · exact .refl _
  · exact .refl _
  · exact .refl _
  · exact .refl _
  · refine bind_ext hr fun o => ?_
    unfold seqStep
    split
    · exact hr _ _
    · exact .refl _
  · unfold condStep
    split
    · exact hr _ _
    · exact trivial
  · refine bind_ext hr fun o => ?_
    unfold blockStep
    split
    · rw [cond_eq_ite]
      split
      · exact .refl _
      · exact .refl _
    · exact .refl _
  · refine join_all _ (bind_ext hr fun o => ?_)
    unfold loopStep
    split
    · exact hr _ _
    · exact .refl _
  · refine bind_ext hr fun o => ?_
    unfold scopeStep
    split
    · exact trivial
    · exact .refl _
  · unfold regionStep
    rw [cond_eq_ite]
    split
    · unfold drawStep
      split
      · rename_i env2 H2 h; exact idraw_ext hn hr h
      · exact trivial
    · rw [T.all_bind]
      exact iops_ext hn hr _ _ _ _
  · exact rangeStep_ext hn hr _ _ _ _ _ _
  · exact trivial

theorem callStep_ext {run : Job → IH → T Out} (hr : RunExt run) (f : FuncId) (args : List Value) (H : IH) : (callStep P good run f args H).all fun o => Ext H o.H := by
  unfold callStep
  split
  · split
    · rw [cond_eq_ite]
      split
      · refine join_all _ (bind_ext hr fun o => ?_)
        unfold resStep
        split
        · split
          · exact .refl _
          · exact trivial
        · split
          · exact .refl _
          · exact trivial
        · exact trivial
      · exact trivial
    · exact trivial
  · exact trivial

theorem iex_ext (hn : NatExt nat) : ∀ (n : Nat), RunExt (iex P good nat n)
  | 0, j, H => trivial
  | n + 1, j, H => by
    rw [iex_succ]
    have hr := iex_ext hn n
    unfold jobStep
    split
    · exact codeStep_ext hn hr _ _ _
    · exact callStep_ext hr _ _ _
    · exact roundStep_ext hr _ _ _

end Go.Idl

namespace Go.Idl
variable {P : Program} {nat : Nats}

/-- the globals that an ideal run may name -/
def Glob (G : Nat → Bool) (f : Inj) : Prop := ∀ g, G g = true → globOk f g = true
theorem Glob.mono {G : Nat → Bool} {f f' : Inj} (h : Glob G f) (hl : f.le f') : Glob G f' := fun g hg => globOk_mono hl g (h g hg)

theorem env_get {f : Inj} {env : Env} {a : Act} (h : VRelL P f env a.tmps.toList) (t : Nat) : VRel P f ((nthR env t).getD undef) (a.tmps.getD t undef) := by
  rw [nthR_eq]
  cases ht : env[t]? with
  | some v =>
    obtain ⟨v', h1, h2⟩ := h.get ht
    have h1' : a.tmps[t]? = some v' := by simpa using h1
    simpa [Array.getD_eq_getD_getElem?, h1'] using h2
  | none =>
    have hlen : env.length ≤ t := List.getElem?_eq_none_iff.1 ht
    have h1' : a.tmps[t]? = none := by
      have := h.1
      rw [Array.getElem?_eq_none]
      simp only [Array.length_toList] at this
      omega
    simpa [Array.getD_eq_getD_getElem?, h1'] using VRel.undef

theorem eval_rel {f : Inj} {env : Env} {a : Act} (h : VRelL P f env a.tmps.toList) {x : Operand} (hx : opdOk (globOk f) x = true) : VRel P f (env.val x) (a.eval x) := by
  cases x with
  | tmp t => exact env_get h t
  | const v => exact .base _ hx
  | global g =>
    obtain ⟨e, h1, h2, h3⟩ := globOk_iff.1 hx
    have := VRel.ptr (P := P) (o := 0) h1
    rw [h2, h3] at this
    exact this
  | func g => exact .base _ rfl

theorem putD_rel {f : Inj} {env : Env} {a : Act} (h : VRelL P f env a.tmps.toList) {v v' : Value} (hv : VRel P f v v') (d : Option Tmp) : VRelL P f (env.putD d v) (a.put d v').tmps.toList := by
  cases d with
  | none => exact h
  | some t =>
    simp only [Env.putD, Act.put, setR_eq]
    rw [Array.toList_setIfInBounds]
    exact h.set hv t

/-- a fence that lets everything pass, of a function's frame or of a round's -/
def Free (F : Fence) : Prop := F = Fence.wide ∨ ∃ l, F = Fence.wide.inRound l
theorem free_wide : Free Fence.wide := .inl rfl
theorem free_round (l : Nat) : Free (Fence.wide.inRound l) := .inr ⟨l, rfl⟩
theorem Free.fn {F : Fence} (h : Free F) (g : FuncId) : F.fn g := by rcases h with rfl | ⟨l, rfl⟩ <;> exact trivial
theorem Free.depth {F : Fence} (h : Free F) : F.depth = none := by rcases h with rfl | ⟨l, rfl⟩ <;> rfl
theorem Free.calls {F : Fence} (h : Free F) {n : Nat} {g : FuncId} {args : Array Value} {w : World} {R : Ending → World → Prop} (hc : CallsIn Fence.wide n P g args w R) : CallsIn F n P g args w R := by
  rcases h with rfl | ⟨l, rfl⟩ <;> exact hc
theorem Free.round {F : Fence} (h : Free F) {n l : Nat} {g : FuncId} {tmps : Array Value} {x y : Code} {w : World} {R : Ending → World → Prop} (hc : RoundIn Fence.wide n P l g tmps x y w R) : RoundIn F n P l g tmps x y w R := by
  rcases h with rfl | ⟨l, rfl⟩ <;> exact hc

def boolOf : Value → Option Bool
  | .bool b => some b
  | _ => none

theorem VRel.undef_inv {f : Inj} {v' : Value} (h : VRel P f (.tuple #[]) v') : v' = .tuple #[] := by
  generalize hv : (Value.tuple #[]) = v at h
  cases h with
  | any _ => simp [unk] at hv
  | undef => rfl
  | base _ _ => rfl
  | tuple ha _ =>
    cases hv
    simp at ha
    rw [Array.eq_empty_of_size_eq_zero ha.symm]
  | _ => cases hv

theorem wanted_rel {f : Inj} {ops : Array Oper} {o : Oper} {env : Env} {a : Act} {b : Bool} (h : VRelL P f env a.tmps.toList) (hw : iwanted ops o env = some b) : Region.wanted o (yielded ops a.tmps) = b := by
  unfold iwanted at hw
  unfold Region.wanted
  split at hw
  · rename_i hg
    cases hw; rw [hg]
  · rename_i j want hg
    rw [hg]
    split at hw
    · rename_i t ht
      split at hw
      · rename_i v hv
        rw [nthR_eq] at hv
        obtain ⟨v', h1, h2⟩ := h.get hv
        have h1' : a.tmps[t]? = some v' := by simpa using h1
        have hy : yielded ops a.tmps j = boolOf v' := by
          unfold yielded
          simp only [ht, Option.bind_some, h1']
          cases v' <;> rfl
        simp only [hy]
        unfold iwantV at hw
        split at hw
        · cases hw
          rw [h2.boolV]
          rename_i c
          cases c <;> cases want <;> rfl
        · rename_i vs
          cases hve : vs.isEmpty with
          | false => rw [hve] at hw; cases hw
          | true =>
            rw [hve] at hw
            cases hw
            have : vs = #[] := by simpa using hve
            subst this
            rw [h2.undef_inv]
            rfl
        · cases hw
      · cases hw
    · rename_i ht
      cases hw
      have hy : yielded ops a.tmps j = none := by
        unfold yielded
        rw [ht]; rfl
      simp [hy]

/-- the run's contract for calls -/
def Comes (P : Program) (f : Inj) (H : IH) (w : World) (Q : Value × IH → Prop) : Ending → World → Prop := fun e w' =>
  ∃ v' r f', e = .returned v' ∧ Q r ∧ Rel P f' r.2 w' ∧ Grow f H w f' r.2 w' ∧ VRel P f' r.1 v'

def CallSpec (P : Program) (G : Nat → Bool) (en : FuncId → List Value → IH → T (Value × IH)) : Prop :=
  ∀ (g : FuncId) (args args' : List Value) (H : IH) (f : Inj) (w : World) (Q : Value × IH → Prop), Rel P f H w → Glob G f → VRelL P f args args' → (en g args H).holds Q →
    CallsIn Fence.wide 0 P g args'.toArray w (Comes P f H w Q)

def RoundSpec (P : Program) (G : Nat → Bool) (run : Job → IH → T Out) : Prop :=
  ∀ (l : Nat) (args args' : List Value) (H : IH) (f : Inj) (w : World) (e : Emb) (Q : Value × IH → Prop), Rel P f H w → Glob G f → f l = some e → VRelL P f args args' →
    ((run (.round l args) H).bind callOut).holds Q →
    ∃ fn tmps assign body, (Instr.yield e.r args'.toArray).run P w = .ok (.round e.r fn tmps assign body) w ∧ RoundIn Fence.wide 0 P e.r fn tmps assign body w (Comes P f H w Q)

theorem noDefer_of_iop {o : Oper} {env : Env} {H : IH} {s : Step1} (h : iop P o env H = some s) : ∀ c, o.op ≠ .defer c := by
  intro c hc
  unfold iop at h
  rw [hc] at h
  cases h

theorem op_sound {G : Nat → Bool} {F : Fence} {run : Job → IH → T Out} {o : Oper} {env : Env} {H : IH} {f : Inj} {a : Act} {w : World} {Q : Value × IH → Prop} {K : Act → World → Prop} {Qx : Exit → Act → World → Prop}
    (hF : Free F) (hc : CallSpec P G (enterT run nat)) (hr : RoundSpec P G run) (hR : Rel P f H w) (hG : Glob G f) (henv : VRelL P f env a.tmps.toList) (hok : o.op.operands.toList.all (opdOk (globOk f)) = true)
    (h : (iop1 P run nat o env H).holds Q)
    (hK : ∀ r v' w' f', Q r → Rel P f' r.2 w' → Grow f H w f' r.2 w' → VRel P f' r.1 v' → K (a.put o.dst v') w') : o.wpIn F 0 P a w K Qx := by
  have hρ : ∀ x ∈ o.op.operands, VRel P f (env.val x) (a.eval x) := fun x hx => eval_rel henv (List.all_eq_true.1 hok x (Array.mem_def.1 hx))
  refine ⟨fun g _ => hF.fn g, ?_⟩
  unfold iop1 at h
  cases hs : iop P o env H with
  | none => rw [hs] at h; exact h.elim
  | some s =>
    rw [hs] at h
    have hd := noDefer_of_iop hs
    have hsem : o.semAt F.round a.eval = execOp a.eval o := by
      cases F.round with
      | none => rfl
      | some l => exact Oper.semAt_some l _ _ hd
    rw [hsem]
    have hpost := iop_sim hR hs hρ
    have value : ∀ v H', NPost P f H w v H' ((execOp a.eval o).run P w) → Q (v, H') → o.uponIn F 0 P a K Qx ((execOp a.eval o).run P w) := by
      rintro v H' ⟨nx, v', w', f', h1, h2, h3, h4, h5, h6⟩ hq
      rw [h1]
      rcases h2 with rfl | ⟨rfl, rfl⟩
      · exact hK (v, H') v' w' f' hq h3 h4 h5
      · exact hK (v, H') undef w' f' hq h3 h4 h5
    cases s with
    | val v H' => exact value v H' hpost h
    | enter g args H' =>
      obtain ⟨rfl, args', ha, hrun⟩ := hpost
      rw [hrun]
      refine ⟨(fun hdep => absurd hdep (by rw [hF.depth]; simp)), ?_⟩
      have := hc g args args' H' f w Q hR hG ha h
      have h2 : CallsIn F 0 P g args'.toArray w (Comes P f H' w Q) := hF.calls this
      refine CallsIn.mono h2 ?_
      rintro e w'' ⟨v', r, f', rfl, hq, h3, h4, h5⟩
      exact hK r v' w'' f' hq h3 h4 h5
    | round l args H' =>
      obtain ⟨rfl, e, args', he, ha, hrun⟩ := hpost
      obtain ⟨fn, tmps, assign, body, hy, hround⟩ := hr l args args' H' f w e Q hR hG he ha h
      rw [hrun, hy]
      refine ⟨(fun hdep => absurd hdep (by rw [hF.depth]; simp)), ?_⟩
      have h2 : RoundIn F 0 P e.r fn tmps assign body w (Comes P f H' w Q) := hF.round hround
      refine RoundIn.mono h2 ?_
      rintro e w'' ⟨v', r, f', rfl, hq, h3, h4, h5⟩
      exact hK r v' w'' f' hq h3 h4 h5
    | choice n k =>
      obtain ⟨i, hi, hpi⟩ := hpost
      have hq := h i hi
      have hq : (T.ofO (k i)).holds Q := hq
      cases hk : k i with
      | none => rw [hk] at hq; exact hq.elim
      | some r => rw [hk] at hq; exact value r.1 r.2 (hpi r.1 r.2 hk) hq

/-- a frame's deferred calls: marks alone, each with its block, shut by none yet -/
def Marks (B : Nat) (f : Inj) (w : World) : List Deferred → Prop
  | [] => B ≤ w.heap.size
  | d :: ds => (∃ r, d.target = .collected r ∧ B ≤ r ∧ r < w.heap.size ∧ w.heap[r]? = some (.deferred (some [])) ∧ (∀ b e, f b = some e → e.r ≠ r) ∧ ∀ d' ∈ ds, d'.target ≠ .collected r) ∧ Marks B f w ds
theorem Marks.grow {B : Nat} {f f' : Inj} {H H' : IH} {w w' : World} (hg : Grow f H w f' H' w') : ∀ (ds : List Deferred), Marks B f w ds → Marks B f' w' ds
  | [], h => Nat.le_trans h hg.size
  | d :: ds, ⟨⟨r, h1, hB, h2, h3, h4, h5⟩, h6⟩ => by
    obtain ⟨_, g2⟩ := hg.keep r h2 (fun ⟨b, e, hb, he, _⟩ => h4 b e hb he)
    exact ⟨⟨r, h1, hB, Nat.lt_of_lt_of_le h2 hg.size, by rw [g2]; exact h3, hg.un r h2 h4, h5⟩, Marks.grow hg ds h6⟩

theorem Marks.le {B : Nat} {f : Inj} {w : World} : ∀ {ds : List Deferred}, Marks B f w ds → B ≤ w.heap.size
  | [], h => h
  | _ :: _, h => Marks.le h.2

theorem put_defers (a : Act) (d : Option Tmp) (v : Value) : (a.put d v).defers = a.defers := by cases d <;> rfl

theorem ops_sound {B : Nat} {G : Nat → Bool} {F : Fence} {run : Job → IH → T Out} {ops : Array Oper} (hF : Free F) (hc : CallSpec P G (enterT run nat)) (hr : RoundSpec P G run) {Qx : Exit → Act → World → Prop} : ∀ (l : List Oper)
    (env : Env) (H : IH) (f : Inj) (a : Act) (w : World) (Q : Env × IH → Prop), Rel P f H w → Glob G f → VRelL P f env a.tmps.toList → Marks B f w a.defers → (∀ o ∈ l, o.op.operands.toList.all (opdOk (globOk f)) = true) →
    (iops P run nat ops l env H).holds Q → (∀ r a' w' f', Q r → Rel P f' r.2 w' → Grow f H w f' r.2 w' → VRelL P f' r.1 a'.tmps.toList → Marks B f' w' a'.defers → Qx .normal a' w') →
    wpListIn F 0 P ops Qx l a w
  | [], env, H, f, a, w, Q, hR, hG, henv, hm, _, h, hK => hK (env, H) a w f h hR (.refl _ _ _) henv hm
  | o :: l, env, H, f, a, w, Q, hR, hG, henv, hm, hok, h, hK => by
    rw [iops_cons] at h
    unfold wpListIn
    unfold byWant at h
    split at h
    · rename_i hw
      rw [wanted_rel henv hw, if_pos rfl]
      rw [T.holds_bind] at h
      refine op_sound hF hc hr hR hG henv (hok o (by simp)) h fun r v' w' f' hq h1 h2 h3 => ?_
      refine ops_sound hF hc hr l (env.putD o.dst r.1) r.2 f' (a.put o.dst v') w' Q h1 (hG.mono h2.le) (putD_rel (henv.mono h2.le) h3 _) (by rw [put_defers]; exact Marks.grow h2 _ hm)
        (fun o' ho' => List.all_eq_true.2 fun x hx => opdOk_mono (globOk_mono h2.le) (List.all_eq_true.1 (hok o' (by simp [ho'])) x hx)) hq
        fun r' a' w'' f'' hq' g1 g2 g3 g4 => hK r' a' w'' f'' hq' g1 (h2.trans g2) g3 g4
    · rename_i hw
      rw [wanted_rel henv hw, if_neg (by simp)]
      exact ⟨fun g _ => hF.fn g, ops_sound hF hc hr l (env.putD o.dst undef) H f (a.put o.dst undef) w Q hR hG (putD_rel henv .undef _) (by rw [put_defers]; exact hm) (fun o' ho' => hok o' (by simp [ho'])) h hK⟩
    · exact h.elim

end Go.Idl

namespace Go.Idl
variable {P : Program} {good : FuncId → Bool} {nat : Nats} {B : Nat}

def exitOf : IExit → Exit
  | .normal => .normal
  | .exit id => .exit id
  | .goto l => .goto l
  | .ret => .ret

/-- what code must come to -/
def XPost (P : Program) (B : Nat) (f : Inj) (H : IH) (w : World) (Q : Out → Prop) : Exit → Act → World → Prop := fun e a' w' =>
  ∃ o f', Q o ∧ e = exitOf o.e ∧ Rel P f' o.H w' ∧ Grow f H w f' o.H w' ∧ VRelL P f' o.env a'.tmps.toList ∧ Marks B f' w' a'.defers

def CodeSpec (P : Program) (G : Nat → Bool) (run : Job → IH → T Out) : Prop :=
  ∀ (B : Nat) (F : Fence) (rd : Bool) (c : Code) (env : Env) (H : IH) (f : Inj) (a : Act) (w : World) (Q : Out → Prop), Free F → rd = F.round.isSome → Rel P f H w → Glob G f → codeOk (globOk f) rd c = true →
    VRelL P f env a.tmps.toList → Marks B f w a.defers → (run (.code c env) H).holds Q → c.wpIn F 0 P (XPost P B f H w Q) a w

/-- a region that draws its order -/
def DrawSpec (P : Program) (G : Nat → Bool) (nat : Nats) (run : Job → IH → T Out) : Prop :=
  ∀ (B : Nat) (F : Fence) (id : Nat) (ops : Array Oper) (env : Env) (H : IH) (f : Inj) (a : Act) (w : World) (r : Env × IH), Free F → Rel P f H w → Glob G f → opsOk (globOk f) ops = true → drawOk ops = true →
    VRelL P f env a.tmps.toList → Marks B f w a.defers → idraw P run nat ops env H = some r → (Code.region id ops true).wpIn F 0 P (XPost P B f H w fun o => o = ⟨.normal, r.1, r.2⟩) a w

theorem xpost_mono {f f1 : Inj} {H H1 : IH} {w w1 : World} {Q Q1 : Out → Prop} (hg : Grow f H w f1 H1 w1) (hq : ∀ o, Q1 o → Q o) {e : Exit} {a : Act} {w2 : World} (h : XPost P B f1 H1 w1 Q1 e a w2) : XPost P B f H w Q e a w2 := by
  obtain ⟨o, f', h1, h2, h3, h4, h5, h6⟩ := h
  exact ⟨o, f', hq o h1, h2, h3, hg.trans h4, h5, h6⟩

theorem xpost_ret {f : Inj} {H : IH} {w : World} {Q : Out → Prop} {env : Env} {a : Act} {e : IExit} (hR : Rel P f H w) (henv : VRelL P f env a.tmps.toList) (hm : Marks B f w a.defers) (h : (T.ret (⟨e, env, H⟩ : Out)).holds Q) :
    XPost P B f H w Q (exitOf e) a w := ⟨_, f, h, rfl, hR, .refl _ _ _, henv, hm⟩

section
variable {G : Nat → Bool} {run : Job → IH → T Out}

theorem seq_sound (hrun : CodeSpec P G run) {F : Fence} {rd : Bool} {x y : Code} {env : Env} {H : IH} {f : Inj} {a : Act} {w : World} {Q : Out → Prop} (hF : Free F) (hrd : rd = F.round.isSome) (hR : Rel P f H w) (hG : Glob G f)
    (hx : codeOk (globOk f) rd x = true) (hy : codeOk (globOk f) rd y = true) (henv : VRelL P f env a.tmps.toList) (hm : Marks B f w a.defers) (h : ((run (.code x env) H).bind (seqStep run y)).holds Q) :
    (Code.seq x y).wpIn F 0 P (XPost P B f H w Q) a w := by
  rw [T.holds_bind] at h
  refine wpIn_seq (wpIn_mono (hrun B F rd x env H f a w _ hF hrd hR hG hx henv hm h) ?_)
  rintro e a' w' ⟨o, f', hq, rfl, h1, h2, h3, h4⟩
  unfold seqStep at hq
  cases he : o.e with
  | normal =>
    rw [he] at hq
    exact wpIn_mono (hrun B F rd y o.env o.H f' a' w' Q hF hrd h1 (hG.mono h2.le) (codeOk_mono (globOk_mono h2.le) _ _ hy) h3 h4 hq) fun e a w => xpost_mono h2 fun _ h => h
  | exit id => rw [he] at hq; exact ⟨o, f', hq, by rw [he], h1, h2, h3, h4⟩
  | goto l => rw [he] at hq; exact ⟨o, f', hq, by rw [he], h1, h2, h3, h4⟩
  | ret => rw [he] at hq; exact ⟨o, f', hq, by rw [he], h1, h2, h3, h4⟩

theorem block_sound (hrun : CodeSpec P G run) {F : Fence} {rd : Bool} {id : Nat} {x : Code} {env : Env} {H : IH} {f : Inj} {a : Act} {w : World} {Q : Out → Prop} (hF : Free F) (hrd : rd = F.round.isSome) (hR : Rel P f H w) (hG : Glob G f)
    (hx : codeOk (globOk f) rd x = true) (henv : VRelL P f env a.tmps.toList) (hm : Marks B f w a.defers) (h : ((run (.code x env) H).bind (blockStep id)).holds Q) :
    (Code.block id x).wpIn F 0 P (XPost P B f H w Q) a w := by
  rw [T.holds_bind] at h
  refine wpIn_block (wpIn_mono (hrun B F rd x env H f a w _ hF hrd hR hG hx henv hm h) ?_)
  rintro e a' w' ⟨o, f', hq, rfl, h1, h2, h3, h4⟩
  unfold blockStep at hq
  cases he : o.e with
  | normal => rw [he] at hq; exact ⟨o, f', hq, by rw [he], h1, h2, h3, h4⟩
  | exit id' =>
    rw [he] at hq
    simp only [exitOf, Exit.inBlock]
    simp only [cond_eq_ite] at hq
    by_cases hid : id' = id
    · rw [if_pos hid]
      rw [if_pos (by rw [hid]; exact Nat.beq_refl id)] at hq
      exact ⟨⟨.normal, o.env, o.H⟩, f', hq, rfl, h1, h2, h3, h4⟩
    · rw [if_neg hid]
      rw [if_neg (fun hb => hid (Nat.eq_of_beq_eq_true hb))] at hq
      exact ⟨o, f', hq, by rw [he]; rfl, h1, h2, h3, h4⟩
  | goto l => rw [he] at hq; exact ⟨o, f', hq, by rw [he], h1, h2, h3, h4⟩
  | ret => rw [he] at hq; exact ⟨o, f', hq, by rw [he], h1, h2, h3, h4⟩

theorem cond_sound (hrun : CodeSpec P G run) {F : Fence} {rd : Bool} {v : Operand} {x y : Code} {env : Env} {H : IH} {f : Inj} {a : Act} {w : World} {Q : Out → Prop} (hF : Free F) (hrd : rd = F.round.isSome) (hR : Rel P f H w) (hG : Glob G f)
    (hv : opdOk (globOk f) v = true) (hx : codeOk (globOk f) rd x = true) (hy : codeOk (globOk f) rd y = true) (henv : VRelL P f env a.tmps.toList) (hm : Marks B f w a.defers) (h : (condStep run (env.val v) x y env H).holds Q) :
    (Code.cond v x y).wpIn F 0 P (XPost P B f H w Q) a w := by
  have hev := eval_rel henv hv
  unfold condStep at h
  split at h
  · rename_i t ht
    rw [ht] at hev
    refine wpIn_cond (t := t) hev.boolV ?_
    cases t with
    | true => exact hrun B F rd x env H f a w Q hF hrd hR hG hx henv hm h
    | false => exact hrun B F rd y env H f a w Q hF hrd hR hG hy henv hm h
  · exact h.elim

theorem region_sound (hc : CallSpec P G (enterT run nat)) (hr : RoundSpec P G run) (hd : DrawSpec P G nat run) {F : Fence} {id : Nat} {ops : Array Oper} {draw : Bool} {env : Env} {H : IH} {f : Inj} {a : Act} {w : World} {Q : Out → Prop} (hF : Free F)
    (hR : Rel P f H w) (hG : Glob G f) (hok : opsOk (globOk f) ops = true) (hdr : (!draw || drawOk ops) = true) (henv : VRelL P f env a.tmps.toList) (hm : Marks B f w a.defers) (h : (regionStep P run nat ops draw env H).holds Q) :
    (Code.region id ops draw).wpIn F 0 P (XPost P B f H w Q) a w := by
  unfold regionStep at h
  cases draw with
  | true =>
    simp only [cond_true] at h
    unfold drawStep at h
    split at h
    · rename_i env2 H2 hi
      refine wpIn_mono (hd B F id ops env H f a w (env2, H2) hF hR hG hok (by simpa using hdr) henv hm hi) fun e a w => xpost_mono (.refl _ _ _) fun o ho => ?_
      subst ho; exact h
    · exact h.elim
  | false =>
    simp only [cond_false] at h
    rw [T.holds_bind] at h
    refine wpIn_region_list (ops_sound hF hc hr ops.toList env H f a w _ hR hG henv hm (fun o ho => List.all_eq_true.1 hok o ho) h ?_)
    intro r a' w' f' hq h1 h2 h3 h4
    exact ⟨⟨.normal, r.1, r.2⟩, f', hq, rfl, h1, h2, h3, h4⟩
end

/-- the least number with a property -/
theorem exists_least {p : Nat → Prop} (h : ∃ n, p n) : ∃ n, p n ∧ ∀ m, p m → n ≤ m := by
  obtain ⟨n, hn⟩ := h
  induction n using Nat.strongRecOn with
  | _ n ih =>
    by_cases hx : ∃ m, m < n ∧ p m
    · obtain ⟨m, hm, hpm⟩ := hx
      exact ih m hm hpm
    · exact ⟨n, hn, fun m hpm => by
        by_cases hmn : n ≤ m
        · exact hmn
        · exact absurd ⟨m, by omega, hpm⟩ hx⟩
open Classical in
noncomputable def least (p : Nat → Prop) : Nat := if h : ∃ n, p n then Classical.choose (exists_least h) else 0
theorem least_spec {p : Nat → Prop} (h : ∃ n, p n) : p (least p) ∧ ∀ m, p m → least p ≤ m := by
  unfold least
  rw [dif_pos h]
  exact Classical.choose_spec (exists_least h)

theorem sub_xpost {f : Inj} {H H0 : IH} {w : World} {Q : Out → Prop} {e : Exit} {a : Act} {w' : World} (h : XPost P B f H w (fun p => ∃ o, Q o ∧ Sub H0 p o) e a w') : XPost P B f H w Q e a w' := by
  obtain ⟨p, f', ⟨o, hq, hs⟩, h1, h2, h3, h4, h5⟩ := h
  exact ⟨o, f', hq, by rw [hs.e]; exact h1, hs.rel _ _ _ h2, h3.sizes (Nat.le_refl _) hs.size, hs.env _ _ _ h4, h5⟩

/-- a loop: with the fuel that is left -/
theorem loop_sound {G : Nat → Bool} (hn : NatExt nat) {F : Fence} {rd : Bool} {x : Code} (hF : Free F) (hrd : rd = F.round.isSome) (n : Nat) (hrun : ∀ m, m < n → CodeSpec P G (iex P good nat m))
    {env : Env} {H : IH} {f : Inj} {a : Act} {w : World} {Q : Out → Prop} (hR : Rel P f H w) (hG : Glob G f)
    (hx : codeOk (globOk f) rd x = true) (henv : VRelL P f env a.tmps.toList) (hm : Marks B f w a.defers) (h : (iex P good nat n (.code (.loop x) env) H).holds Q) :
    (Code.loop x).wpIn F 0 P (XPost P B f H w Q) a w := by
  let J : Act → World → Nat → Prop := fun a1 w1 m => m ≤ n ∧ ∃ env1 H1 f1 Q1, Rel P f1 H1 w1 ∧ Grow f H w f1 H1 w1 ∧ VRelL P f1 env1 a1.tmps.toList ∧ Marks B f1 w1 a1.defers ∧ (iex P good nat m (.code (.loop x) env1) H1).holds Q1 ∧
    ∀ e a2 w2, XPost P B f1 H1 w1 Q1 e a2 w2 → XPost P B f H w Q e a2 w2
  refine wpIn_loop (fun a1 w1 => ∃ m, J a1 w1 m) (fun a1 w1 => least (J a1 w1)) ⟨n, Nat.le_refl _, env, H, f, Q, hR, .refl _ _ _, henv, hm, h, fun _ _ _ h => h⟩ ?_
  intro a1 w1 hI
  obtain ⟨⟨hle, env1, H1, f1, Q1, r1, g1, v1, m1, hh, hq1⟩, hmin⟩ := least_spec hI
  generalize hm0 : least (J a1 w1) = m at *
  cases m with
  | zero => exact hh.elim
  | succ m =>
    have hh' : (join H1 ((iex P good nat m (.code x env1) H1).bind (loopStep (iex P good nat m) x))).holds Q1 := hh
    have hext : ((iex P good nat m (.code x env1) H1).bind (loopStep (iex P good nat m) x)).all fun o => Ext H1 o.H := by
      refine bind_ext (iex_ext hn m) fun o => ?_
      unfold loopStep
      split
      · exact iex_ext hn m _ _
      · exact .refl _
    have h2 := join_holds r1.fresh _ hext hh'
    rw [T.holds_bind] at h2
    refine wpIn_mono (hrun m (by omega) B F rd x env1 H1 f1 a1 w1 _ hF hrd r1 (hG.mono g1.le) (codeOk_mono (globOk_mono g1.le) _ _ hx) v1 m1 h2) ?_
    rintro e a2 w2 ⟨o, f2, hq, rfl, k1, k2, k3, k4⟩
    unfold loopStep at hq
    have out : ∀ {e : IExit}, o.e = e → (T.ret o).holds (fun p => ∃ o, Q1 o ∧ Sub H1 p o) → XPost P B f H w Q (exitOf e) a2 w2 := fun {e} he hq => by
      refine hq1 _ _ _ (sub_xpost (H0 := H1) ⟨o, f2, hq, by rw [he], k1, k2, k3, k4⟩)
    cases he : o.e with
    | normal =>
      rw [he] at hq
      have hJ : J a2 w2 m := ⟨by omega, o.env, o.H, f2, _, k1, g1.trans k2, k3, k4, hq, fun e a3 w3 h3 => hq1 e a3 w3 (xpost_mono k2 (fun _ h => h) (sub_xpost (H0 := H1) h3))⟩
      exact ⟨⟨m, hJ⟩, by have := (least_spec ⟨m, hJ⟩).2 m hJ; show least (J a2 w2) < _; omega⟩
    | exit id => rw [he] at hq; exact out he hq
    | goto l => rw [he] at hq; exact out he hq
    | ret => rw [he] at hq; exact out he hq

end Go.Idl

namespace Go.Idl
variable {P : Program} {good : FuncId → Bool} {nat : Nats} {B : Nat}

/-- a block that no ideal one stands for turns -/
theorem Rel.other {f : Inj} {H : IH} {w w' : World} {r : Nat} (hR : Rel P f H w) (hu : ∀ b e, f b = some e → e.r ≠ r) (hs : w'.heap.size = w.heap.size) (hw : ∀ x : Nat, x ≠ r → w'.heap[x]? = w.heap[x]?) : Rel P f H w' :=
  ⟨hR.dom, hR.fresh, fun b e hb => by rw [hs]; exact hR.bound b e hb, fun b e o hb ho => by rw [hw _ (hu b e hb)]; exact hR.obj b e o hb ho, hR.sep, hR.rosame⟩

theorem leaves_sound {F : Fence} {fn : Func} {tmps : Array Value} {R : Ending → World → Prop} {f : Inj} {H : IH} : ∀ (ds : List Deferred) (w : World), Rel P f H w → Marks B f w ds →
    (∀ w', Rel P f H w' → (∀ r, (∀ d ∈ ds, d.target ≠ .collected r) → w'.heap[r]? = w.heap[r]?) → w'.heap.size = w.heap.size → (w'.os = w.os ∧ w'.output = w.output ∧ w'.tape = w.tape) → ∃ v, (results fn tmps).run P w' = .ok v w' ∧ R (.returned v) w') →
    LeavesInM F 0 P fn tmps R ds .returning w
  | [], w, hR, _, hK => by
    obtain ⟨v, h1, h2⟩ := hK w hR (fun _ _ => rfl) rfl ⟨rfl, rfl, rfl⟩
    exact ⟨v, h1, h2⟩
  | d :: ds, w, hR, ⟨⟨r, h1, hB, h2, h3, h4, h5⟩, h6⟩, hK => by
    have hsame : ∀ x : Nat, x ≠ r → (w.putObj r (.deferred none)).heap[x]? = w.heap[x]? := fun x hx => World.putObj_heap_other hx
    have hR' : Rel P f H (w.putObj r (.deferred none)) := hR.other h4 (by simp) hsame
    refine ⟨by simp, .inl ⟨r, w.putObj r (.deferred none), h1, run_takeDeferred h3, leaves_sound ds _ hR' ?_ fun w' hR2 hs2 hsz hot => hK w' hR2 (fun x hx => ?_) (by rw [hsz]; simp) hot⟩⟩
    · have key : ∀ (ds : List Deferred), (∀ d' ∈ ds, d'.target ≠ .collected r) → Marks B f w ds → Marks B f (w.putObj r (.deferred none)) ds := by
        intro ds
        induction ds with
        | nil => intro _ hb; simpa [Marks] using hb
        | cons d ds ih =>
          rintro hn ⟨⟨x, g1, gB, g2, g3, g4, g5⟩, g6⟩
          have hxr : x ≠ r := fun hx => hn d (by simp) (by rw [g1, hx])
          exact ⟨⟨x, g1, gB, by simpa using g2, by rw [hsame x hxr]; exact g3, g4, g5⟩, ih (fun d' hd' => hn d' (by simp [hd'])) g6⟩
      exact key ds h5 h6
    · rw [hs2 x (fun d' hd' => hx d' (by simp [hd'])), hsame x (fun hxr => hx d (by simp) (by rw [h1, hxr]))]

/-- how a function's results are read -/
structure Reads (g : ResultVar → Sem Value) (tmps : Array Value) : Prop where
  tmp : ∀ t, g (.tmp t) = pure (tmps.getD t undef)
  cell : ∀ a t, g (.cell a t) = (asAddr (tmps.getD a undef)).bind (loadVar t)

theorem ires1_sound {g : ResultVar → Sem Value} {f : Inj} {H : IH} {env : Env} {tmps : Array Value} {rv : ResultVar} {v : Value} (hg : Reads g tmps) (henv : VRelL P f env tmps.toList) (h : ires1 P env H rv = some v) :
    ∀ w, Rel P f H w → ∃ v', (g rv).run P w = .ok v' w ∧ VRel P f v v' := by
  intro w hR
  have hget : ∀ t, VRel P f ((nthR env t).getD undef) (tmps.getD t undef) := fun t => env_get (a := { tmps := tmps, defers := [] }) henv t
  cases rv with
  | tmp t =>
    simp only [ires1, Option.some.injEq] at h
    subst h
    exact ⟨_, by rw [hg.tmp]; simp, hget t⟩
  | cell a t =>
    have h0 : iloadAt P t ((nthR env a).getD undef) H = some v := h
    obtain ⟨v', h1, h2⟩ := sim_loadAt hR h0 (hget a)
    have hp : ∃ x, tmps.getD a undef = .pointer (some x) := by
      have hg := hget a
      unfold iloadAt at h0
      split at h0
      · rename_i b i he
        rw [he] at hg
        obtain ⟨e, _, hv⟩ := hg.ptr_inv
        exact ⟨_, hv⟩
      · cases h0
    obtain ⟨x, hx⟩ := hp
    refine ⟨v', ?_, h2⟩
    rw [hg.cell, hx]
    rw [hx] at h1
    exact h1

theorem iresL_sound {g : ResultVar → Sem Value} {f : Inj} {H : IH} {env : Env} {tmps : Array Value} (hg : Reads g tmps) (henv : VRelL P f env tmps.toList) {w : World} (hR : Rel P f H w) : ∀ (l : List ResultVar) (vs : List Value), iresL P env H l = some vs →
    ∃ vs', (l.mapM g).run P w = .ok vs' w ∧ VRelL P f vs vs'
  | [], vs, h => by
    simp only [iresL, Option.some.injEq] at h
    subst h
    exact ⟨[], by simp, .nil⟩
  | rv :: l, vs, h => by
    unfold iresL at h
    split at h
    · rename_i v hv
      split at h
      · rename_i us hus
        cases h
        obtain ⟨v', h1, h2⟩ := ires1_sound hg henv hv w hR
        obtain ⟨us', h3, h4⟩ := iresL_sound hg henv hR l us hus
        refine ⟨v' :: us', ?_, .cons h2 h4⟩
        rw [List.mapM_cons]
        simp only [Sem.run_bind, h1, Result.andThen_ok, h3, Sem.run_pure]
      · cases h
    · cases h

theorem one_rel {f : Inj} {vs vs' : List Value} (h : VRelL P f vs vs') : VRel P f (one vs) (one vs') := by
  cases vs with
  | nil => rw [h.nil_left]; exact .undef
  | cons v vs =>
    obtain ⟨v', t', rfl, hv, ht⟩ := h.uncons
    cases vs with
    | nil => rw [ht.nil_left]; exact hv
    | cons u vs =>
      obtain ⟨u', t2, rfl, hu, ht2⟩ := ht.uncons
      exact .of_tuple (.cons hv (.cons hu ht2))

theorem one_eq (vs : List Value) : (if h : vs.toArray.size = 1 then vs.toArray[0] else Value.tuple vs.toArray) = one vs := by
  cases vs with
  | nil => rfl
  | cons v vs =>
    cases vs with
    | nil => rfl
    | cons u vs => rw [dif_neg (by simp)]; rfl

theorem results_sound {f : Inj} {H : IH} {env : Env} {fn : Func} {tmps : Array Value} (henv : VRelL P f env tmps.toList) {w : World} (hR : Rel P f H w) {v : Value} (h : iresults P fn env H = some v) :
    ∃ v', (results fn tmps).run P w = .ok v' w ∧ VRel P f v v' := by
  unfold iresults at h
  obtain ⟨vs, h1, rfl⟩ := Option.map_eq_some_iff.1 h
  have key : ∀ g : ResultVar → Sem Value, Reads g tmps → ∃ v', (do let vs ← fn.results.mapM g; pure (if h : vs.size = 1 then vs[0] else .tuple vs) : Sem Value).run P w = .ok v' w ∧ VRel P f (one vs) v' := by
    intro g hg
    obtain ⟨vs', h2, h3⟩ := iresL_sound hg henv hR _ _ h1
    refine ⟨one vs', ?_, one_rel h3⟩
    rw [Array.mapM_eq_mapM_toList]
    simp only [Sem.run_bind, Sem.run_map, h2, Result.andThen_ok, Sem.run_pure]
    rw [one_eq]
  exact key _ ⟨fun _ => rfl, fun _ _ => rfl⟩

/-- the functions that an ideal run may enter -/
def Goods (P : Program) (good : FuncId → Bool) (G : Nat → Bool) : Prop := ∀ f fn c, good f = true → P.funcs[f]? = some fn → fn.body = some c → codeOk G false c = true

theorem marks_ge : ∀ {B : Nat} {f : Inj} {w : World} (ds : List Deferred), Marks B f w ds → ∀ r, r < B → ∀ d ∈ ds, d.target ≠ .collected r
  | _, _, _, [], _, _, _, d, hd => by cases hd
  | B, f, w, d :: ds, ⟨⟨x, g1, gB, _⟩, g6⟩, r, hr, d', hd' => by
    rcases List.mem_cons.1 hd' with rfl | hd'
    · rw [g1]; intro hx; cases hx; omega
    · exact marks_ge ds g6 r hr d' hd'

theorem call_sound {G : Nat → Bool} (hn : NatExt nat) (hgood : Goods P good G) (n : Nat) (hrun : CodeSpec P G (iex P good nat n)) (g : FuncId) (args args' : List Value) (H : IH) (f : Inj) (w : World) (Q : Value × IH → Prop)
    (hR : Rel P f H w) (hG : Glob G f) (ha : VRelL P f args args') (h : ((callStep P good (iex P good nat n) g args H).bind callOut).holds Q) : CallsIn Fence.wide 0 P g args'.toArray w (Comes P f H w Q) := by
  unfold callStep at h
  split at h
  · rename_i fn hfn
    split at h
    · rename_i c hb
      cases hgd : good g with
      | false => rw [hgd] at h; exact h.elim
      | true =>
        rw [hgd] at h
        simp only [cond_true] at h
        rw [T.holds_bind] at h
        have hext : ((iex P good nat n (.code c (appR args (List.replicate (fn.ntmps - args.length) undef))) H).bind (resStep P fn)).all fun o => Ext H o.H := by
          refine bind_ext (iex_ext hn n) fun o => ?_
          unfold resStep
          split
          · split
            · exact .refl _
            · exact trivial
          · split
            · exact .refl _
            · exact trivial
          · exact trivial
        have h2 := join_holds hR.fresh _ hext h
        rw [T.holds_bind, appR_eq] at h2
        have hcode : codeOk (globOk f) false c = true := codeOk_mono hG _ _ (hgood g fn c hgd hfn hb)
        have henv : VRelL P f (args ++ List.replicate (fn.ntmps - args.length) undef) (args'.toArray ++ Array.replicate (fn.ntmps - args'.toArray.size) undef).toList := by
          have e1 : (args'.toArray ++ Array.replicate (fn.ntmps - args'.toArray.size) undef).toList = args' ++ List.replicate (fn.ntmps - args.length) undef := by simp [ha.1]
          rw [e1]
          refine ha.append ?_
          have key : ∀ n, VRelL P f (List.replicate n undef) (List.replicate n undef) := by
            intro n
            induction n with
            | zero => exact .nil
            | succ n ih => exact .cons .undef ih
          exact key _
        refine callsIn_of_wp_marks hfn hb trivial (wpIn_mono (hrun w.heap.size Fence.wide false c _ H f _ w _ free_wide rfl hR hG hcode henv (Nat.le_refl _) h2) ?_)
        rintro e a' w' ⟨o, f', hq, rfl, k1, k2, k3, k4⟩
        -- what the function hands back
        have done : ∀ v, iresults P fn o.env o.H = some v → (T.ret (⟨.normal, [v], o.H⟩ : Out)).holds (fun p => ∃ o', (callOut o').holds Q ∧ Sub H p o') →
            LeavesInM Fence.wide 0 P fn a'.tmps (Comes P f H w Q) a'.defers .returning w' := by
          rintro v hv ⟨o', hq', hs⟩
          refine leaves_sound a'.defers w' k1 k4 fun w2 hR2 hsame hsz hot => ?_
          obtain ⟨v', h3, h4⟩ := results_sound (fn := fn) k3 hR2 hv
          refine ⟨v', h3, ?_⟩
          have henv' := hs.env P f' [v'] (.cons h4 .nil)
          unfold callOut at hq'
          split at hq'
          · rename_i u hu
            rw [hu] at henv'
            obtain ⟨u', t', he, hu', _⟩ := henv'.uncons
            cases he
            refine ⟨v', (u, o'.H), f', rfl, hq', hs.rel _ _ _ hR2, ⟨Nat.le_trans k2.isize hs.size, k2.stay, k2.le, by rw [hsz]; exact k2.size, fun r hr ho => ?_, k2.un, ⟨hot.1.trans k2.out.1, hot.2.1.trans k2.out.2.1, hot.2.2.trans k2.out.2.2⟩⟩, hu'⟩
            obtain ⟨q1, q2⟩ := k2.keep r hr ho
            exact ⟨q1, by rw [hsame r (fun d hd => marks_ge _ k4 r hr d hd)]; exact q2⟩
          · exact hq'.elim
        unfold resStep at hq
        cases he : o.e with
        | normal =>
          rw [he] at hq
          simp only at hq
          split at hq
          · rename_i v hv; exact done v hv hq
          · exact hq.elim
        | ret =>
          rw [he] at hq
          simp only at hq
          split at hq
          · rename_i v hv; exact done v hv hq
          · exact hq.elim
        | exit id => rw [he] at hq; exact hq.elim
        | goto l => rw [he] at hq; exact hq.elim
    · exact h.elim
  · exact h.elim

end Go.Idl

namespace Go.Idl
variable {P : Program} {good : FuncId → Bool} {nat : Nats} {B : Nat}

theorem put_obj {w : World} {r : Nat} {o : Obj} (h : r < w.heap.size) (x : Nat) : (w.putObj r o).heap[x]? = if x = r then some o else w.heap[x]? := heap_put h

theorem loop_obj {f : Inj} {H : IH} {w : World} {l : Nat} {e : Emb} {lp : Loop} (hR : Rel P f H w) (he : f l = some e) (hg : H.get l = some (.loop lp)) :
    e.ro = false ∧ ∃ lp', w.heap[e.r]? = some (.loop lp') ∧ lp'.state = lp.state ∧ lp'.pending = lp.pending ∧ lp'.params = lp.params ∧ lp'.assign = lp.assign ∧ lp'.body = lp.body ∧
      VRelL P f lp.tmps.toList lp'.tmps.toList ∧ codeOk (globOk f) true lp.assign = true ∧ codeOk (globOk f) true lp.body = true ∧ (∀ c, lp.pending = some c → isJump c = true) ∧ e.shift = 0 := hR.obj l e _ he hg

/-- the loop's record turns in its state and its pending jump -/
theorem put_loop {f : Inj} {H : IH} {w : World} {l : Nat} {e : Emb} {lp lp' : Loop} (st : LoopState) (pd : Option Code) (hpd : ∀ c, pd = some c → isJump c = true) (hR : Rel P f H w) (he : f l = some e) (hg : H.get l = some (.loop lp))
    (h0 : w.heap[e.r]? = some (.loop lp')) :
    Rel P f (H.put l (.loop { lp with state := st, pending := pd })) (w.putObj e.r (.loop { lp' with state := st, pending := pd })) ∧ Grow f H w f (H.put l (.loop { lp with state := st, pending := pd })) (w.putObj e.r (.loop { lp' with state := st, pending := pd })) := by
  obtain ⟨hro, lp2, h1, g1, g2, g3, g4, g5, g6, g7, g8, g9, g10⟩ := loop_obj hR he hg
  rw [h0] at h1; cases h1
  obtain ⟨r1, r2, _⟩ := Rel.put (o1 := .loop { lp with state := st, pending := pd }) (o1' := .loop { lp' with state := st, pending := pd }) (w' := w.putObj e.r (.loop { lp' with state := st, pending := pd })) hR he hg rfl hro
    ⟨hro, _, rfl, rfl, rfl, g3, g4, g5, g6, g7, g8, hpd, g10⟩ (put_obj (hR.bound l e he)) (by simp)
  exact ⟨r1, r2⟩

theorem fold_set {f : Inj} : ∀ (ps : List Tmp) (args args' : List Value) (t t' : List Value), VRelL P f args args' → VRelL P f t t' →
    VRelL P f ((ps.zip args).foldl (fun e p => setR e p.1 p.2) t) ((ps.zip args').foldl (fun e p => e.set p.1 p.2) t')
  | [], args, args', t, t', _, ht => by simpa using ht
  | p :: ps, [], args', t, t', ha, ht => by rw [ha.nil_left]; simpa using ht
  | p :: ps, a :: args, args', t, t', ha, ht => by
    obtain ⟨a', r', rfl, hv, hr⟩ := ha.uncons
    simp only [List.zip_cons_cons, List.foldl_cons]
    exact fold_set ps args r' _ _ hr (by rw [setR_eq]; exact ht.set hv p)

theorem fold_arr : ∀ (l : List (Tmp × Value)) (t : Array Value), (l.foldl (fun tmps (p : Tmp × Value) => tmps.setIfInBounds p.1 p.2) t).toList = l.foldl (fun e p => e.set p.1 p.2) t.toList
  | [], t => rfl
  | p :: l, t => by
    simp only [List.foldl_cons]
    rw [fold_arr l, Array.toList_setIfInBounds]

theorem round_sound {G : Nat → Bool} (n : Nat) (hrun : CodeSpec P G (iex P good nat n)) (l : Nat) (args args' : List Value) (H : IH) (f : Inj) (w : World) (e : Emb) (Q : Value × IH → Prop)
    (hR : Rel P f H w) (hG : Glob G f) (he : f l = some e) (ha : VRelL P f args args') (h : ((roundStep (iex P good nat n) l args H).bind callOut).holds Q) :
    ∃ fn tmps assign body, (Instr.yield e.r args'.toArray).run P w = .ok (.round e.r fn tmps assign body) w ∧ RoundIn Fence.wide 0 P e.r fn tmps assign body w (Comes P f H w Q) := by
  unfold roundStep at h
  split at h
  · rename_i lp hg
    split at h
    · rename_i hc
      simp only [Bool.and_eq_true, beq_iff_eq, decide_eq_true_eq] at hc
      obtain ⟨hst, hbase, hlen⟩ := hc
      have hlen : args.length = lp.params.size := Nat.eq_of_beq_eq_true hlen
      obtain ⟨hro, lp', h1, g1, g2, g3, g4, g5, g6, g7, g8, g9, g10⟩ := loop_obj hR he hg
      refine ⟨lp'.fn, _, lp'.assign, lp'.body, run_yield h1 (by rw [g3, ← hlen, ha.1]; simp), ?_⟩
      rw [T.holds_bind, T.holds_bind] at h
      have henv : VRelL P f ((lp.params.toList.zip args).foldl (fun e p => setR e p.1 p.2) lp.tmps.toList) ((lp'.params.zip args'.toArray).foldl (fun tmps (t, a) => tmps.setIfInBounds t a) lp'.tmps).toList := by
        rw [← Array.foldl_toList, Array.toList_zip]
        have := fold_arr (lp'.params.toList.zip args') lp'.tmps
        simp only [] at this ⊢
        rw [this, g3]
        exact fold_set lp.params.toList args args' _ _ ha g6
      refine roundIn_of_wpIn (F := Fence.wide) trivial ?_
      rw [g4, g5]
      refine wpIn_mono (hrun w.heap.size (Fence.wide.inRound e.r) true lp.assign _ H f _ w _ (free_round _) rfl hR hG g7 henv (Nat.le_refl _) h) ?_
      rintro ex a1 w1 ⟨o, f1, hq, rfl, k1, k2, k3, k4⟩
      unfold roundBody at hq
      cases heo : o.e with
      | normal =>
        rw [heo] at hq
        simp only at hq
        split at hq
        · rename_i lp1 hg1
          split at hq
          · rename_i hst1
            simp only [beq_iff_eq] at hst1
            have he1 := k2.le _ _ he
            obtain ⟨_, lp1', q1, q2, q3, q4, q5, q6, q7, q8, q9, q10, q11⟩ := loop_obj k1 he1 hg1
            refine ⟨_, run_beginRound q1 (by rw [q2, hst1]), ?_⟩
            obtain ⟨p1, p2⟩ := put_loop .busy lp1.pending q10 k1 he1 hg1 q1
            rw [T.holds_bind] at hq
            have e1 : ({ lp1' with state := .busy, pending := lp1.pending } : Loop) = { lp1' with state := .busy } := by rw [← q3]
            have e2 : ({ lp1 with state := .busy, pending := lp1.pending } : Loop) = { lp1 with state := .busy } := rfl
            rw [e1, e2] at p1
            rw [e1] at p2
            have hG1 := hG.mono k2.le
            refine wpIn_mono (hrun w.heap.size (Fence.wide.inRound e.r) true lp.body _ _ f1 a1 _ _ (free_round _) rfl p1 hG1 (codeOk_mono (globOk_mono k2.le) _ _ g8) k3 (Marks.grow p2 _ k4) hq) ?_
            rintro ex2 a2 w2 ⟨s, f2, hs, rfl, s1, s2, s3, s4⟩
            unfold roundEnd at hs
            split at hs
            · rename_i lp2 hg2
              have he2 := s2.le _ _ he1
              obtain ⟨_, lp2', t1, t2, t3, t4, t5, t6, t7, t8, t9, t10, t11⟩ := loop_obj s1 he2 hg2
              have hjump : ∀ c, jumpOf s.e = some c → isJump c = true := by
                intro c hc
                cases hse : s.e <;> rw [hse] at hc <;> simp [jumpOf] at hc <;> subst hc <;> rfl
              obtain ⟨u1, u2⟩ := put_loop (if (jumpOf s.e).isNone then .ready else .done) (jumpOf s.e) hjump s1 he2 hg2 t1
              have fin : ∃ v w', (Instr.endRound e.r (jumpOf s.e)).run P w2 = .ok v w' ∧ Comes P f H w Q (.returned v) w' :=
                ⟨_, _, run_endRound (jumpOf s.e) t1, ⟨_, _, f2, rfl, hs, u1, ((k2.trans p2).trans s2).trans u2, .base _ rfl⟩⟩
              cases hse : s.e with
              | normal => rw [hse] at fin; exact fin
              | ret => rw [hse] at fin; exact fin
              | exit id => rw [hse] at fin; exact fin
              | goto t => rw [hse] at fin; exact fin
            · exact hs.elim
          · exact hq.elim
        · exact hq.elim
      | exit id => rw [heo] at hq; exact hq.elim
      | goto t => rw [heo] at hq; exact hq.elim
      | ret => rw [heo] at hq; exact hq.elim
    · exact h.elim
  · exact h.elim

end Go.Idl

namespace Go.Idl
variable {P : Program} {good : FuncId → Bool} {nat : Nats} {B : Nat}

/-- a block beside -/
theorem Rel.beside {f : Inj} {H : IH} {w : World} (o : Obj) (hR : Rel P f H w) : Rel P f H (w.alloc o) ∧ Grow f H w f H (w.alloc o) ∧ ∀ b e, f b = some e → e.r ≠ w.heap.size := by
  have hne : ∀ b e, f b = some e → e.r ≠ w.heap.size := fun b e hb => by have := hR.bound b e hb; omega
  refine ⟨⟨hR.dom, hR.fresh, fun b e hb => ?_, fun b e ob hb ho => ?_, hR.sep, hR.rosame⟩, ⟨Nat.le_refl _, fun _ _ h => h, f.le_refl, by simp, fun r hr ho => ⟨ho, ?_⟩, fun _ _ h => h, ⟨rfl, rfl, rfl⟩⟩, hne⟩
  · have := hR.bound b e hb; simp; omega
  · rw [heap_alloc, if_neg (hne b e hb)]; exact hR.obj b e ob hb ho
  · rw [heap_alloc, if_neg (by omega)]

theorem entered_inv {g : FuncId} (h : entered P g = true) : ∃ fn, P.funcs[g]? = some fn ∧ fn.body.isSome = true ∧ (fn.name != "runtime.NumGoroutine") = true := by
  unfold entered at h
  split at h
  · rename_i fn hf
    simp only [Bool.and_eq_true] at h
    exact ⟨fn, hf, h.1, h.2⟩
  · cases h

theorem range_sound {G : Nat → Bool} {run : Job → IH → T Out} (hc : CallSpec P G (enterT run nat)) (hrun : CodeSpec P G run) {F : Fence} {v : Operand} {ps : Array Tmp} {x y : Code} {env : Env} {H : IH} {f : Inj} {a : Act} {w : World} {Q : Out → Prop}
    (hF : Free F) (hrd : F.round = none) (hR : Rel P f H w) (hG : Glob G f) (hv : opdOk (globOk f) v = true) (hx : codeOk (globOk f) true x = true) (hy : codeOk (globOk f) true y = true)
    (henv : VRelL P f env a.tmps.toList) (hm : Marks B f w a.defers) (h : (rangeStep P run nat (env.val v) ps x y env H).holds Q) :
    (Code.rangeFunc v ps x y).wpIn F 0 P (XPost P B f H w Q) a w := by
  have hev := eval_rel henv hv
  unfold rangeStep at h
  split at h
  · rename_i g first captured hg
    rw [hg] at hev
    cases hent : entered P g with
    | false => rw [hent] at h; exact h.elim
    | true =>
      rw [hent] at h
      simp only [cond_true] at h
      obtain ⟨fn, hfn, hbody, hname⟩ := entered_inv hent
      rcases hev.func_inv with ⟨g', a', c', hg', hev', h1, h2⟩ | ⟨l, e, hg', _⟩
      · cases hg'
        refine wpIn_rangeFunc fun fnid _ => ?_
        have hround : F.round = none := hrd
        obtain ⟨b1, b2, b3⟩ := hR.beside (.deferred (some []))
        have hnone : f H.size = none := addN_none hR
        let e0 : Emb := ⟨w.heap.size + 1, 0, 0, false⟩
        have hle : f.le (f.add H.size e0) := Inj.le_add hnone
        have hO : ORel P (f.add H.size e0) e0 (.loop { state := .ready, pending := none, fn := 0, tmps := env.toArray, params := ps, assign := x, body := y, defers := 0 })
            (some (.loop { state := .ready, pending := none, fn := fnid, tmps := a.tmps, params := ps, assign := x, body := y, defers := w.heap.size })) :=
          ⟨rfl, _, rfl, rfl, rfl, rfl, rfl, rfl, by simpa using henv.mono hle, codeOk_mono (globOk_mono hle) _ _ hx, codeOk_mono (globOk_mono hle) _ _ hy, (fun c hc => by cases hc), rfl⟩
        obtain ⟨p1, p2⟩ := Rel.push (e := e0) b1 (by simp [e0]) hO
        let w1 : World := (w.alloc (.deferred (some []))).alloc (.loop { state := .ready, pending := none, fn := fnid, tmps := a.tmps, params := ps, assign := x, body := y, defers := w.heap.size })
        refine ⟨w.heap.size + 1, [{ target := .collected w.heap.size, args := #[] }], w1, { target := .fn (.func g) c', args := a' ++ #[.func (.yield (w.heap.size + 1)) #[] #[]] }, w1, g, a' ++ #[.func (.yield (w.heap.size + 1)) #[] #[]] ++ c', w1,
          by rw [hround]; exact run_enterLoop_outer fnid a.tmps ps x y, ?_, fun f' _ => hF.fn f', ?_, fun hd => absurd hd (by rw [hF.depth]; simp), ?_⟩
        · simp only [resolve, rangeCall]
          rw [hev']
          simp [Deferred.ofValue, Act.eval]
        · simp only [invoke]
          exact run_callFunc_enter hfn hbody hname
        · have hall : VRelL P (f.add H.size e0) (appR first.toList (Value.func (Fn.yield H.size) #[] #[] :: captured.toList)) (a'.toList ++ (Value.func (Fn.yield (w.heap.size + 1)) #[] #[] :: c'.toList)) := by
            rw [appR_eq]
            refine (h1.mono hle).append (.cons ?_ (h2.mono hle))
            have := VRel.yield (P := P) (Inj.add_same (f := f) (b := H.size) (e := e0))
            exact this
          rw [T.holds_bind] at h
          have hcall := hc g _ _ _ _ w1 _ p1 (hG.mono hle) hall h
          have harr : (a'.toList ++ (Value.func (Fn.yield (w.heap.size + 1)) #[] #[] :: c'.toList)).toArray = a' ++ #[.func (.yield (w.heap.size + 1)) #[] #[]] ++ c' := by apply Array.ext'; simp
          rw [harr] at hcall
          have hg1 : Grow f H w (f.add H.size e0) _ w1 := b2.trans p2
          have hmark : Marks B (f.add H.size e0) w1 ([{ target := .collected w.heap.size, args := #[] }] ++ a.defers) := by
            refine ⟨⟨w.heap.size, rfl, Marks.le hm, by simp [w1]; omega, ?_, ?_, ?_⟩, Marks.grow hg1 _ hm⟩
            · show w1.heap[w.heap.size]? = _
              rw [heap_alloc, if_neg (by simp), heap_alloc, if_pos rfl]
            · intro b e hb
              by_cases hbs : b = H.size
              · subst hbs; rw [Inj.add_same] at hb; cases hb; simp [e0]
              · rw [Inj.add_other hbs] at hb; exact b3 b e hb
            · have key : ∀ (ds : List Deferred), Marks B f w ds → ∀ d' ∈ ds, d'.target ≠ .collected w.heap.size := by
                intro ds
                induction ds with
                | nil => intro _ d' hd'; cases hd'
                | cons d ds ih =>
                  rintro ⟨⟨r, q1, _, q2, _⟩, q3⟩ d' hd'
                  rcases List.mem_cons.1 hd' with rfl | hd'
                  · rw [q1]; intro hx; cases hx; omega
                  · exact ih q3 d' hd'
              exact key _ hm
          refine CallsIn.mono (hF.calls hcall) ?_
          rintro e w3 ⟨v', r, f3, rfl, hq, k1, k2, k3⟩
          unfold afterRange at hq
          split at hq
          · rename_i lp hgl
            split at hq
            · exact hq.elim
            · rename_i hbusy
              have he3 : f3 H.size = some e0 := k2.le _ _ Inj.add_same
              obtain ⟨_, lp', t1, t2, t3, t4, t5, t6, t7, t8, t9, t10, t11⟩ := loop_obj k1 he3 hgl
              obtain ⟨u1, u2⟩ := put_loop .exhausted lp.pending t10 k1 he3 hgl t1
              have hend := run_endLoop (P := P) t1 (by rw [t2]; simpa using hbusy)
              have hg3 : Grow f H w f3 _ _ := (hg1.trans k2).trans u2
              have e1 : ({ lp' with state := .exhausted, pending := lp.pending } : Loop) = { lp' with state := .exhausted } := by rw [← t3]
              rw [e1] at u1 u2 hg3
              have hend' : (Instr.endLoop (w.heap.size + 1)).run P w3 = .ok lp.pending (w3.putObj (w.heap.size + 1) (.loop { lp' with state := .exhausted })) := by
                have := hend
                rw [show (Instr.endLoop (w.heap.size + 1)) = Instr.endLoop e0.r from rfl, this, t3]
              refine ⟨lp.pending, _, hend', ?_⟩
              split at hq
              · rename_i hp
                rw [hp]
                have e2 : ({ lp with state := .exhausted, pending := lp.pending } : Loop) = { lp with state := .exhausted } := rfl
                rw [e2] at u1
                exact ⟨⟨.normal, env, _⟩, f3, hq, rfl, u1, hg3, henv.mono hg3.le, Marks.grow (k2.trans u2) _ hmark⟩
              · rename_i c hp
                rw [hp]
                have hj := t10 c hp
                have hok : codeOk (globOk f3) F.round.isSome c = true := by cases c <;> first | rfl | cases hj
                exact wpIn_mono (hrun B F _ c env _ f3 _ _ Q hF rfl u1 (hG.mono hg3.le) hok (henv.mono hg3.le) (Marks.grow (k2.trans u2) _ hmark) hq) fun e a w => xpost_mono hg3 fun _ h => h
          · exact hq.elim
      · cases hg'
  · exact h.elim

end Go.Idl

namespace Go.Idl
variable {P : Program} {good : FuncId → Bool} {nat : Nats}

/-- contracts of whole functions, as they are given -/
def NatSpec (P : Program) (G : Nat → Bool) (nat : Nats) : Prop :=
  ∀ (g : FuncId) (k : List Value → IH → T (Value × IH)), nat g = some k → ∀ (args args' : List Value) (H : IH) (f : Inj) (w : World) (Q : Value × IH → Prop), Rel P f H w → Glob G f → VRelL P f args args' → (k args H).holds Q →
    CallsIn Fence.wide 0 P g args'.toArray w (Comes P f H w Q)

theorem scope_sound {G : Nat → Bool} {run : Job → IH → T Out} {B : Nat} (hrun : CodeSpec P G run) {F : Fence} {rd : Bool} {x : Code} {env : Env} {H : IH} {f : Inj} {a : Act} {w : World} {Q : Out → Prop} (hF : Free F) (hrd : rd = F.round.isSome) (hR : Rel P f H w) (hG : Glob G f)
    (hx : codeOk (globOk f) rd x = true) (henv : VRelL P f env a.tmps.toList) (hm : Marks B f w a.defers) (h : ((run (.code x env) H).bind scopeStep).holds Q) :
    (Code.scope x).wpIn F 0 P (XPost P B f H w Q) a w := by
  rw [T.holds_bind] at h
  refine wpIn_scope_straight (wpIn_mono (hrun B F rd x env H f a w _ hF hrd hR hG hx henv hm h) ?_)
  rintro e a' w' ⟨o, f', hq, rfl, h1, h2, h3, h4⟩
  unfold scopeStep at hq
  cases he : o.e with
  | normal => rw [he] at hq; exact ⟨o, f', hq, by rw [he], h1, h2, h3, h4⟩
  | exit id => rw [he] at hq; exact ⟨o, f', hq, by rw [he], h1, h2, h3, h4⟩
  | goto l => rw [he] at hq; exact hq.elim
  | ret => rw [he] at hq; exact ⟨o, f', hq, by rw [he], h1, h2, h3, h4⟩

theorem sound_all {G : Nat → Bool} (hn : NatExt nat) (hnat : NatSpec P G nat) (hgood : Goods P good G) (hdraw : ∀ run, RunExt run → CallSpec P G (enterT run nat) → RoundSpec P G run → DrawSpec P G nat run) :
    ∀ n, CodeSpec P G (iex P good nat n) ∧ CallSpec P G (enterT (iex P good nat n) nat) ∧ RoundSpec P G (iex P good nat n) := by
  intro n
  induction n using Nat.strongRecOn with
  | _ n ih =>
    have hcode : CodeSpec P G (iex P good nat n) := by
      cases n with
      | zero => intro B F rd c env H f a w Q _ _ _ _ _ _ _ h; exact h.elim
      | succ n =>
        obtain ⟨h1, h2, h3⟩ := ih n (Nat.lt_succ_self n)
        intro B F rd c env H f a w Q hF hrd hR hG hok henv hm h
        have h' : (codeStep P (iex P good nat n) nat c env H).holds Q := h
        cases c with
        | skip => exact wpIn_skip (xpost_ret (e := .normal) hR henv hm h')
        | label l => exact wpIn_label (xpost_ret (e := .normal) hR henv hm h')
        | ret => exact wpIn_ret (xpost_ret (e := .ret) hR henv hm h')
        | exit id => exact wpIn_exit (xpost_ret (e := .exit id) hR henv hm h')
        | seq x y =>
          simp only [codeOk, Bool.and_eq_true] at hok
          exact seq_sound h1 hF hrd hR hG hok.1 hok.2 henv hm h'
        | cond v x y =>
          simp only [codeOk, Bool.and_eq_true] at hok
          exact cond_sound h1 hF hrd hR hG hok.1 hok.2.1 hok.2.2 henv hm h'
        | block id x => exact block_sound h1 hF hrd hR hG hok henv hm h'
        | loop x => exact loop_sound hn hF hrd (n + 1) (fun m hm => (ih m hm).1) hR hG hok henv hm h
        | region id ops draw =>
          simp only [codeOk, Bool.and_eq_true] at hok
          exact region_sound h2 h3 (hdraw _ (iex_ext hn n) h2 h3) hF hR hG hok.1 hok.2 henv hm h'
        | rangeFunc v ps x y =>
          simp only [codeOk, Bool.and_eq_true] at hok
          have hround : F.round = none := by
            have : rd = false := by simpa using hok.1
            rw [this] at hrd
            cases hr : F.round with
            | none => rfl
            | some l => rw [hr] at hrd; cases hrd
          exact range_sound h2 h1 hF hround hR hG hok.2.1 hok.2.2.1 hok.2.2.2 henv hm h'
        | scope x => exact scope_sound h1 hF hrd hR hG hok henv hm h'
        | goto l => exact h'.elim
        | refuse s => exact h'.elim
    refine ⟨hcode, ?_, ?_⟩
    · intro g args args' H f w Q hR hG ha h
      unfold enterT at h
      split at h
      · rename_i k hk; exact hnat g k hk args args' H f w Q hR hG ha h
      · cases n with
        | zero => exact h.elim
        | succ n => exact call_sound hn hgood n (ih n (Nat.lt_succ_self n)).1 g args args' H f w Q hR hG ha h
    · intro l args args' H f w e Q hR hG he ha h
      cases n with
      | zero => exact h.elim
      | succ n => exact round_sound n (ih n (Nat.lt_succ_self n)).1 l args args' H f w e Q hR hG he ha h

end Go.Idl
