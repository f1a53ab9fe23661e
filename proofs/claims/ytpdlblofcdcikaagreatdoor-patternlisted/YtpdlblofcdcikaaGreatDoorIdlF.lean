/- Trees of choices, what a run writes, operations in a frame. Conditions: none. -/
import Derived.Test.YtpdlblofcdcikaaGreatDoorIdlE
import Derived.TacticsIn
set_option linter.unusedSimpArgs false
set_option linter.unusedVariables false
namespace Go.Idl

/-! ### Trees -/
def T.holds {α : Type} (Q : α → Prop) (t : T α) : Prop := T.rec False (fun a => Q a) (fun n _ ih => ∀ i, i < n → ih i) (fun p _ ih => ∀ r, p r → ih r) t
theorem T.holds_fail {α : Type} {Q : α → Prop} : (T.fail : T α).holds Q ↔ False := Iff.rfl
theorem T.holds_ret {α : Type} {Q : α → Prop} {a : α} : (T.ret a).holds Q ↔ Q a := Iff.rfl
theorem T.holds_ch {α : Type} {Q : α → Prop} {n : Nat} {k : Nat → T α} : (T.ch n k).holds Q ↔ ∀ i, i < n → (k i).holds Q := Iff.rfl
theorem T.holds_sp {α : Type} {Q : α → Prop} {p : Value × IH → Prop} {k : Value × IH → T α} : (T.sp p k).holds Q ↔ ∀ r, p r → (k r).holds Q := Iff.rfl
/-- of all that ends -/
def T.all {α : Type} (Q : α → Prop) (t : T α) : Prop := T.rec True (fun a => Q a) (fun n _ ih => ∀ i, i < n → ih i) (fun _ _ _ => True) t
theorem T.all_ret {α : Type} {Q : α → Prop} {a : α} : (T.ret a).all Q ↔ Q a := Iff.rfl
theorem T.all_ch {α : Type} {Q : α → Prop} {n : Nat} {k : Nat → T α} : (T.ch n k).all Q ↔ ∀ i, i < n → (k i).all Q := Iff.rfl
theorem T.all_fail {α : Type} {Q : α → Prop} : (T.fail : T α).all Q := trivial

theorem T.holds_mono {α : Type} {Q R : α → Prop} (h : ∀ a, Q a → R a) : ∀ (t : T α), t.holds Q → t.holds R
  | .fail, hq => hq
  | .ret a, hq => h a hq
  | .ch n k, hq => fun i hi => T.holds_mono h (k i) (hq i hi)
  | .sp p k, hq => fun r hr => T.holds_mono h (k r) (hq r hr)
theorem T.all_mono {α : Type} {Q R : α → Prop} (h : ∀ a, Q a → R a) : ∀ (t : T α), t.all Q → t.all R
  | .fail, _ => trivial
  | .ret a, hq => h a hq
  | .ch n k, hq => fun i hi => T.all_mono h (k i) (hq i hi)
  | .sp _ _, _ => trivial
theorem T.holds_bind {α β : Type} {g : α → T β} {Q : β → Prop} : ∀ (t : T α), (t.bind g).holds Q ↔ t.holds fun a => (g a).holds Q
  | .fail => Iff.rfl
  | .ret a => Iff.rfl
  | .ch n k => by
    constructor
    · intro h i hi; exact (T.holds_bind (k i)).1 (h i hi)
    · intro h i hi; exact (T.holds_bind (k i)).2 (h i hi)
  | .sp p k => by
    constructor
    · intro h i hi; exact (T.holds_bind (k i)).1 (h i hi)
    · intro h i hi; exact (T.holds_bind (k i)).2 (h i hi)
theorem T.all_bind {α β : Type} {g : α → T β} {Q : β → Prop} : ∀ (t : T α), (t.bind g).all Q ↔ t.all fun a => (g a).all Q
  | .fail => Iff.rfl
  | .ret a => Iff.rfl
  | .ch n k => by
    constructor
    · intro h i hi; exact (T.all_bind (k i)).1 (h i hi)
    · intro h i hi; exact (T.all_bind (k i)).2 (h i hi)
  | .sp _ _ => Iff.rfl

theorem mapM_get {α β : Type} (g : α → Option β) : ∀ (l : List α) (r : List β), l.mapM g = some r → ∀ (i : Nat) a, l[i]? = some a → ∃ b, r[i]? = some b ∧ g a = some b := by
  intro l r h i a ha
  have := optMapM g l r h
  have h1 := congrArg (fun l => l[i]?) this
  simp only [List.getElem?_map, ha, Option.map_some] at h1
  cases hb : r[i]? with
  | none => rw [hb] at h1; cases h1
  | some b => rw [hb] at h1; simp at h1; exact ⟨b, rfl, h1⟩

theorem T.leaves_all {α : Type} {Q : α → Prop} : ∀ (t : T α) (l : List α), t.leaves = some l → ((∀ a ∈ l, Q a) → t.holds Q) ∧ (t.all Q → ∀ a ∈ l, Q a)
  | .fail, l, h => by simp [T.leaves] at h
  | .sp _ _, l, h => by simp [T.leaves] at h
  | .ret a, l, h => by
    simp [T.leaves] at h
    subst h
    exact ⟨fun h => h a (by simp), fun h b hb => by simp at hb; subst hb; exact h⟩
  | .ch n k, l, h => by
    simp only [T.leaves, Option.map_eq_some_iff] at h
    obtain ⟨ls, h1, rfl⟩ := h
    have h2 : ∀ i, i < n → ∃ b, ls[i]? = some b ∧ (k i).leaves = some b := fun i hi => mapM_get _ _ _ h1 i i (by simp [hi])
    constructor
    · intro hq i hi
      obtain ⟨b, hb, hl⟩ := h2 i hi
      exact ((k i).leaves_all b hl).1 fun a ha => hq a (List.mem_flatten.2 ⟨b, List.mem_of_getElem? hb, ha⟩)
    · intro hall a ha
      obtain ⟨b, hb, hab⟩ := List.mem_flatten.1 ha
      obtain ⟨i, hi⟩ := List.mem_iff_getElem?.1 hb
      have hlen : ls.length = n := by
        have := congrArg List.length (optMapM _ _ _ h1)
        simpa using this.symm
      have hin : i < n := by rw [← hlen]; exact (List.getElem?_eq_some_iff.1 hi).1
      obtain ⟨b', hb', hl⟩ := h2 i hin
      rw [hi] at hb'; cases hb'
      exact ((k i).leaves_all b hl).2 (hall i hin) a hab

/-! ### What a run writes -/
structure Ext (H H' : IH) : Prop where
  size : H.size ≤ H'.size
  log : ∃ l, H'.log = l ++ H.log ∧ ∀ b, b < H.size → b ∉ l → H'.get b = H.get b

theorem Ext.refl (H : IH) : Ext H H := ⟨Nat.le_refl _, [], rfl, fun _ _ _ => rfl⟩
theorem Ext.trans {H H1 H2 : IH} (a : Ext H H1) (b : Ext H1 H2) : Ext H H2 := by
  obtain ⟨s1, l1, h1, g1⟩ := a
  obtain ⟨s2, l2, h2, g2⟩ := b
  refine ⟨Nat.le_trans s1 s2, l2 ++ l1, by rw [h2, h1, List.append_assoc], fun x hx hn => ?_⟩
  simp only [List.mem_append, not_or] at hn
  rw [g2 x (Nat.lt_of_lt_of_le hx s1) hn.1, g1 x hx hn.2]
theorem Ext.put (H : IH) (b : Nat) (o : Obj) : Ext H (H.put b o) :=
  ⟨Nat.le_refl _, [b], rfl, fun x _ hn => by rw [IH.get_put, if_neg (by simpa using hn)]⟩
theorem Ext.push (H : IH) (o : Obj) : Ext H (H.push o) :=
  ⟨by simp, [], rfl, fun x hx _ => by rw [IH.get_push, if_neg (by omega)]⟩
theorem Ext.stores {H H' : IH} {b i : Nat} {vs : List Value} (h : H.stores b i vs = some H') : Ext H H' := by
  unfold IH.stores at h
  split at h
  · split at h
    · cases h; exact .put _ _ _
    · cases h
  · cases h

def ExtS (H : IH) : Step1 → Prop
  | .val _ H' => Ext H H'
  | .enter _ _ H' => H' = H
  | .round _ _ H' => H' = H
  | .choice n k => ∀ i, i < n → ∀ v H', k i = some (v, H') → Ext H H'

theorem iappend_ext {P : Program} {ts : Array TypeId} {as : List Value} {H : IH} {s : Step1} (h : iappend P ts as H = some s) : ExtS H s := by
  unfold iappend iappend2 at h
  repeat' split at h
  all_goals first | (cases h; done) | skip
  · unfold iroom at h
    repeat' split at h
    all_goals first | (cases h; exact .refl _) | (rename_i hst; cases h; exact .stores hst) | cases h
  · unfold igrow at h
    split at h
    · split at h
      · rename_i old H2 _ hk
        cases h
        refine .trans ?_ (.push _ _)
        unfold ikill at hk
        repeat' split at hk
        all_goals first | (cases hk; exact .refl _) | (cases hk; exact .put _ _ _) | cases hk
      · cases h
    · cases h

theorem icopy_ext {P : Program} {ts : Array TypeId} {as : List Value} {H : IH} {s : Step1} (h : icopy P ts as H = some s) : ExtS H s := by
  unfold icopy icopyEnd at h
  repeat' split at h
  all_goals first | (cases h; exact .refl _) | (rename_i hst; cases h; exact .stores hst) | cases h

theorem ibuiltin_ext {P : Program} {b : Builtin} {c : Call} {as : List Value} {H : IH} {s : Step1} (h : ibuiltin P b c as H = some s) : ExtS H s := by
  unfold ibuiltin at h
  split at h
  · exact iappend_ext h
  · exact icopy_ext h
  · unfold ilenB at h
    repeat' split at h
    all_goals first | (cases h; exact .refl _) | cases h
  · repeat' split at h
    all_goals first | (cases h; exact .refl _) | cases h
  · unfold iunsafeString at h
    repeat' split at h
    all_goals first | (cases h; exact .refl _) | (cases h; exact .put _ _ _) | cases h
  · cases h

theorem idry_ext {P : Program} {o : Oper} {env : Env} {H : IH} {s : Step1} (h : idry P o env H = some s) : ExtS H s := by
  obtain ⟨v, rfl, _⟩ := idry_val h
  exact .refl _

theorem icall_ext {P : Program} {o : Oper} {c : Call} {env : Env} {H : IH} {s : Step1} (h : icallOp P o c env H = some s) : ExtS H s := by
  unfold icallOp at h
  split at h
  · rename_i r hr
    cases h
    unfold icall at hr
    simp only at hr
    split at hr
    · exact ibuiltin_ext hr
    · cases hr
    · repeat' split at hr
      all_goals first | (cases hr; rfl) | (cases hr; exact .refl _) | cases hr
  · exact idry_ext h

theorem skip_ext {H : IH} {r : Option IH} {s : Step1} (h : skipO r = some s) (hr : ∀ H', r = some H' → Ext H H') : ExtS H s := by
  cases r with
  | none => cases h
  | some H2 => cases h; exact hr H2 rfl
theorem ofO_ext {H : IH} {r : Option Value} {s : Step1} (h : Step1.ofO H r = some s) : ExtS H s := by
  obtain ⟨v, rfl, _⟩ := val_ofO h
  exact .refl _

theorem inext_ext {x : Value} {b : Bool} {H : IH} {s : Step1} (h : inext x b H = some s) : ExtS H s := by
  unfold inext at h
  split at h
  · split at h
    · repeat' split at h
      all_goals first | (cases h; exact .refl _) | (cases h; exact .put _ _ _) | cases h
    · split at h
      · split at h
        · unfold inextMap at h
          split at h
          · cases h; exact .put _ _ _
          · cases h
            intro i _ v H' hk
            simp only at hk
            split at hk
            · split at hk
              · cases hk
              · cases hk; exact .put _ _ _
            · cases hk
        · cases h
      · cases h
    · cases h
  · cases h

theorem nilBin_ext {P : Program} {o : Oper} {op : BinOp} {t : TypeId} {x y : Value} {env : Env} {H : IH} {s : Step1} (h : nilBin P o op t x y env H = some s) : ExtS H s := by
  unfold nilBin at h
  repeat' split at h
  all_goals first | (cases h; exact .refl _) | exact idry_ext h

theorem iop_ext {P : Program} {o : Oper} {env : Env} {H : IH} {s : Step1} (h : iop P o env H = some s) : ExtS H s := by
  unfold iop at h
  split at h <;> first
    | exact ofO_ext h
    | exact idry_ext h
    | exact icall_ext h
    | exact inext_ext h
    | (cases h; exact .refl _)
    | (cases h; done)
    | skip
  · unfold ipick at h; split at h <;> cases h; exact .refl _
  · unfold ialloc at h; split at h <;> cases h; exact .push _ _
  · unfold ibox at h; split at h <;> cases h; exact .push _ _
  · unfold ibuildSlice at h
    repeat' split at h
    all_goals first | (cases h; exact .push _ _) | cases h
  · refine skip_ext h fun H' h' => ?_
    unfold istoreAt at h'
    repeat' split at h'
    all_goals first | exact .stores h' | cases h'
  · unfold inilCheck at h
    repeat' split at h
    all_goals first | (cases h; exact .refl _) | cases h
  · unfold ibinOp at h
    split at h
    · split at h
      · unfold intBin2 at h
        rw [cond_eq_ite] at h
        repeat' split at h
        all_goals first | (cases h; exact .refl _) | exact idry_ext h
      · exact nilBin_ext h
    · exact nilBin_ext h
  · unfold iconvert at h
    split at h
    · exact ofO_ext h
    · exact idry_ext h
  · unfold imakeFunc at h; split at h <;> cases h; exact .refl _
  · unfold imakeMap at h; split at h <;> cases h; exact .push _ _
  · unfold imakeSlice at h
    repeat' split at h
    all_goals first | (cases h; exact .push _ _) | cases h
  · unfold isliceOp at h
    split at h
    · exact idry_ext h
    · exact ofO_ext h
  · unfold iindexOp at h
    split at h
    · exact idry_ext h
    · exact ofO_ext h
  · refine skip_ext h fun H' h' => ?_
    unfold imapUpdate at h'
    repeat' split at h'
    all_goals first | (cases h'; exact .put _ _ _) | cases h'
  · refine skip_ext h fun H' h' => ?_
    unfold imapUpdate at h'
    repeat' split at h'
    all_goals first | (cases h'; exact .put _ _ _) | cases h'
  · unfold imapEntry at h
    repeat' split at h
    all_goals first | (cases h; exact .put _ _ _) | cases h
  · refine skip_ext h fun H' h' => ?_
    unfold ientryStore at h'
    repeat' split at h'
    all_goals first | (cases h'; exact .put _ _ _) | cases h'
  · unfold irange at h
    repeat' split at h
    all_goals first | (cases h; exact .push _ _) | cases h
  · unfold iextract at h
    split at h
    · unfold iextract2 at h
      split at h
      · rw [cond_eq_ite] at h
        split at h
        · cases h; exact .refl _
        · cases h
      · cases h
    · cases h

end Go.Idl

namespace Go.Idl

theorem veqF_sound (n : Nat) : ∀ v w, veqF n v w = true → v = w := by
  induction n with
  | zero => intro v w h; exact absurd h (by show ¬ (false = true); simp)
  | succ n ih =>
    intro v w h
    have hl : ∀ (a b : Array Value), eqL (veqF n) a.toList b.toList = true → a = b := fun a b hab => Array.ext' (eqL_sound ih hab)
    have hs : ∀ (a b : ByteArray), eqL (· == ·) a.data.toList b.data.toList = true → a = b := fun a b hab => by
      have := eqL_sound (fun x y (h : (x == y) = true) => by simpa using h) hab
      cases a; cases b; simp only at this; congr 1; exact Array.ext' this
    cases v <;> cases w <;> first | (exact absurd h (by show ¬ (false = true); simp)) | skip
    case bool.bool a b => have h' : (a == b) = true := h; simp at h'; rw [h']
    case int.int k a k' b => have h' : (k == k' && a == b) = true := h; simp at h'; rw [h'.1, h'.2]
    case string.string a b => rw [hs a b h]
    case pointer.pointer a b => have h' : (a == b) = true := h; simp at h'; rw [h']
    case slice.slice a l c a' l' c' => have h' : (a == a' && (l == l' && c == c')) = true := h; simp at h'; rw [h'.1, h'.2.1, h'.2.2]
    case map.map a b => have h' : (a == b) = true := h; simp at h'; rw [h']
    case func.func f a b f' a' b' =>
      have h' : (f == f' && (eqL (veqF n) a.toList a'.toList && eqL (veqF n) b.toList b'.toList)) = true := h
      simp only [Bool.and_eq_true, beq_iff_eq] at h'
      rw [h'.1, hl _ _ h'.2.1, hl _ _ h'.2.2]
    case nilFunc.nilFunc => rfl
    case nilIface.nilIface => rfl
    case agg.agg a b => rw [hl _ _ h]
    case tuple.tuple a b => rw [hl _ _ h]

theorem veq_sound {v w : Value} (h : veq v w = true) : v = w := veqF_sound 4 v w h
theorem veqL_sound {l m : List Value} (h : veqL l m = true) : l = m := eqL_sound (fun _ _ => veq_sound) h

theorem entries_ext {es es' : Array MapEntry} (hk : es.toList.map (·.key) = es'.toList.map (·.key)) (hv : es.toList.map (·.val) = es'.toList.map (·.val)) (hb : es.toList.map (·.born) = es'.toList.map (·.born)) : es = es' := by
  have key : ∀ (l l' : List MapEntry), l.map (·.key) = l'.map (·.key) → l.map (·.val) = l'.map (·.val) → l.map (·.born) = l'.map (·.born) → l = l' := by
    intro l
    induction l with
    | nil => intro l' h _ _; cases l' with
      | nil => rfl
      | cons a b => simp at h
    | cons a l ih => intro l' h1 h2 h3; cases l' with
      | nil => simp at h1
      | cons b l' =>
        simp only [List.map_cons, List.cons.injEq] at h1 h2 h3
        rw [ih l' h1.2 h2.2 h3.2]
        cases a; cases b
        simp only at h1 h2 h3
        rw [h1.1, h2.1, h3.1]
  exact Array.ext' (key _ _ hk hv hb)

theorem oeq_sound {o o' : Obj} (h : oeq o o' = true) : o = o' := by
  unfold oeq at h
  split at h
  · simp only [Bool.and_eq_true, beq_iff_eq] at h
    rw [Array.ext' (veqL_sound h.1.1), h.1.2, h.2]
  · simp only [Bool.and_eq_true, beq_iff_eq] at h
    rw [Array.ext' (veqL_sound h.1), h.2]
  · simp only [Bool.and_eq_true, beq_iff_eq] at h
    rename_i s p s' p'
    have := eqL_sound (fun x y (h : (x == y) = true) => by simpa using h) h.1
    rw [h.2]
    cases s; cases s'; simp only at this; rw [Array.ext' this]
  · simp only [Bool.and_eq_true, beq_iff_eq] at h
    rw [h.1.1.1, h.1.1.2, Array.ext' h.1.2, h.2]
  · simp only [Bool.and_eq_true, beq_iff_eq] at h
    rw [h.1.1.1, entries_ext (veqL_sound h.1.1.2) (veqL_sound h.1.2) h.2]
  · cases h

theorem ooeq_sound {o o' : Option Obj} (h : ooeq o o' = true) : o = o' := by
  unfold ooeq at h
  split at h
  · rfl
  · rw [oeq_sound h]
  · cases h

/-- what holds behind one end holds behind the joined one -/
structure Sub (H0 : IH) (p o : Out) : Prop where
  e : o.e = p.e
  env : ∀ (P : Program) (f : Inj) (l : List Value), VRelL P f p.env l → VRelL P f o.env l
  rel : ∀ (P : Program) (f : Inj) (w : World), Rel P f p.H w → Rel P f o.H w
  keep : ∀ f, Keep f H0 p.H → Keep f H0 o.H
  size : p.H.size ≤ o.H.size

theorem joinEnv_length : ∀ (a b : Env), a.length = b.length → (joinEnv a b).length = a.length
  | [], [], _ => rfl
  | x :: a, y :: b, h => by simp [joinEnv, joinEnv_length a b (by simpa using h)]
  | [], _ :: _, h => by simp at h
  | _ :: _, [], h => by simp at h

theorem joinEnv_left {P : Program} {f : Inj} : ∀ (a b l : List Value), a.length = b.length → VRelL P f a l → VRelL P f (joinEnv a b) l
  | [], [], l, _, h => by rw [h.nil_left]; exact .nil
  | x :: a, y :: b, l, hl, h => by
    obtain ⟨v', t', rfl, hv, ht⟩ := h.uncons
    refine .cons ?_ (joinEnv_left a b t' (by simpa using hl) ht)
    split
    · exact hv
    · exact .any _
  | [], _ :: _, l, h, _ => by simp at h
  | _ :: _, [], l, h, _ => by simp at h
theorem joinEnv_right {P : Program} {f : Inj} : ∀ (a b l : List Value), a.length = b.length → VRelL P f b l → VRelL P f (joinEnv a b) l
  | [], [], l, _, h => by rw [h.nil_left]; exact .nil
  | x :: a, y :: b, l, hl, h => by
    obtain ⟨v', t', rfl, hv, ht⟩ := h.uncons
    refine .cons ?_ (joinEnv_right a b t' (by simpa using hl) ht)
    split
    · rename_i he; rw [veq_sound he]; exact hv
    · exact .any _
  | [], _ :: _, l, h, _ => by simp at h
  | _ :: _, [], l, h, _ => by simp at h

theorem foldEnv {P : Program} {f : Inj} {l : List Value} : ∀ (rest : List Out) (e : Env), (∀ p ∈ rest, p.env.length = e.length) → (VRelL P f e l ∨ ∃ p ∈ rest, VRelL P f p.env l) →
    VRelL P f (rest.foldl (fun e p => joinEnv e p.env) e) l
  | [], e, _, h => by
    rcases h with h | ⟨p, hp, _⟩
    · exact h
    · cases hp
  | q :: rest, e, hl, h => by
    have hq : e.length = q.env.length := (hl q (by simp)).symm
    refine foldEnv rest _ (fun p hp => by rw [joinEnv_length _ _ hq]; exact hl p (by simp [hp])) ?_
    rcases h with h | ⟨p, hp, h⟩
    · exact .inl (joinEnv_left _ _ _ hq h)
    · rcases List.mem_cons.1 hp with rfl | hp
      · exact .inl (joinEnv_right _ _ _ hq h)
      · exact .inr ⟨p, hp, h⟩

theorem foldTr (H : IH) (l : List Nat) (hl : ∀ b ∈ l, (H.get b).isSome = true) : ∀ (t : Tr Obj) (b : Nat), (l.foldl (fun t b => match H.get b with
    | some ob => t.set b ob
    | none => t) t).get b = if b ∈ l then H.get b else t.get b := by
  induction l with
  | nil => intro t b; simp
  | cons x l ih =>
    intro t b
    simp only [List.foldl_cons]
    rw [ih (fun y hy => hl y (by simp [hy]))]
    have hx := hl x (by simp)
    cases hg : H.get x with
    | none => rw [hg] at hx; cases hx
    | some ob =>
      simp only
      by_cases hb : b ∈ l
      · simp [hb]
      · rw [if_neg hb, Tr.get_set]
        by_cases hbx : b = x
        · subst hbx; simp [hg]
        · simp [hb, hbx]

theorem foldMax (l : List Out) : ∀ (m : Nat), m ≤ l.foldl (fun m p => Nat.max m p.H.size) m ∧ ∀ p ∈ l, p.H.size ≤ l.foldl (fun m p => Nat.max m p.H.size) m := by
  induction l with
  | nil => intro m; simp
  | cons x l ih =>
    intro m
    obtain ⟨h1, h2⟩ := ih (Nat.max m x.H.size)
    simp only [List.foldl_cons]
    refine ⟨Nat.le_trans (Nat.le_max_left _ _) h1, fun p hp => ?_⟩
    rcases List.mem_cons.1 hp with rfl | hp
    · exact Nat.le_trans (Nat.le_max_right _ _) h1
    · exact h2 p hp

theorem Ext.since {H H' : IH} (h : Ext H H') {b : Nat} (hb : b < H.size) (hn : b ∉ H'.since H.log.length) : H'.get b = H.get b := by
  obtain ⟨l, hl, hg⟩ := h.log
  refine hg b hb ?_
  unfold IH.since at hn
  rw [hl] at hn
  simpa using hn

theorem joinOut_sub {H0 : IH} {l : List Out} {o : Out} (h : joinOut H0 H0.log.length l = some o) (hext : ∀ p ∈ l, Ext H0 p.H) :
    ((∀ b, H0.size ≤ b → H0.get b = none) → ∀ p ∈ l, Sub H0 p o) ∧ Ext H0 o.H := by
  unfold joinOut at h
  split at h
  · cases h
  · rename_i o1 rest
    split at h
    · rename_i hc
      cases h
      simp only [Bool.and_eq_true, List.all_eq_true, decide_eq_true_eq] at hc
      obtain ⟨hsome, hrest⟩ := hc
      have hb1 : ∀ b, b ∈ (o1.H.since H0.log.length).filter (· < H0.size) ↔ b ∈ o1.H.since H0.log.length ∧ b < H0.size := fun b => by simp
      -- the joined heap, block by block
      have hget : ∀ b, (IH.mk (((o1.H.since H0.log.length).filter (· < H0.size)).foldl (fun t b => match o1.H.get b with
            | some ob => t.set b ob
            | none => t) H0.tr) ((o1 :: rest).foldl (fun m p => Nat.max m p.H.size) 0) H0.base ((o1.H.since H0.log.length).filter (· < H0.size) ++ H0.log)).get b =
          if b ∈ (o1.H.since H0.log.length).filter (· < H0.size) then o1.H.get b else H0.get b := fun b => foldTr o1.H _ hsome H0.tr b
      generalize hJ : (IH.mk (((o1.H.since H0.log.length).filter (· < H0.size)).foldl (fun t b => match o1.H.get b with
            | some ob => t.set b ob
            | none => t) H0.tr) ((o1 :: rest).foldl (fun m p => Nat.max m p.H.size) 0) H0.base ((o1.H.since H0.log.length).filter (· < H0.size) ++ H0.log)) = J at *
      have hJsize : J.size = (o1 :: rest).foldl (fun m p => Nat.max m p.H.size) 0 := by rw [← hJ]
      have hJlog : J.log = (o1.H.since H0.log.length).filter (· < H0.size) ++ H0.log := by rw [← hJ]
      have hlow1 : ∀ b, b < H0.size → J.get b = o1.H.get b := by
        intro b hb
        rw [hget]
        split
        · rfl
        · rename_i hn
          exact ((hext o1 (by simp)).since hb (fun hx => hn ((hb1 b).2 ⟨hx, hb⟩))).symm
      have hlow : ∀ p ∈ o1 :: rest, ∀ b, b < H0.size → J.get b = p.H.get b := by
        intro p hp b hb
        rcases List.mem_cons.1 hp with rfl | hp
        · exact hlow1 b hb
        · obtain ⟨⟨⟨_, _⟩, hs1⟩, hs2⟩ := hrest p hp
          rw [hlow1 b hb]
          by_cases hm1 : b ∈ o1.H.since H0.log.length
          · exact ooeq_sound (List.all_eq_true.1 hs1 b ((hb1 b).2 ⟨hm1, hb⟩))
          · by_cases hm2 : b ∈ p.H.since H0.log.length
            · exact ooeq_sound (List.all_eq_true.1 hs2 b (by simp [hm2, hb]))
            · rw [(hext o1 (by simp)).since hb hm1, (hext p (by simp [hp])).since hb hm2]
      have hhigh : (∀ b, H0.size ≤ b → H0.get b = none) → ∀ b, H0.size ≤ b → J.get b = none := by
        intro hfresh b hb
        rw [hget, if_neg (fun hx => by have := ((hb1 b).1 hx).2; omega)]
        exact hfresh b hb
      have hsize : ∀ p ∈ o1 :: rest, p.H.size ≤ J.size := fun p hp => by rw [hJsize]; exact (foldMax _ 0).2 p hp
      refine ⟨fun hfresh p hp => ⟨?_, ?_, ?_, ?_, hsize p hp⟩, ?_, ?_⟩
      · rcases List.mem_cons.1 hp with rfl | hp
        · rfl
        · exact (hrest p hp).1.1.1.symm
      · intro P f l hl
        refine foldEnv rest o1.env (fun q hq => (hrest q hq).1.1.2) ?_
        rcases List.mem_cons.1 hp with rfl | hp
        · exact .inl hl
        · exact .inr ⟨p, hp, hl⟩
      · intro P f w hR
        have some_low : ∀ b ob, J.get b = some ob → p.H.get b = some ob := by
          intro b ob hb
          by_cases hlt : b < H0.size
          · rw [← hlow p hp b hlt]; exact hb
          · rw [hhigh hfresh b (by omega)] at hb; cases hb
        refine ⟨fun b e hb => Nat.lt_of_lt_of_le (hR.dom b e hb) (hsize p hp), fun b hb => ?_, hR.bound, fun b e ob hb hob => hR.obj b e ob hb (some_low b ob hob), ?_, hR.rosame⟩
        · by_cases hlt : b < H0.size
          · have h1 := (hext p hp).size
            have h2 := hsize p hp
            simp only at hb
            omega
          · exact hhigh hfresh b (by omega)
        · intro b1 b2 e1 e2 o1' o2' hne h1 h2 g1 g2
          exact hR.sep b1 b2 e1 e2 o1' o2' hne h1 h2 (some_low _ _ g1) (some_low _ _ g2)
      · intro f hK
        exact ⟨Nat.le_trans hK.1 (hsize p hp), fun b hb hn => by rw [hlow p hp b hb]; exact hK.2 b hb hn⟩
      · exact Nat.le_trans (hext o1 (by simp)).size (hsize o1 (by simp))
      · exact ⟨_, hJlog, fun b hb hn => by rw [hget, if_neg hn]⟩
    · cases h

theorem Sub.refl (H0 : IH) (p : Out) : Sub H0 p p := ⟨rfl, fun _ _ _ h => h, fun _ _ _ h => h, fun _ h => h, Nat.le_refl _⟩

theorem join_holds {H : IH} {Q : Out → Prop} (hfresh : ∀ b, H.size ≤ b → H.get b = none) (t : T Out) (ha : t.all fun o => Ext H o.H) (h : (join H t).holds Q) : t.holds fun p => ∃ o, Q o ∧ Sub H p o := by
  have triv : t.holds Q → t.holds fun p => ∃ o, Q o ∧ Sub H p o := fun h => T.holds_mono (fun p hp => ⟨p, hp, .refl _ _⟩) t h
  unfold join at h
  split at h
  · rename_i n k
    split at h
    · rename_i l hl
      split at h
      · rename_i o ho
        obtain ⟨h1, h2⟩ := (T.ch n k).leaves_all (Q := fun p => ∃ o, Q o ∧ Sub H p o) l hl
        obtain ⟨_, h4⟩ := (T.ch n k).leaves_all (Q := fun o => Ext H o.H) l hl
        exact h1 fun p hp => ⟨o, h, (joinOut_sub ho (h4 ha)).1 hfresh p hp⟩
      · exact triv h
    · exact triv h
  · exact triv h

theorem join_all {H : IH} (t : T Out) (ha : t.all fun o => Ext H o.H) : (join H t).all fun o => Ext H o.H := by
  unfold join
  split
  · rename_i n k
    split
    · rename_i l hl
      split
      · rename_i o ho
        obtain ⟨_, h4⟩ := (T.ch n k).leaves_all (Q := fun o => Ext H o.H) l hl
        exact (joinOut_sub ho (h4 ha)).2
      · exact ha
    · exact ha
  · exact ha

end Go.Idl

namespace Go.Idl
variable {P : Program} {good : FuncId → Bool} {nat : Nats}

def NatExt (nat : Nats) : Prop := ∀ f g, nat f = some g → ∀ args H, (g args H).all fun r => Ext H r.2
def RunExt (run : Job → IH → T Out) : Prop := ∀ j H, (run j H).all fun o => Ext H o.H

theorem all_ext_trans {α : Type} {g : α → IH} {H H1 : IH} (h : Ext H H1) {t : T α} (ht : t.all fun a => Ext H1 (g a)) : t.all fun a => Ext H (g a) := T.all_mono (fun _ ha => h.trans ha) t ht

theorem callOut_ext {H : IH} {r : Out} (h : Ext H r.H) : (callOut r).all fun r => Ext H r.2 := by
  unfold callOut
  split
  · exact h
  · exact trivial

theorem enterT_ext {run : Job → IH → T Out} (hn : NatExt nat) (hr : RunExt run) (f : FuncId) (args : List Value) (H : IH) : (enterT run nat f args H).all fun r => Ext H r.2 := by
  unfold enterT
  split
  · rename_i g hg; exact hn f g hg args H
  · rw [T.all_bind]
    exact T.all_mono (fun o ho => callOut_ext ho) _ (hr _ H)

theorem iop1_ext {run : Job → IH → T Out} (hn : NatExt nat) (hr : RunExt run) (o : Oper) (env : Env) (H : IH) : (iop1 P run nat o env H).all fun r => Ext H r.2 := by
  unfold iop1 step1T
  split
  · rename_i v H' h; exact iop_ext h
  · rename_i f args H' h
    have : H' = H := iop_ext h
    subst this
    exact enterT_ext hn hr f args H'
  · rename_i l args H' h
    have : H' = H := iop_ext h
    subst this
    rw [T.all_bind]
    exact T.all_mono (fun o ho => callOut_ext ho) _ (hr _ H')
  · rename_i n k h
    intro i hi
    have := iop_ext h i hi
    show (T.ofO (k i)).all _
    cases hk : k i with
    | none => exact trivial
    | some r => exact this r.1 r.2 hk
  · exact trivial

theorem iops_ext {run : Job → IH → T Out} (hn : NatExt nat) (hr : RunExt run) (ops : Array Oper) : ∀ (l : List Oper) (env : Env) (H : IH), (iops P run nat ops l env H).all fun r => Ext H r.2
  | [], env, H => .refl _
  | o :: l, env, H => by
    rw [iops_cons]
    unfold byWant
    split
    · rw [T.all_bind]
      exact T.all_mono (fun r hrr => all_ext_trans hrr (iops_ext hn hr ops l _ _)) _ (iop1_ext hn hr o env H)
    · exact iops_ext hn hr ops l _ _
    · exact trivial

theorem iopsA_ext : ∀ (l : List Oper) (env env1 : Env) (H H1 : IH), iopsA P l env H = some (env1, H1) → Ext H H1
  | [], env, env1, H, H1, h => by simp [iopsA] at h; rw [h.2]; exact .refl _
  | o :: l, env, env1, H, H1, h => by
    unfold iopsA at h
    split at h
    · split at h
      · rename_i v H' hv
        exact .trans (iop_ext hv) (iopsA_ext l _ _ _ _ h)
      · cases h
    · exact iopsA_ext l _ _ _ _ h

theorem out1_all {Q : Value × IH → Prop} {t : T (Value × IH)} {r : Value × IH} (h : Out1 t = some r) (ha : t.all Q) : Q r := by
  unfold Out1 at h
  split at h
  · cases h; exact ha
  · cases h

theorem iopsD_cons {run : Job → IH → T Out} {ops : Array Oper} {lo : List (Nat × Nat × Nat)} {o : Oper} {l : List Oper} {i : Nat} {env : Env} {H : IH} :
    iopsD P run nat ops lo (o :: l) i env H = cond (isAlloc o) (iopsD P run nat ops lo l (i + 1) env H)
      (byWant (iwanted ops o env) (thenD o i env lo (iopsD P run nat ops lo l (i + 1)) (Out1 (iop1 P run nat o env H)))
        (consS o H (iopsD P run nat ops lo l (i + 1) (env.putD o.dst undef) H)) none) := rfl

theorem iopsD_ext {run : Job → IH → T Out} (hn : NatExt nat) (hr : RunExt run) (ops : Array Oper) (lo : List (Nat × Nat × Nat)) : ∀ (l : List Oper) (i : Nat) (env : Env) (H : IH) (r : Env × IH × List IH × List Rec),
    iopsD P run nat ops lo l i env H = some r → Ext H r.2.1
  | [], i, env, H, r, h => by
    have h' : some (env, H, [], []) = some r := h
    cases h'; exact .refl _
  | o :: l, i, env, H, r, h => by
    rw [iopsD_cons] at h
    cases ha : isAlloc o with
    | true => rw [ha] at h; exact iopsD_ext hn hr ops lo l _ _ _ _ h
    | false =>
      rw [ha] at h
      simp only [cond_false] at h
      unfold byWant at h
      split at h
      · cases ho : Out1 (iop1 P run nat o env H) with
        | none => rw [ho] at h; cases h
        | some q =>
          rw [ho] at h
          simp only [thenD, consD] at h
          split at h
          · rename_i e hh hs rs hq
            cases h
            exact .trans (out1_all ho (iop1_ext hn hr o env H)) (iopsD_ext hn hr ops lo l _ _ _ (e, hh, hs, rs) hq)
          · cases h
      · simp only [consS] at h
        split at h
        · rename_i e hh hs rs hq
          cases h
          exact iopsD_ext hn hr ops lo l _ _ _ (e, hh, hs, rs) hq
        · cases h
      · cases h

theorem idraw_ext {run : Job → IH → T Out} (hn : NatExt nat) (hr : RunExt run) {ops : Array Oper} {env : Env} {H : IH} {r : Env × IH} (h : idraw P run nat ops env H = some r) : Ext H r.2 := by
  unfold idraw at h
  split at h
  · rename_i env1 H1 h1
    unfold drawEnd at h
    split at h
    · rename_i env2 H2 hs rs h2
      rw [cond_eq_ite] at h
      split at h
      · cases h
        exact .trans (iopsA_ext _ _ _ _ _ h1) (iopsD_ext hn hr _ _ _ _ _ _ _ h2)
      · cases h
    · cases h
  · cases h

theorem bind_ext {run : Job → IH → T Out} (hr : RunExt run) {j : Job} {H : IH} {k : Out → T Out} (hk : ∀ o, (k o).all fun o' => Ext o.H o'.H) : ((run j H).bind k).all fun o => Ext H o.H := by
  rw [T.all_bind]
  exact T.all_mono (fun o ho => all_ext_trans ho (hk o)) _ (hr j H)

theorem roundStep_ext {run : Job → IH → T Out} (hr : RunExt run) (l : Nat) (args : List Value) (H : IH) : (roundStep run l args H).all fun o => Ext H o.H := by
  unfold roundStep
  split
  · split
    · refine bind_ext hr fun o => ?_
      unfold roundBody
      split
      · split
        · split
          · rw [T.all_bind]
            refine T.all_mono (fun s hs => ?_) _ (hr _ _)
            have hs' : Ext o.H s.H := .trans (.put _ _ _) hs
            unfold roundEnd
            split
            · exact .trans hs' (.put _ _ _)
            · exact trivial
          · exact trivial
        · exact trivial
      · exact trivial
    · exact trivial
  · exact trivial

theorem rangeStep_ext {run : Job → IH → T Out} (hn : NatExt nat) (hr : RunExt run) (v : Value) (params : Array Tmp) (assign body : Code) (env : Env) (H : IH) : (rangeStep P run nat v params assign body env H).all fun o => Ext H o.H := by
  unfold rangeStep
  split
  · rw [cond_eq_ite]
    split
    case isFalse => exact trivial
    rw [T.all_bind]
    refine T.all_mono (fun r hrr => ?_) _ (enterT_ext hn hr _ _ _)
    have h1 : Ext H r.2 := .trans (.push _ _) hrr
    unfold afterRange
    split
    · split
      · exact trivial
      · split
        · exact .trans h1 (.put _ _ _)
        · exact all_ext_trans (.trans h1 (.put _ _ _)) (hr _ _)
    · exact trivial
  · exact trivial

theorem codeStep_ext {run : Job → IH → T Out} (hn : NatExt nat) (hr : RunExt run) (c : Code) (env : Env) (H : IH) : (codeStep P run nat c env H).all fun o => Ext H o.H := by
  unfold codeStep
  split
  · exact .refl _
  · exact .refl _
  · exact .refl _
  · exact .refl _
  · refine bind_ext hr fun o => ?_
    unfold seqStep
    split
    · exact hr _ _
    · exact .refl _
  · unfold condStep
    split
    · exact hr _ _
    · exact trivial
  · refine bind_ext hr fun o => ?_
    unfold blockStep
    split
    · rw [cond_eq_ite]
      split
      · exact .refl _
      · exact .refl _
    · exact .refl _
  · refine join_all _ (bind_ext hr fun o => ?_)
    unfold loopStep
    split
    · exact hr _ _
    · exact .refl _
  · refine bind_ext hr fun o => ?_
    unfold scopeStep
    split
    · exact trivial
    · exact .refl _
  · unfold regionStep
    rw [cond_eq_ite]
    split
    · unfold drawStep
      split
      · rename_i env2 H2 h; exact idraw_ext hn hr h
      · exact trivial
    · rw [T.all_bind]
      exact iops_ext hn hr _ _ _ _
  · exact rangeStep_ext hn hr _ _ _ _ _ _
  · exact trivial

theorem callStep_ext {run : Job → IH → T Out} (hr : RunExt run) (f : FuncId) (args : List Value) (H : IH) : (callStep P good run f args H).all fun o => Ext H o.H := by
  unfold callStep
  split
  · split
    · rw [cond_eq_ite]
      split
      · refine join_all _ (bind_ext hr fun o => ?_)
        unfold resStep
        split
        · split
          · exact .refl _
          · exact trivial
        · split
          · exact .refl _
          · exact trivial
        · exact trivial
      · exact trivial
    · exact trivial
  · exact trivial

theorem iex_ext (hn : NatExt nat) : ∀ (n : Nat), RunExt (iex P good nat n)
  | 0, j, H => trivial
  | n + 1, j, H => by
    rw [iex_succ]
    have hr := iex_ext hn n
    unfold jobStep
    split
    · exact codeStep_ext hn hr _ _ _
    · exact callStep_ext hr _ _ _
    · exact roundStep_ext hr _ _ _

end Go.Idl

namespace Go.Idl
variable {P : Program} {nat : Nats}

/-- the globals that an ideal run may name -/
def Glob (G : Nat → Bool) (f : Inj) : Prop := ∀ g, G g = true → globOk f g = true
theorem Glob.mono {G : Nat → Bool} {f f' : Inj} (h : Glob G f) (hl : f.le f') : Glob G f' := fun g hg => globOk_mono hl g (h g hg)

theorem env_get {f : Inj} {env : Env} {a : Act} (h : VRelL P f env a.tmps.toList) (t : Nat) : VRel P f ((nthR env t).getD undef) (a.tmps.getD t undef) := by
  rw [nthR_eq]
  cases ht : env[t]? with
  | some v =>
    obtain ⟨v', h1, h2⟩ := h.get ht
    have h1' : a.tmps[t]? = some v' := by simpa using h1
    simpa [Array.getD_eq_getD_getElem?, h1'] using h2
  | none =>
    have hlen : env.length ≤ t := List.getElem?_eq_none_iff.1 ht
    have h1' : a.tmps[t]? = none := by
      have := h.1
      rw [Array.getElem?_eq_none]
      simp only [Array.length_toList] at this
      omega
    simpa [Array.getD_eq_getD_getElem?, h1'] using VRel.undef

theorem eval_rel {f : Inj} {env : Env} {a : Act} (h : VRelL P f env a.tmps.toList) {x : Operand} (hx : opdOk (globOk f) x = true) : VRel P f (env.val x) (a.eval x) := by
  cases x with
  | tmp t => exact env_get h t
  | const v => exact .base _ hx
  | global g =>
    obtain ⟨e, h1, h2, h3⟩ := globOk_iff.1 hx
    have := VRel.ptr (P := P) (o := 0) h1
    rw [h2, h3] at this
    exact this
  | func g => exact .base _ rfl

theorem putD_rel {f : Inj} {env : Env} {a : Act} (h : VRelL P f env a.tmps.toList) {v v' : Value} (hv : VRel P f v v') (d : Option Tmp) : VRelL P f (env.putD d v) (a.put d v').tmps.toList := by
  cases d with
  | none => exact h
  | some t =>
    simp only [Env.putD, Act.put, setR_eq]
    rw [Array.toList_setIfInBounds]
    exact h.set hv t

/-- a fence that lets everything pass, of a function's frame or of a round's -/
def Free (F : Fence) : Prop := F = Fence.wide ∨ ∃ l, F = Fence.wide.inRound l
theorem free_wide : Free Fence.wide := .inl rfl
theorem free_round (l : Nat) : Free (Fence.wide.inRound l) := .inr ⟨l, rfl⟩
theorem Free.fn {F : Fence} (h : Free F) (g : FuncId) : F.fn g := by rcases h with rfl | ⟨l, rfl⟩ <;> exact trivial
theorem Free.depth {F : Fence} (h : Free F) : F.depth = none := by rcases h with rfl | ⟨l, rfl⟩ <;> rfl
theorem Free.calls {F : Fence} (h : Free F) {n : Nat} {g : FuncId} {args : Array Value} {w : World} {R : Ending → World → Prop} (hc : CallsIn Fence.wide n P g args w R) : CallsIn F n P g args w R := by
  rcases h with rfl | ⟨l, rfl⟩ <;> exact hc
theorem Free.round {F : Fence} (h : Free F) {n l : Nat} {g : FuncId} {tmps : Array Value} {x y : Code} {w : World} {R : Ending → World → Prop} (hc : RoundIn Fence.wide n P l g tmps x y w R) : RoundIn F n P l g tmps x y w R := by
  rcases h with rfl | ⟨l, rfl⟩ <;> exact hc

def boolOf : Value → Option Bool
  | .bool b => some b
  | _ => none

theorem VRel.undef_inv {f : Inj} {v' : Value} (h : VRel P f (.tuple #[]) v') : v' = .tuple #[] := by
  generalize hv : (Value.tuple #[]) = v at h
  cases h with
  | any _ => simp [unk] at hv
  | undef => rfl
  | base _ _ => rfl
  | tuple ha _ =>
    cases hv
    simp at ha
    rw [Array.eq_empty_of_size_eq_zero ha.symm]
  | _ => cases hv

theorem wanted_rel {f : Inj} {ops : Array Oper} {o : Oper} {env : Env} {a : Act} {b : Bool} (h : VRelL P f env a.tmps.toList) (hw : iwanted ops o env = some b) : Region.wanted o (yielded ops a.tmps) = b := by
  unfold iwanted at hw
  unfold Region.wanted
  split at hw
  · rename_i hg
    cases hw; rw [hg]
  · rename_i j want hg
    rw [hg]
    split at hw
    · rename_i t ht
      split at hw
      · rename_i v hv
        rw [nthR_eq] at hv
        obtain ⟨v', h1, h2⟩ := h.get hv
        have h1' : a.tmps[t]? = some v' := by simpa using h1
        have hy : yielded ops a.tmps j = boolOf v' := by
          unfold yielded
          simp only [ht, Option.bind_some, h1']
          cases v' <;> rfl
        simp only [hy]
        unfold iwantV at hw
        split at hw
        · cases hw
          rw [h2.boolV]
          rename_i c
          cases c <;> cases want <;> rfl
        · rename_i vs
          cases hve : vs.isEmpty with
          | false => rw [hve] at hw; cases hw
          | true =>
            rw [hve] at hw
            cases hw
            have : vs = #[] := by simpa using hve
            subst this
            rw [h2.undef_inv]
            rfl
        · cases hw
      · cases hw
    · rename_i ht
      cases hw
      have hy : yielded ops a.tmps j = none := by
        unfold yielded
        rw [ht]; rfl
      simp [hy]

/-- the run's contract for calls -/
def Comes (P : Program) (f : Inj) (H : IH) (w : World) (Q : Value × IH → Prop) : Ending → World → Prop := fun e w' =>
  ∃ v' r f', e = .returned v' ∧ Q r ∧ Rel P f' r.2 w' ∧ Grow f H w f' r.2 w' ∧ VRel P f' r.1 v'

def CallSpec (P : Program) (G : Nat → Bool) (en : FuncId → List Value → IH → T (Value × IH)) : Prop :=
  ∀ (g : FuncId) (args args' : List Value) (H : IH) (f : Inj) (w : World) (Q : Value × IH → Prop), Rel P f H w → Glob G f → VRelL P f args args' → (en g args H).holds Q →
    CallsIn Fence.wide 0 P g args'.toArray w (Comes P f H w Q)

def RoundSpec (P : Program) (G : Nat → Bool) (run : Job → IH → T Out) : Prop :=
  ∀ (l : Nat) (args args' : List Value) (H : IH) (f : Inj) (w : World) (e : Emb) (Q : Value × IH → Prop), Rel P f H w → Glob G f → f l = some e → VRelL P f args args' →
    ((run (.round l args) H).bind callOut).holds Q →
    ∃ fn tmps assign body, (Instr.yield e.r args'.toArray).run P w = .ok (.round e.r fn tmps assign body) w ∧ RoundIn Fence.wide 0 P e.r fn tmps assign body w (Comes P f H w Q)

theorem noDefer_of_iop {o : Oper} {env : Env} {H : IH} {s : Step1} (h : iop P o env H = some s) : ∀ c, o.op ≠ .defer c := by
  intro c hc
  unfold iop at h
  rw [hc] at h
  cases h

theorem op_sound {G : Nat → Bool} {F : Fence} {run : Job → IH → T Out} {o : Oper} {env : Env} {H : IH} {f : Inj} {a : Act} {w : World} {Q : Value × IH → Prop} {K : Act → World → Prop} {Qx : Exit → Act → World → Prop}
    (hF : Free F) (hc : CallSpec P G (enterT run nat)) (hr : RoundSpec P G run) (hR : Rel P f H w) (hG : Glob G f) (henv : VRelL P f env a.tmps.toList) (hok : o.op.operands.toList.all (opdOk (globOk f)) = true)
    (h : (iop1 P run nat o env H).holds Q)
    (hK : ∀ r v' w' f', Q r → Rel P f' r.2 w' → Grow f H w f' r.2 w' → VRel P f' r.1 v' → K (a.put o.dst v') w') : o.wpIn F 0 P a w K Qx := by
  have hρ : ∀ x ∈ o.op.operands, VRel P f (env.val x) (a.eval x) := fun x hx => eval_rel henv (List.all_eq_true.1 hok x (Array.mem_def.1 hx))
  refine ⟨fun g _ => hF.fn g, ?_⟩
  unfold iop1 at h
  cases hs : iop P o env H with
  | none => rw [hs] at h; exact h.elim
  | some s =>
    rw [hs] at h
    have hd := noDefer_of_iop hs
    have hsem : o.semAt F.round a.eval = execOp a.eval o := by
      cases F.round with
      | none => rfl
      | some l => exact Oper.semAt_some l _ _ hd
    rw [hsem]
    have hpost := iop_sim hR hs hρ
    have value : ∀ v H', NPost P f H w v H' ((execOp a.eval o).run P w) → Q (v, H') → o.uponIn F 0 P a K Qx ((execOp a.eval o).run P w) := by
      rintro v H' ⟨nx, v', w', f', h1, h2, h3, h4, h5, h6⟩ hq
      rw [h1]
      rcases h2 with rfl | ⟨rfl, rfl⟩
      · exact hK (v, H') v' w' f' hq h3 h4 h5
      · exact hK (v, H') undef w' f' hq h3 h4 h5
    cases s with
    | val v H' => exact value v H' hpost h
    | enter g args H' =>
      obtain ⟨rfl, args', ha, hrun⟩ := hpost
      rw [hrun]
      refine ⟨(fun hdep => absurd hdep (by rw [hF.depth]; simp)), ?_⟩
      have := hc g args args' H' f w Q hR hG ha h
      have h2 : CallsIn F 0 P g args'.toArray w (Comes P f H' w Q) := hF.calls this
      refine CallsIn.mono h2 ?_
      rintro e w'' ⟨v', r, f', rfl, hq, h3, h4, h5⟩
      exact hK r v' w'' f' hq h3 h4 h5
    | round l args H' =>
      obtain ⟨rfl, e, args', he, ha, hrun⟩ := hpost
      obtain ⟨fn, tmps, assign, body, hy, hround⟩ := hr l args args' H' f w e Q hR hG he ha h
      rw [hrun, hy]
      refine ⟨(fun hdep => absurd hdep (by rw [hF.depth]; simp)), ?_⟩
      have h2 : RoundIn F 0 P e.r fn tmps assign body w (Comes P f H' w Q) := hF.round hround
      refine RoundIn.mono h2 ?_
      rintro e w'' ⟨v', r, f', rfl, hq, h3, h4, h5⟩
      exact hK r v' w'' f' hq h3 h4 h5
    | choice n k =>
      obtain ⟨i, hi, hpi⟩ := hpost
      have hq := h i hi
      have hq : (T.ofO (k i)).holds Q := hq
      cases hk : k i with
      | none => rw [hk] at hq; exact hq.elim
      | some r => rw [hk] at hq; exact value r.1 r.2 (hpi r.1 r.2 hk) hq

/-- a frame's deferred calls: marks alone, each with its block, shut by none yet -/
def Marks (B : Nat) (f : Inj) (w : World) : List Deferred → Prop
  | [] => B ≤ w.heap.size
  | d :: ds => (∃ r, d.target = .collected r ∧ B ≤ r ∧ r < w.heap.size ∧ w.heap[r]? = some (.deferred (some [])) ∧ (∀ b e, f b = some e → e.r ≠ r) ∧ ∀ d' ∈ ds, d'.target ≠ .collected r) ∧ Marks B f w ds
theorem Marks.grow {B : Nat} {f f' : Inj} {H H' : IH} {w w' : World} (hg : Grow f H w f' H' w') : ∀ (ds : List Deferred), Marks B f w ds → Marks B f' w' ds
  | [], h => Nat.le_trans h hg.size
  | d :: ds, ⟨⟨r, h1, hB, h2, h3, h4, h5⟩, h6⟩ => by
    obtain ⟨_, g2⟩ := hg.keep r h2 (fun ⟨b, e, hb, he, _⟩ => h4 b e hb he)
    exact ⟨⟨r, h1, hB, Nat.lt_of_lt_of_le h2 hg.size, by rw [g2]; exact h3, hg.un r h2 h4, h5⟩, Marks.grow hg ds h6⟩

theorem Marks.le {B : Nat} {f : Inj} {w : World} : ∀ {ds : List Deferred}, Marks B f w ds → B ≤ w.heap.size
  | [], h => h
  | _ :: _, h => Marks.le h.2

theorem put_defers (a : Act) (d : Option Tmp) (v : Value) : (a.put d v).defers = a.defers := by cases d <;> rfl

theorem ops_sound {B : Nat} {G : Nat → Bool} {F : Fence} {run : Job → IH → T Out} {ops : Array Oper} (hF : Free F) (hc : CallSpec P G (enterT run nat)) (hr : RoundSpec P G run) {Qx : Exit → Act → World → Prop} : ∀ (l : List Oper)
    (env : Env) (H : IH) (f : Inj) (a : Act) (w : World) (Q : Env × IH → Prop), Rel P f H w → Glob G f → VRelL P f env a.tmps.toList → Marks B f w a.defers → (∀ o ∈ l, o.op.operands.toList.all (opdOk (globOk f)) = true) →
    (iops P run nat ops l env H).holds Q → (∀ r a' w' f', Q r → Rel P f' r.2 w' → Grow f H w f' r.2 w' → VRelL P f' r.1 a'.tmps.toList → Marks B f' w' a'.defers → Qx .normal a' w') →
    wpListIn F 0 P ops Qx l a w
  | [], env, H, f, a, w, Q, hR, hG, henv, hm, _, h, hK => hK (env, H) a w f h hR (.refl _ _ _) henv hm
  | o :: l, env, H, f, a, w, Q, hR, hG, henv, hm, hok, h, hK => by
    rw [iops_cons] at h
    unfold wpListIn
    unfold byWant at h
    split at h
    · rename_i hw
      rw [wanted_rel henv hw, if_pos rfl]
      rw [T.holds_bind] at h
      refine op_sound hF hc hr hR hG henv (hok o (by simp)) h fun r v' w' f' hq h1 h2 h3 => ?_
      refine ops_sound hF hc hr l (env.putD o.dst r.1) r.2 f' (a.put o.dst v') w' Q h1 (hG.mono h2.le) (putD_rel (henv.mono h2.le) h3 _) (by rw [put_defers]; exact Marks.grow h2 _ hm)
        (fun o' ho' => List.all_eq_true.2 fun x hx => opdOk_mono (globOk_mono h2.le) (List.all_eq_true.1 (hok o' (by simp [ho'])) x hx)) hq
        fun r' a' w'' f'' hq' g1 g2 g3 g4 => hK r' a' w'' f'' hq' g1 (h2.trans g2) g3 g4
    · rename_i hw
      rw [wanted_rel henv hw, if_neg (by simp)]
      exact ⟨fun g _ => hF.fn g, ops_sound hF hc hr l (env.putD o.dst undef) H f (a.put o.dst undef) w Q hR hG (putD_rel henv .undef _) (by rw [put_defers]; exact hm) (fun o' ho' => hok o' (by simp [ho'])) h hK⟩
    · exact h.elim

end Go.Idl
