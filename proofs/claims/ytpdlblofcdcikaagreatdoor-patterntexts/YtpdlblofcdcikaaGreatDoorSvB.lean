/- A symbolic run, part two. Conditions: none. -/
import Derived.Test.YtpdlblofcdcikaaGreatDoorSvA
set_option linter.all false
namespace Go.Sv
open Go.Idl
noncomputable section
variable [Gc]
variable [Yl]
variable {P : Program} {R : Type} {r : R} {G : Nat -> Bool} {nm : Nm} {rd : Bool}
def Wk (P : Program) (nm : Nm) (pe : List PV) (ph : PHp) (pe' : List PV) (ph' : PHp) : Prop :=
 ∀ (Z : Nat -> Prop) (H : IH) (m : Nat -> Nat) (vs : List Value), Hp P Z H (own m ph) -> VRL P Z H (own m ph) pe vs ->
  ∃ Z' m', Hp P Z' H (own m' ph') ∧ VRL P Z' H (own m' ph') pe' vs ∧ Step Z H (own m ph) Z' H (own m' ph') ∧ KR (inP nm) (own m ph) (own m' ph')
omit [Yl] in
theorem Wk.refl (pe : List PV) (ph : PHp) : Wk P nm pe ph pe ph := fun Z H m vs hp hv => ⟨Z, m, hp, hv, .refl _ _ _, .refl _ _⟩
omit [Yl] in
theorem Wk.trans {a b c : List PV} {p q s : PHp} (x : Wk P nm a p b q) (y : Wk P nm b q c s) : Wk P nm a p c s := fun Z H m vs hp hv => by
 obtain ⟨Z1, m1, a1, a2, a3, a4⟩ := x Z H m vs hp hv;obtain ⟨Z2, m2, b1, b2, b3, b4⟩ := y Z1 H m1 vs a1 a2;exact ⟨Z2, m2, b1, b2, a3.trans b3, a4.trans b4⟩
omit [Yl] in
theorem Wk.drop {a b : List PV} {p q : PHp} (hw : WkP a b) (hs : tH q p) : Wk P nm a p b q := fun Z H m vs hp hv => by
 have hf := Fz.drop hp hs;exact ⟨Z, m, hf.hp, hw.rel (hf.vrl hv), hf.step, hf.kr _⟩
omit [Yl] in
theorem qUW : ∀ {l m : List PV}, l.length = m.length -> (∀ i, zM m i = zM l i ∨ zM m i = some .unk) -> WkP l m
 | [], [], _, _ => .nil
 | [], _ :: _, h, _ => by cases h
 | _ :: _, [], h, _ => by cases h
 | x :: l, y :: m, h, hi => by
   have ih := qUW (l := l) (m := m) (by simpa using h) fun i => hi (i + 1)
   rcases hi 0 with q | q
   ·have q : some y = some x := q;cases q;exact .same ih
   ·have q : some y = some PV.unk := q;cases q;exact .any ih
def fzs (P : Program) : List (Nat × TypeId) -> List SV -> SH -> (List SV -> SH -> Tree R) -> Tree R
 | [], env, h, K => K env h
 | (i, ty) :: l, env, h, K => match zM env i, qLP P 8 ty with
   | some v, some t => (match q3O P ty t v h with
     | some (x, h') => fzs P l (xU env i (t.sv x)) h' K
     | none => .fail)
   | _, _ => .fail
def gH (P : Program) (w : List Nat) (env : List SV) (h : SH) (env' : List SV) (h' : SH) : Prop :=
 okL h' env' ∧ OkH P h' ∧ Keep h h' ∧ (∀ i, i ∉ w -> zM (qA env') i = zM (qA env) i) ∧ env'.length = env.length
theorem gH.trans {w w2 : List Nat} {env env1 env2 : List SV} {h h1 h2 : SH} (a : gH P w env h env1 h1) (b : gH P w2 env1 h1 env2 h2) : gH P (w ++ w2) env h env2 h2 :=
 ⟨b.1, b.2.1, a.2.2.1.trans b.2.2.1, fun i hi => by
   rw [List.mem_append, not_or] at hi
   exact (b.2.2.2.1 i hi.2).trans (a.2.2.2.1 i hi.1), b.2.2.2.2.trans a.2.2.2.2⟩
theorem gH.refl {env : List SV} {h : SH} (ho : OkH P h) (he : okL h env) : gH P [] env h env h := ⟨he, ho, .refl _, fun _ _ => rfl, rfl⟩
theorem gH.up {w w2 : List Nat} {env env1 : List SV} {h h1 : SH} (a : gH P w env h env1 h1) (hw : ∀ i ∈ w, i ∈ w2) : gH P w2 env h env1 h1 :=
 ⟨a.1, a.2.1, a.2.2.1, fun i hi => a.2.2.2.1 i fun q => hi (hw i q), a.2.2.2.2⟩
theorem qDR {env : List SV} {i j : Nat} {v : SV} (h : i ≠ j) : zM (qA (xU env i v)) j = zM (qA env) j := by
 rw [wM, zV, qH, qH, List.getElem?_set, if_neg h]
theorem q5L {env : List SV} {i : Nat} {v : SV} {y : PV} {h h' : SH} {ty : TypeId} (hv : zM env i = some v) (hf : fzP P (qD h.l) v.enc = some (y, qD h'.l)) : Wk P nm (qA env) (qD h.l) (xU (qA env) i (rt1 P ty y)) (qD h'.l) := by
 intro Z H m vs hp hr
 have hi : (qA env)[i]? = some v.enc := by
  rw [qH] at hv;rw [qZ, List.getElem?_map, hv]; rfl
 obtain ⟨u, hu, hr2⟩ := hr.get hi;obtain ⟨Z', h1, h2⟩ := qI0 hp hr2 hf;exact ⟨Z', m, h1.hp, (h1.vrl hr).slot hu (qKM (bZ h2 (qNG hf))), h1.step, h1.kr _⟩
theorem q0N : ∀ {l : List (Nat × TypeId)} {env : List SV} {h : SH} {K : List SV -> SH -> Tree R}, OkH P h -> okL h env -> (fzs P l env h K).run = some r ->
 ∃ env' h', Wk P nm (qA env) (qD h.l) (qA env') (qD h'.l) ∧ gH P (l.map (·.1)) env h env' h' ∧ (K env' h').run = some r
 | [], env, h, K, ho, he, e => ⟨env, h, .refl _ _, .refl ho he, e⟩
 | (i, ty) :: l, env, h, K, ho, he, e => by
   unfold fzs at e;split at e
   ·rename_i v t hv ht;split at e
    ·rename_i x h' hd;obtain ⟨y, a1, a2, a3, a4⟩ := qG7 ho (qBF he hv) hd;have hw := q5L (nm := nm) (ty := ty) hv a1;have hs : xU (qA env) i (rt1 P ty y) = qA (xU env i (t.sv x)) := by rw [wM, rZ, a2]
     rw [hs] at hw;obtain ⟨env', h2, b1, b2, b3⟩ := q0N (l := l) a4 (wT (t := i) (v := t.sv x) (qO a3 he) (qK1 t x)) e;refine ⟨env', h2, hw.trans b1, ?_, b3⟩
     have h0 : gH P [i] env h (xU env i (t.sv x)) h' := ⟨wT (qO a3 he) (qK1 t x), a4, a3, fun j hj => qDR fun q => hj (by rw [q]; exact List.mem_singleton_self j), fF _ _ _⟩
     exact h0.trans b2
    ·cases e
   ·cases e
omit [Yl] in
theorem Wk.virt {env : List PV} {ph : PHp} (i k : Nat) (el : TypeId) {s : Nat} (hi : zM env i = some (fvv (.slice none 0 0))) (hs : szT P el = some (s + 1)) (hf : fresh nm k env ph = true) : Wk P nm env ph (xU env i (.own k 0 0 0)) ((k, ⟨el, true, []⟩) :: ph) := by
 intro Z H m ienv hp he;rw [qH] at hi;obtain ⟨v, hv, hr⟩ := he.get hi;have hvn : v = .slice none 0 0 := zU hr rfl;subst hvn;obtain ⟨f1, f2, f3⟩ := q3U nm hf;have hnew : own m ((k, ⟨el, true, []⟩) :: ph) k = some (m k, ⟨el, true, []⟩) := by simp [own, qC]
 have hold : ∀ j, j ≠ k -> own m ((k, ⟨el, true, []⟩) :: ph) j = own m ph j := fun j hj => by
  unfold own; rw [vX hj]
 have hkr : KR (fun j => j == k) (own m ph) (own m ((k, ⟨el, true, []⟩) :: ph)) := fun j b ob hk => by
  by_cases hj : j = k
  ·exact .inr (.inr (by simp [hj]))
  ·rw [hold j hj] at hk; exact .inl ⟨ob, hk, rfl, rfl, rfl⟩
 have mono : ∀ {xs : List PV} {vs : List Value}, VRL P Z H (own m ph) xs vs -> yV k xs = true -> VRL P Z H (own m ((k, ⟨el, true, []⟩) :: ph)) xs vs := fun h hn => h.mono (fun _ h => h) (Nat.le_refl _) (fun _ _ _ => rfl) hkr fun j hj => by
  have : j = k := by simpa using hj
  subst this; exact hn
 have hp' : Hp P Z H (own m ((k, ⟨el, true, []⟩) :: ph)) := by
  refine ⟨hp.zlt, fun j b ob hk => ?_, fun j j' b b' ob ob' h1 h2 r1 r2 hne => ?_, hp.gl⟩
  ·by_cases hj : j = k
   ·subst hj; rw [hnew] at hk; cases hk; exact .inl ⟨rfl, rfl⟩
   ·rw [hold j hj] at hk
    rcases hp.obj j b ob hk with h | ⟨a1, a2, a3, a4⟩
    ·exact .inl h
    ·exact .inr ⟨a1, a2, a3, a4.mono rfl fun _ a5 => mono a5 (vW f3 (wP hk).1)⟩
  ·by_cases hj : j = k
   ·subst hj; rw [hnew] at h1; cases h1; exact absurd ⟨rfl, rfl⟩ r1
   ·by_cases hj' : j' = k
    ·subst hj'; rw [hnew] at h2; cases h2; exact absurd ⟨rfl, rfl⟩ r2
    ·rw [hold j hj] at h1; rw [hold j' hj'] at h2;exact hp.inj j j' b b' ob ob' h1 h2 r1 r2 hne
 have hown : VR P Z H (own m ((k, ⟨el, true, []⟩) :: ph)) (.own k 0 0 0) (.slice none 0 0) := .own rfl fun b ob hM => by
  rw [hnew] at hM; cases hM;exact ⟨s + 1, hs, by omega, by simp, fun _ => .inl ⟨rfl, rfl, rfl, rfl, rfl⟩⟩
 have hst : Step Z H (own m ph) Z H (own m ((k, ⟨el, true, []⟩) :: ph)) := ⟨Nat.le_refl _, rfl, fun _ h => h, fun _ _ _ => rfl, fun b h _ => .inl h, fun b ⟨j, ob, h1, h2⟩ _ => by
  by_cases hj : j = k
  ·subst hj; rw [hnew] at h1; cases h1; exact absurd ⟨rfl, rfl⟩ h2
  ·rw [hold j hj] at h1; exact ⟨j, ob, h1, h2⟩⟩
 have hup : KR (inP nm) (own m ph) (own m ((k, ⟨el, true, []⟩) :: ph)) := hkr.up fun j hj => by
  have e : j = k := by simpa using hj
  rw [e]; exact f1
 exact ⟨Z, m, hp', (mono he f2).slot hv hown, hst, hup⟩
omit [Yl] in
theorem Wk.virtB {env : List PV} {ph : PHp} {ob : PO} (kb i k : Nat) (el : TypeId) {s : Nat} (hk : qC kb ph = some ob) (hsp : spec P ob.el = false) (hgr : ob.gr = false) (hi : zM ob.cs i = some (fvv (.slice none 0 0))) (hs : szT P el = some (s + 1)) (hf : fresh nm k env ph = true) (hne : k ≠ kb) :
 Wk P nm env ph env ((k, ⟨el, true, []⟩) :: vO kb ⟨ob.el, false, xU ob.cs i (.own k 0 0 0)⟩ ph) := by
 intro Z H m ienv hp he;obtain ⟨f1, f2, f3⟩ := q3U nm hf;generalize hph' : (k, (⟨el, true, []⟩ : PO)) :: vO kb ⟨ob.el, false, xU ob.cs i (.own k 0 0 0)⟩ ph = ph'
 have hM' : ∀ j, own m ph' j = if j = k then some (m k, ⟨el, true, []⟩) else if j = kb then some (m kb, ⟨ob.el, false, xU ob.cs i (.own k 0 0 0)⟩) else own m ph j := fun j => by
  subst hph';unfold own;by_cases h1 : j = k
  ·subst h1; simp [qC]
  ·rw [if_neg h1, vX h1, zW];by_cases h2 : j = kb
   ·subst h2; rw [if_pos ⟨rfl, by rw [hk]; rfl⟩, if_pos rfl]; rfl
   ·rw [if_neg (fun h => h2 h.1), if_neg h2]
 have hnew : own m ph' k = some (m k, ⟨el, true, []⟩) := by rw [hM', if_pos rfl]
 have hbox : own m ph' kb = some (m kb, ⟨ob.el, false, xU ob.cs i (.own k 0 0 0)⟩) := by rw [hM', if_neg hne.symm, if_pos rfl]
 have hold : ∀ j, j ≠ k -> j ≠ kb -> own m ph' j = own m ph j := fun j h1 h2 => by rw [hM', if_neg h1, if_neg h2]
 have hkM : own m ph kb = some (m kb, ob) := qM hk
 have hkr : KR (fun j => j == k) (own m ph) (own m ph') := fun j b o hj => by
  by_cases h1 : j = k
  ·exact .inr (.inr (by simp [h1]))
  ·by_cases h2 : j = kb
   ·subst h2;rw [hbox] at hj;cases hj;exact .inl ⟨ob, hkM, by simp [zV], rfl, hgr⟩
   ·rw [hold j h1 h2] at hj; exact .inl ⟨o, hj, rfl, rfl, rfl⟩
 have mono : ∀ {xs : List PV} {vs : List Value}, VRL P Z H (own m ph) xs vs -> yV k xs = true -> VRL P Z H (own m ph') xs vs := fun h hn => h.mono (fun _ h => h) (Nat.le_refl _) (fun _ _ _ => rfl) hkr fun j hj => by
  have : j = k := by simpa using hj
  subst this; exact hn
 have hown : VR P Z H (own m ph') (.own k 0 0 0) (.slice none 0 0) := .own rfl fun b o hM => by
  rw [hnew] at hM; cases hM;exact ⟨s + 1, hs, by omega, by simp, fun _ => .inl ⟨rfl, rfl, rfl, rfl, rfl⟩⟩
 have hreal : ¬ (ob.gr = true ∧ ob.cs = []) := fun h => by rw [hgr] at h; cases h.1
 have hp' : Hp P Z H (own m ph') := by
  refine ⟨hp.zlt, fun j b o hj => ?_, fun j j' b b' o o' h1 h2 r1 r2 hn => ?_, hp.gl⟩
  ·by_cases h1 : j = k
   ·subst h1; rw [hnew] at hj; cases hj; exact .inl ⟨rfl, rfl⟩
   ·by_cases h2 : j = kb
    ·subst h2;rw [hbox] at hj; cases hj
     rcases hp.obj j _ ob hkM with h | ⟨a1, a2, a3, ⟨_, vs, a4, a5, a6⟩ | ⟨hs2, _⟩⟩
     rotate_right 1
     ·rw [hsp] at hs2; cases hs2
     ·exact absurd h hreal
     ·have hv := mono a5 (vW f3 hk);obtain ⟨v, hv1, hv2⟩ := a5.get (i := i) (by rw [<- qH]; exact hi);have : v = .slice none 0 0 := zU hv2 rfl;subst this;refine .inr ⟨a1, a2, a3, .inl ⟨hsp, vs, ?_, hv.slot hv1 hown, a6⟩⟩;rw [a4, hgr]
    ·rw [hold j h1 h2] at hj
     rcases hp.obj j b o hj with h | ⟨a1, a2, a3, a4⟩
     ·exact .inl h
     ·exact .inr ⟨a1, a2, a3, a4.mono rfl fun _ a5 => mono a5 (vW f3 (wP hj).1)⟩
  ·have tr : ∀ {j b o}, own m ph' j = some (b, o) -> ¬ (o.gr = true ∧ o.cs = []) -> ∃ o2, own m ph j = some (b, o2) ∧ ¬ (o2.gr = true ∧ o2.cs = []) := fun {j b o} hj hr => by
    by_cases h1 : j = k
    ·subst h1; rw [hnew] at hj; cases hj; exact absurd ⟨rfl, rfl⟩ hr
    ·by_cases h2 : j = kb
     ·subst h2; rw [hbox] at hj; cases hj; exact ⟨ob, hkM, hreal⟩
     ·rw [hold j h1 h2] at hj; exact ⟨o, hj, hr⟩
   obtain ⟨o2, q1, q2⟩ := tr h1 r1;obtain ⟨o3, q3, q4⟩ := tr h2 r2;exact hp.inj j j' b b' o2 o3 q1 q3 q2 q4 hn
 have hst : Step Z H (own m ph) Z H (own m ph') := ⟨Nat.le_refl _, rfl, fun _ h => h, fun _ _ _ => rfl, fun b h _ => .inl h, fun b ⟨j, o, h1, h2⟩ _ => by
  by_cases e1 : j = k
  ·subst e1; rw [hnew] at h1; cases h1; exact absurd ⟨rfl, rfl⟩ h2
  ·by_cases e2 : j = kb
   ·subst e2; rw [hbox] at h1; cases h1; exact ⟨j, ob, hkM, hreal⟩
   ·rw [hold j e1 e2] at h1; exact ⟨j, o, h1, h2⟩⟩
 exact ⟨Z, m, hp', mono he f2, hst, hkr.up fun j hj => by
  have e : j = k := by simpa using hj
  rw [e]; exact f1⟩
def qEB : SV -> Bool
 | .c (.slice none 0 0) => true
 | _ => false
theorem qEE {v : SV} (e : qEB v = true) : v.enc = fvv (.slice none 0 0) := by
 unfold qEB at e;split at e
 ·simp [SV.enc]
 ·cases e
def qPY (P : Program) (nm : Nm) : List (Nat × TypeId) -> List SV -> SH -> (List SV -> SH -> Tree R) -> Tree R
 | [], env, h, K => K env h
 | (i, el) :: l, env, h, K => match zM env i with
   | some v => cond (qEB v) (match szT P el, qLP P 8 el with
     | some (s + 1), some t => cond (Nat.beq t.w (s + 1) && qEU nm (nm.b + i) env h) (qPY P nm l (xU env i (.own (nm.b + i) h.next 0)) (h.new (nm.b + i) fun v => .list el true v v t []) K) .fail
     | _, _ => .fail) (qPY P nm l env h K)
   | none => .fail
theorem qAN : ∀ {l : List (Nat × TypeId)} {env : List SV} {h : SH} {K : List SV -> SH -> Tree R}, OkH P h -> okL h env -> (qPY P nm l env h K).run = some r ->
 ∃ env' h', Wk P nm (qA env) (qD h.l) (qA env') (qD h'.l) ∧ gH P (l.map (·.1)) env h env' h' ∧ (K env' h').run = some r
 | [], env, h, K, ho, he, e => ⟨env, h, .refl _ _, .refl ho he, e⟩
 | (i, el) :: l, env, h, K, ho, he, e => by
   unfold qPY at e;split at e
   ·rename_i v hv
    cases hn : qEB v with
    | false =>
      rw [hn] at e;obtain ⟨env', h2, b1, b2, b3⟩ := qAN (l := l) ho he e;exact ⟨env', h2, b1, b2.up fun j hj => List.mem_cons_of_mem _ hj, b3⟩
    | true =>
      rw [hn] at e;simp only [cond_true] at e;split at e
      ·rename_i s t hs ht;obtain ⟨c, e1⟩ := qF e;rw [Bool.and_eq_true] at c;have hw : t.w = s + 1 := Nat.eq_of_beq_eq_true c.1;have hn2 := kW (k := nm.b + i) (f := fun v => .list el true v v t []) ho ⟨rfl, rfl, by rw [hs, hw], by omega⟩
       have hfr : fresh nm (nm.b + i) (qA env) (qD h.l) = true := by
        have c2 := c.2;unfold qEU at c2;simp only [Bool.and_eq_true] at c2;unfold fresh;rw [c2.1, c2.2.1, mU c2.2.2]; rfl
       have hwk : Wk P nm (qA env) (qD h.l) (qA (xU env i (.own (nm.b + i) h.next 0))) (qD (h.new (nm.b + i) fun v => .list el true v v t []).l) := by
        have := Wk.virt (P := P) (nm := nm) (ph := qD h.l) i (nm.b + i) el (by rw [xO, hv, Option.map_some, qEE hn]) hs hfr;rw [wM];simpa [SV.enc, SH.new, qD, SO.enc] using this
       have hok : (SV.own (nm.b + i) h.next 0).ok (h.new (nm.b + i) fun v => .list el true v v t []) := wK (xs := ([] : List t.sem)) rfl;obtain ⟨env', h2, b1, b2, b3⟩ := qAN (l := l) hn2.2 (wT (t := i) (qO hn2.1 he) hok) e1;refine ⟨env', h2, hwk.trans b1, ?_, b3⟩
       have h0 : gH P [i] env h (xU env i (.own (nm.b + i) h.next 0)) (h.new (nm.b + i) fun v => .list el true v v t []) := ⟨wT (qO hn2.1 he) hok, hn2.2, hn2.1, fun j hj => qDR fun q => hj (by rw [q]; exact List.mem_singleton_self j), fF _ _ _⟩
       exact h0.trans b2
      ·cases e
   ·cases e
def fzv (P : Program) (nm : Nm) : List (Nat × TypeId) -> List SV -> SH -> (List SV -> SH -> Tree R) -> Tree R
 | [], env, h, K => K env h
 | (i, ty) :: l, env, h, K => cond (Nat.ble 1000000000 ty) (qPY P nm [(i, ty - 1000000000)] env h fun env h => fzv P nm l env h K) (fzs P [(i, ty)] env h fun env h => fzv P nm l env h K)
theorem qZ4 : ∀ {l : List (Nat × TypeId)} {env : List SV} {h : SH} {K : List SV -> SH -> Tree R}, OkH P h -> okL h env -> (fzv P nm l env h K).run = some r ->
 ∃ env' h', Wk P nm (qA env) (qD h.l) (qA env') (qD h'.l) ∧ gH P (l.map (·.1)) env h env' h' ∧ (K env' h').run = some r
 | [], env, h, K, ho, he, e => ⟨env, h, .refl _ _, .refl ho he, e⟩
 | (i, ty) :: l, env, h, K, ho, he, e => by
   unfold fzv at e
   have go : ∀ {env1 h1}, Wk P nm (qA env) (qD h.l) (qA env1) (qD h1.l) -> gH P [i] env h env1 h1 -> (fzv P nm l env1 h1 K).run = some r -> ∃ env' h', Wk P nm (qA env) (qD h.l) (qA env') (qD h'.l) ∧ gH P (((i, ty) :: l).map (·.1)) env h env' h' ∧ (K env' h').run = some r := fun a b e => by
    obtain ⟨env', h', c1, c2, c3⟩ := qZ4 (l := l) b.2.1 b.1 e;exact ⟨env', h', a.trans c1, b.trans c2, c3⟩
   cases hb : Nat.ble 1000000000 ty with
   | true =>
     rw [hb] at e;obtain ⟨env1, h1, a, b, e1⟩ := qAN (nm := nm) ho he e;exact go a b e1
   | false =>
     rw [hb] at e;obtain ⟨env1, h1, a, b, e1⟩ := q0N (nm := nm) ho he e;exact go a b e1
def qEX (P : Program) (nm : Nm) : List (Nat × Nat × TypeId × Nat) -> List SV -> SH -> (List SV -> SH -> Tree R) -> Tree R
 | [], env, h, K => K env h
 | (kb, i, el, k) :: l, env, h, K => match slk kb h.l with
   | some (.cells e _ cs) => (match zM cs i with
     | some v => cond (qEB v) (match szT P el, qLP P 8 el with
       | some (s + 1), some t => cond (Nat.beq t.w (s + 1) && (qEU nm k env h && (!Nat.beq k kb && !spec P e))) (qEX P nm l env ((h.new k fun v => .list el true v v t []).put kb fun v => .cells e v (xU cs i (.own k h.next 0))) K) .fail
       | _, _ => .fail) (qEX P nm l env h K)
     | none => .fail)
   | _ => .fail
theorem oL : ∀ {l : List (Nat × Nat × TypeId × Nat)} {env : List SV} {h : SH} {K : List SV -> SH -> Tree R}, OkH P h -> okL h env -> (qEX P nm l env h K).run = some r ->
 ∃ h', Wk P nm (qA env) (qD h.l) (qA env) (qD h'.l) ∧ Keep h h' ∧ OkH P h' ∧ (K env h').run = some r
 | [], env, h, K, ho, he, e => ⟨h, .refl _ _, .refl _, ho, e⟩
 | (kb, i, el, k) :: l, env, h, K, ho, he, e => by
   unfold qEX at e;split at e
   case h_2 => cases e
   rename_i eb wb cs hkb;split at e
   case h_2 => cases e
   rename_i v hv
   cases hn : qEB v with
   | false =>
     rw [hn] at e;exact oL (l := l) ho he e
   | true =>
     rw [hn] at e;simp only [cond_true] at e;split at e
     case h_2 => cases e
     rename_i s t hs ht;obtain ⟨c, e1⟩ := qF e;simp only [Bool.and_eq_true] at c;have hw : t.w = s + 1 := Nat.eq_of_beq_eq_true c.1
     have hne : k ≠ kb := fun q => by
      have := c.2.2.1;rw [q, qCK] at this;cases this
     have hsp : spec P eb = false := by simpa using c.2.2.2
     have hn2 := kW (k := k) (f := fun v => .list el true v v t []) ho ⟨rfl, rfl, by rw [hs, hw], by omega⟩;have hok : (SV.own k h.next 0).ok (h.new k fun v => .list el true v v t []) := wK (xs := ([] : List t.sem)) rfl
     have hkb1 : slk kb (h.new k fun v => .list el true v v t []).l = some (.cells eb wb cs) := by
      rw [show slk kb (h.new k fun v => .list el true v v t []).l = slk kb h.l from yE hne.symm]; exact hkb
     have hcs : okL (h.new k fun v => .list el true v v t []) cs := qO hn2.1 (ho.cells _ _ _ _ hkb);have hp2 := nA (k := kb) (f := fun v => .cells eb v (xU cs i (.own k h.next 0))) hn2.2 hkb1 ⟨rfl, wT hcs hok⟩
     have hfr : fresh nm k (qA env) (qD h.l) = true := by
      have c2 := c.2.1;unfold qEU at c2;simp only [Bool.and_eq_true] at c2;unfold fresh;rw [c2.1, c2.2.1, mU c2.2.2]; rfl
     obtain ⟨h', b1, b2, b3, b4⟩ := oL (l := l) hp2.2 (qO hp2.1 (qO hn2.1 he)) e1;refine ⟨h', ?_, hn2.1.trans (hp2.1.trans b2), b3, b4⟩;have hk := xY hkb
     have := Wk.virtB (P := P) (nm := nm) (env := qA env) kb i k el hk hsp rfl (by
      show zM (qA cs) i = _
      rw [xO, hv, Option.map_some, qEE hn]) hs hfr hne
     refine Wk.trans this ?_
     have he2 : (k, (⟨el, true, []⟩ : PO)) :: vO kb ⟨(SO.cells eb wb cs).enc.el, false, xU (SO.cells eb wb cs).enc.cs i (.own k 0 0 0)⟩ (qD h.l) = qD (((h.new k fun v => .list el true v v t []).put kb fun v => .cells eb v (xU cs i (.own k h.next 0))).l) := by
      show _ = qD (sst kb _ ((k, _) :: h.l));have : (kb == k) = false := by simpa using hne.symm
      show _ = qD (cond (kb == k) _ ((k, _) :: sst kb _ h.l));rw [this];show _ = (k, _) :: qD (sst kb _ h.l);rw [uM];simp [SO.enc, wM, SV.enc, SH.new]
     rw [he2];exact b1
end
end Go.Sv
namespace Go.Sv
open Go.Idl
noncomputable section
variable [Gc]
variable [Yl]
variable {P : Program} {R : Type} {r : R} {nm : Nm}
def q8G : SV -> Option Ty
 | .d t _ => cond t.one (some t) none
 | .c (.int k _) => some (.int k)
 | .c (.bool _) => some .bool
 | .c (.string _) => some .str
 | _ => none
def tyV : SV -> Option Ty
 | .agg l => tyL (l.map q8G)
 | v => q8G v
def q67 : List SV -> Option (List Ty)
 | [] => some []
 | v :: l => match tyV v, q67 l with
   | some t, some ts => some (t :: ts)
   | _, _ => none
def q6A (t : Ty) (v : SV) : Option t.sem := cond t.one (t.decS v) (match v with
 | .agg l => t.decA l
 | _ => none)
theorem qN1 {t : Ty} {v : SV} {x : t.sem} (e : q6A t v = some x) : v.enc = t.pv x := by
 unfold q6A at e;unfold Ty.pv
 cases ht : t.one with
 | true => rw [ht] at e; exact (qHH e).1
 | false =>
   rw [ht] at e;simp only [cond_false] at e ⊢;split at e
   ·simp only [SV.enc, qFY e]
   ·cases e
def qC8 : (ts : List Ty) -> List SV -> Option (TyL ts)
 | [], [] => some ()
 | [t], [v] => q6A t v
 | t :: u :: ts, v :: vs => match q6A t v with
   | some x => (match qC8 (u :: ts) vs with
     | some y => some (x, y)
     | none => none)
   | none => none
 | _, _ => none
theorem nQ : ∀ {ts : List Ty} {l : List SV} {s : TyL ts}, qC8 ts l = some s -> qA l = qA (svL ts s)
 | [], [], s, e => by simp [svL]
 | [t], [v], s, e => by
   unfold qC8 at e;simp only [svL, qA, rZ, qN1 e]
 | t :: u :: ts, v :: vs, s, e => by
   unfold qC8 at e;split at e
   ·rename_i x hx;split at e
    ·rename_i y hy;cases e;have ih := nQ hy;show qA (v :: vs) = qA (t.sv x :: svL (u :: ts) y);simp only [qA, rZ, qN1 hx, ih]
    ·cases e
   ·cases e
 | [], _ :: _, _, e => by cases e
 | t :: ts, [], _, e => by cases ts <;> (unfold qC8 at e; cases e)
 | [_], _ :: _ :: _, _, e => by unfold qC8 at e; cases e
def qIK : List Nat -> List SV -> Option (List SV)
 | [], _ => some []
 | i :: is, env => match zM env i, qIK is env with
   | some v, some l => some (v :: l)
   | _, _ => none
def spD : SpO -> SV
 | .map es => .d .raw es
 | .iter s pos => .agg [.d .str s, .d (.int .i64) (pos : Int)]
def obD : SO -> Option (SV × Bool)
 | .list el gr _ _ u xs => cond (Nat.beq el 1000000001) none (some (.d (.list el u) xs, gr))
 | .spc _ x => some (spD x, false)
 | .cells _ _ _ => none
def qWS : List Nat -> SH -> Option (List SV)
 | [], _ => some []
 | k :: ks, h => match slk k h.l, qWS ks h with
   | some ob, some l => (match obD ob with
     | some p => some (p.1 :: l)
     | none => none)
   | _, _ => none
def q1V : List Nat -> SH -> Option (List (Nat × Bool))
 | [], _ => some []
 | k :: ks, h => match slk k h.l, q1V ks h with
   | some ob, some l => (match obD ob with
     | some p => some ((k, p.2) :: l)
     | none => none)
   | _, _ => none
def qGR (i : Nat) : List Nat -> Bool
 | [] => false
 | j :: l => cond (Nat.beq i j) true (qGR i l)
omit [Yl] in
theorem aF {i : Nat} : ∀ {l : List Nat}, qGR i l = true ↔ i ∈ l
 | [] => by simp [qGR]
 | j :: l => by
   unfold qGR;rw [List.mem_cons]
   cases h : Nat.beq i j with
   | true => simp [Nat.eq_of_beq_eq_true h]
   | false =>
     have : i ≠ j := fun e => by subst e; rw [qCK] at h; cases h
     simp only [cond_false, aF (l := l), this, false_or]
def blank (W : List Nat) : Nat -> List SV -> List SV
 | _, [] => []
 | i, x :: l => cond (qGR i W) .unk x :: blank W (i + 1) l
omit [Yl] in
theorem qCI (W : List Nat) : ∀ (i : Nat) (l : List SV), (blank W i l).length = l.length
 | _, [] => rfl
 | i, x :: l => by simp [blank, qCI W (i + 1) l]
omit [Yl] in
theorem qAY (W : List Nat) : ∀ (i j : Nat) (l : List SV), zM (blank W i l) j = (zM l j).map fun x => cond (qGR (i + j) W) SV.unk x
 | _, _, [] => rfl
 | i, 0, x :: l => rfl
 | i, j + 1, x :: l => by
   show zM (blank W (i + 1) l) j = (zM l j).map _;rw [qAY W (i + 1) j l, Nat.add_assoc, Nat.add_comm 1 j]
omit [Yl] in
theorem qO4 {h : SH} {W : List Nat} : ∀ {i : Nat} {l : List SV}, okL h l -> okL h (blank W i l)
 | _, [], _ => by simp [blank, okL]
 | i, x :: l, hl => by
   simp only [okL] at hl;show okL h (cond (qGR i W) .unk x :: blank W (i + 1) l);simp only [okL];refine ⟨?_, qO4 hl.2⟩;cases qGR i W
   ·exact hl.1
   ·simp [SV.ok]
def mZ : List Nat -> List SV -> List SV -> List SV × List SV
 | [], l, env => (env, l)
 | i :: is, c :: l, env => mZ is l (xU env i c)
 | _ :: _, [], env => (env, [])
def q3Y (P : Program) (gr : Bool) : SV -> Option (Nat -> SO)
 | .d (.list el u) xs => (match szT P el with
   | some n => cond (Nat.beq n u.w && (Nat.ble 1 n && !Nat.beq el 1000000001)) (some fun v => .list el gr v v u xs) none
   | none => none)
 | .d .raw es => some fun v => .spc v (.map es)
 | .agg [.d .str s, .d (.int .i64) p] => some fun v => .spc v (.iter s (Int.toNat p))
 | _ => none
def q27 (P : Program) : List (Nat × Bool) -> List SV -> SH -> Option SH
 | [], [] => fun h => some h
 | (k, gr) :: ks, c :: l => fun h => (match q3Y P gr c with
   | some f => q27 P ks l ((h.del k).new k f)
   | none => none)
 | _, _ => fun _ => none
def q3C : List (Nat × Nat) -> SH -> List SV -> Option (List SV)
 | [], _, env => some env
 | (i, k) :: l, h, env => match slk k h.l with
   | some (.list _ _ g _ _ xs) => q3C l h (xU env i (.own k g (List.length xs)))
   | _ => none
def q4J (j : Nat) : Bool := Nat.beq j 1000000000
def q6C (k w : Nat) : SV -> Option Bool
 | .ref k' off w' => cond (Nat.beq k k' && (Nat.beq off 0 && Nat.beq w w')) (some true) none
 | .c (.pointer none) => some false
 | .opt b k' off w' => cond (Nat.beq k k' && (Nat.beq off 0 && Nat.beq w w')) (some b) none
 | _ => none
theorem qNN {k w : Nat} {v : SV} {b : Bool} (e : q6C k w v = some b) : v.enc = (SV.opt b k 0 w).enc := by
 have eqs : ∀ {k' off w' : Nat} {x y : Option Bool}, cond (Nat.beq k k' && (Nat.beq off 0 && Nat.beq w w')) x none = y -> y ≠ none -> k = k' ∧ off = 0 ∧ w = w' ∧ x = y := fun {k' off w' x y} h hy => by
  cases hc : (Nat.beq k k' && (Nat.beq off 0 && Nat.beq w w')) with
  | false => rw [hc] at h; exact absurd h.symm hy
  | true =>
    rw [hc] at h;simp only [Bool.and_eq_true] at hc;exact ⟨Nat.eq_of_beq_eq_true hc.1, Nat.eq_of_beq_eq_true hc.2.1, Nat.eq_of_beq_eq_true hc.2.2, h⟩
 unfold q6C at e;split at e
 ·obtain ⟨rfl, rfl, rfl, h⟩ := eqs e (by simp);cases h; simp [SV.enc]
 ·cases e; simp [SV.enc]
 ·obtain ⟨rfl, rfl, rfl, h⟩ := eqs e (by simp);cases h; simp [SV.enc]
 ·cases e
def qZ6 (k w : Nat) : List (Option Nat) -> List SV -> Option (List SV)
 | [], [] => some []
 | none :: ds, v :: l => (match qZ6 k w ds l with
   | some r => some (v :: r)
   | none => none)
 | some j :: ds, v :: l => cond (q4J j) (match q6C k w v, qZ6 k w ds l with
   | some b, some r => some (.d .bool b :: r)
   | _, _ => none) (qZ6 k w ds l)
 | _, _ => none
def qZH (k : Nat) (v : SV) (h : SH) : Bool := match v with
 | .own k' g _ => Nat.beq k' k && (match slk k' h.l with
   | some (.list _ _ g' _ _ _) => Nat.beq g g'
   | _ => false)
 | _ => false
def q1A : List (Option Nat) -> List SV -> SH -> Bool
 | some k :: ds, v :: l, h => cond (q4J k) true (qZH k v h) && q1A ds l h
 | none :: ds, _ :: l, h => q1A ds l h
 | _, _, _ => true
def mkB (kb w : Nat) : List (Option Nat) -> List SV -> SH -> Option (List SV × List SV)
 | [], l, _ => some ([], l)
 | none :: ds, c :: l, h => (match mkB kb w ds l h with
   | some p => some (c :: p.1, p.2)
   | none => none)
 | some k :: ds, l, h => cond (q4J k) (match l with
   | c :: l' => (match asB c, mkB kb w ds l' h with
     | some b, some p => some (.opt b kb 0 w :: p.1, p.2)
     | _, _ => none)
   | [] => none) (match slk k h.l with
   | some (.list _ _ g _ _ xs) => (match mkB kb w ds l h with
     | some p => some (.own k g (List.length xs) :: p.1, p.2)
     | none => none)
   | _ => none)
 | none :: _, [], _ => none
def q3M (h1 : SH) : List (Nat × List (Option Nat)) -> List SV -> SH -> Option SH
 | [], _, h => some h
 | (k, ds) :: bs, l, h => match slk k h1.l with
   | some (.cells el _ _) => (match mkB k (List.length ds) ds l h with
     | some p => q3M h1 bs p.2 ((h.del k).new k fun v => .cells el v p.1)
     | none => none)
   | _ => none
def tF : List (Nat × List (Option Nat)) -> SH -> Option (List SV)
 | [], _ => some []
 | (k, ds) :: bs, h => match slk k h.l with
   | some (.cells _ _ l) => (match qZ6 k (List.length ds) ds l, tF bs h with
     | some a, some b => some (a ++ b)
     | _, _ => none)
   | _ => none
def qGW (L : List Nat) (bs : List (Nat × List (Option Nat))) (h1 h : SH) : Bool := bs.all fun p => qGR p.1 L && ((p.2.all fun x => match x with
 | some k => !qGR k L
 | none => true) && (match slk p.1 h1.l, slk p.1 h.l with
 | some (.cells e1 _ _), some (.cells e2 _ l) => Nat.beq e1 e2 && q1A p.2 l h
 | _, _ => false))
def mkS (P : Program) (W : List Nat) (sh : Sh) (ts : List Ty) (os : List (Nat × Bool)) (env : List SV) (h : SH) (s : TyL ts) : Option (List SV × SH) :=
 match q27 P os ((mZ sh.d (svL ts s) (blank W 0 env)).2.take os.length) h with
 | some h2 => (match q3M h sh.b ((mZ sh.d (svL ts s) (blank W 0 env)).2.drop os.length) h2 with
   | some h3 => (match q3C sh.s h3 (mZ sh.d (svL ts s) (blank W 0 env)).1 with
     | some e2 => some (e2, h3)
     | none => none)
   | none => none)
 | none => none
omit [Yl] in
theorem qSP {l m : List PV} {i : Nat} {x : PV} (h : WkP l m) (hx : zM l i = some x) : WkP l (xU m i x) := by
 rw [zV];rw [qH] at hx
 have hl : l.length = (m.set i x).length := by
  rw [List.length_set];clear hx
  induction h with
  | nil => rfl
  | same _ ih => simp [ih]
  | any _ ih => simp [ih]
 have hp : ∀ j : Nat, m[j]? = l[j]? ∨ m[j]? = some PV.unk := by
  clear hx hl
  induction h with
  | nil => intro j; exact .inl rfl
  | same _ ih => intro j; cases j with
    | zero => exact .inl rfl
    | succ j => exact ih j
  | any _ ih => intro j; cases j with
    | zero => exact .inr rfl
    | succ j => exact ih j
 refine qUW hl fun j => ?_
 rw [qH, qH, List.getElem?_set];by_cases e : i = j
 ·subst e;rw [if_pos rfl];split
  ·exact .inl hx.symm
  ·rename_i hlt;have hlt' : i < l.length := (List.getElem?_eq_some_iff.1 hx).1;rw [hl, List.length_set] at hlt';exact absurd hlt' hlt
 ·rw [if_neg e];exact hp j
theorem qVA : ∀ {is : List Nat} {env l b m rest : List SV}, qIK is env = some l -> qA (l ++ b) = qA m -> WkP (qA env) (qA rest) -> WkP (qA env) (qA (mZ is m rest).1) ∧ qA (mZ is m rest).2 = qA b
 | [], env, l, b, m, rest, e, hm, hw => by
   cases e;exact ⟨hw, hm.symm⟩
 | i :: is, env, l, b, m, rest, e, hm, hw => by
   unfold qIK at e;split at e
   ·rename_i v l' hv hl';cases e
    cases m with
    | nil => simp [qA] at hm
    | cons c m =>
      simp only [List.cons_append, qA, List.cons.injEq] at hm;show WkP (qA env) (qA (mZ is m (xU rest i c)).1) ∧ qA (mZ is m (xU rest i c)).2 = qA b;refine qVA hl' hm.2 ?_;rw [wM, <- hm.1];exact qSP hw (by rw [xO, hv]; rfl)
   ·cases e
omit [Yl] in
theorem qFF : ∀ (is : List Nat) (l env : List SV), (mZ is l env).1.length = env.length
 | [], l, env => rfl
 | i :: is, [], env => rfl
 | i :: is, c :: l, env => by
   show (mZ is l (xU env i c)).1.length = _;rw [qFF is l, fF]
omit [Yl] in
theorem qM9 {h : SH} : ∀ {is : List Nat} {l env : List SV}, okL h l -> okL h env -> okL h (mZ is l env).1
 | [], l, env, _, he => he
 | i :: is, [], env, _, he => he
 | i :: is, c :: l, env, hl, he => by
   simp only [okL] at hl;show okL h (mZ is l (xU env i c)).1;exact qM9 hl.2 (wT he hl.1)
omit [Yl] in
theorem qFC : ∀ {is : List Nat} {l env : List SV} {j : Nat}, j ∉ is -> zM (mZ is l env).1 j = zM env j
 | [], l, env, j, _ => rfl
 | i :: is, [], env, j, _ => rfl
 | i :: is, c :: l, env, j, hj => by
   rw [List.mem_cons, not_or] at hj;show zM (mZ is l (xU env i c)).1 j = _;rw [qFC hj.2, zV, qH, qH, List.getElem?_set, if_neg (fun e => hj.1 e.symm)]
omit [Yl] in
theorem qH6 {k : Nat} {gr : Bool} {ks : List (Nat × Bool)} {c : SV} {l : List SV} {h h2 : SH} (e : q27 P ((k, gr) :: ks) (c :: l) h = some h2) :
 ∃ f, q3Y P gr c = some f ∧ q27 P ks l ((h.del k).new k f) = some h2 := by
 unfold q27 at e;split at e
 ·rename_i f hf; exact ⟨f, hf, e⟩
 ·cases e
omit [Yl] in
theorem qWW {gr : Bool} {c : SV} {f : Nat -> SO} (e : q3Y P gr c = some f) (h : SH) (n : Nat) : q4Z P h n (f n) := by
 unfold q3Y at e;split at e
 ·rename_i el u xs;split at e
  ·rename_i m hm
   cases hc : (Nat.beq m u.w && (Nat.ble 1 m && !Nat.beq el 1000000001)) with
   | false => rw [hc] at e; cases e
   | true =>
     rw [hc] at e;cases e;simp only [Bool.and_eq_true] at hc;have hw : m = u.w := Nat.eq_of_beq_eq_true hc.1;have h1 := Nat.le_of_ble_eq_true hc.2.1;exact ⟨rfl, rfl, by rw [hm, hw], by omega⟩
  ·cases e
 ·cases e; rfl
 ·cases e; rfl
 ·cases e
omit [Yl] in
theorem qL2 : ∀ {os : List (Nat × Bool)} {l : List SV} {h h2 : SH}, OkH P h -> q27 P os l h = some h2 -> Keep h h2 ∧ OkH P h2 ∧ ∀ k, k ∉ os.map (·.1) -> slk k h2.l = slk k h.l
 | [], [], h, h2, ho, e => by cases e; exact ⟨.refl _, ho, fun _ _ => rfl⟩
 | (k, gr) :: ks, c :: l, h, h2, ho, e => by
   obtain ⟨f, hf, e1⟩ := qH6 e;have hd := nD (k := k) ho;have hn2 := kW (h := h.del k) (k := k) (f := f) hd.2 (qWW hf _ _);obtain ⟨a1, a2, a3⟩ := qL2 hn2.2 e1;refine ⟨hd.1.trans (hn2.1.trans a1), a2, fun j hj => ?_⟩;rw [List.map_cons, List.mem_cons, not_or] at hj;rw [a3 j hj.2];show slk j ((k, _) :: (h.del k).l) = _;rw [yE hj.1];exact jK hj.1 _
 | [], _ :: _, _, _, _, e => by cases e
 | _ :: _, [], _, _, _, e => by cases e
def qX0 : List FV -> List (Value × Value)
 | .v k :: .v x :: l => (k, x) :: qX0 l
 | _ => []
omit [Yl] in
theorem qFG : ∀ (es : List (Value × Value)), qX0 (eP es) = es
 | [] => rfl
 | p :: es => by
   show (p.1, p.2) :: qX0 (eP es) = _;rw [qFG es]
def obE (gr : Bool) : PV -> Option PO
 | .f (.l el _ cs) => cond (Nat.beq el 1000000001) (some (SpO.map (qX0 cs)).enc) (some ⟨el, gr, cs.map .f⟩)
 | .agg [.f (.v (.string s)), .f (.v (.int _ p))] => some (SpO.iter s p.toNat).enc
 | _ => none
theorem q4G {gr : Bool} {c : SV} {f : Nat -> SO} (e : q3Y P gr c = some f) (n : Nat) : obE gr c.enc = some (f n).enc := by
 unfold q3Y at e;split at e
 ·rename_i el u xs;split at e
  ·rename_i m hm
   cases hc : (Nat.beq m u.w && (Nat.ble 1 m && !Nat.beq el 1000000001)) with
   | false => rw [hc] at e; cases e
   | true =>
     rw [hc] at e;cases e;simp only [Bool.and_eq_true, Bool.not_eq_true'] at hc;simp only [SV.enc, Ty.fv, obE, hc.2.2, cond_false];rfl
  ·cases e
 ·rename_i es;cases e;simp only [SV.enc, Ty.fv, obE];show cond (Nat.beq 1000000001 1000000001) _ _ = _;rw [qFG]; rfl
 ·cases e;simp only [SV.enc, qA, Ty.fv, obE];rfl
 ·cases e
theorem q7W {ob : SO} {p : SV × Bool} (e : obD ob = some p) : obE p.2 p.1.enc = some ob.enc := by
 unfold obD at e;split at e
 ·rename_i el gr g w u xs
  cases hc : Nat.beq el 1000000001 with
  | true => rw [hc] at e; cases e
  | false =>
    rw [hc] at e;cases e;simp only [SV.enc, Ty.fv, obE, hc, cond_false];rfl
 ·rename_i w x;cases e
  cases x with
  | map es =>
    simp only [spD, SV.enc, Ty.fv, obE];show cond (Nat.beq 1000000001 1000000001) _ _ = _;rw [qFG]; rfl
  | iter s pos =>
    simp only [spD, SV.enc, qA, Ty.fv, obE];rfl
 ·cases e
theorem qNL {q : PHp} {B : Nat -> Prop} : ∀ {os : List (Nat × Bool)} {l : List SV} {h h2 : SH}, q27 P os l h = some h2 -> (∀ k o, ¬ B k -> k ∉ os.map (·.1) -> slk k h.l = some o -> qC k q = some o.enc) ->
 (∀ (i : Nat) k gr c, os[i]? = some (k, gr) -> l[i]? = some c -> qC k q = obE gr c.enc) -> ∀ k o, ¬ B k -> slk k h2.l = some o -> qC k q = some o.enc
 | [], [], h, h2, e, h0, _, k, o, hB, hk => by
   cases e;exact h0 k o hB (by simp) hk
 | (j, gr) :: ks, c :: l, h, h2, e, h0, h1, k, o, hB, hk => by
   obtain ⟨f, hf, e1⟩ := qH6 e;refine qNL (q := q) (B := B) e1 (fun k2 o2 hB2 hk2 ho2 => ?_) (fun i k2 gr2 c2 a1 a2 => h1 (i + 1) k2 gr2 c2 (by simpa using a1) (by simpa using a2)) k o hB hk;by_cases hj : k2 = j
   ·subst hj;rw [show slk k2 ((h.del k2).new k2 f).l = some (f (h.del k2).next) from u6] at ho2;cases ho2;rw [h1 0 k2 gr c rfl rfl];exact q4G hf _
   ·rw [show slk k2 ((h.del j).new j f).l = slk k2 (h.del j).l from yE hj, show slk k2 (h.del j).l = slk k2 h.l from jK hj _] at ho2;exact h0 k2 o2 hB2 (by rw [List.map_cons, List.mem_cons, not_or]; exact ⟨hj, hk2⟩) ho2
 | [], _ :: _, _, _, e, _, _, _, _, _, _ => by cases e
 | _ :: _, [], _, _, e, _, _, _, _, _, _ => by cases e
omit [Yl] in
theorem qBT {h : SH} : ∀ {is : List Nat} {l env : List SV}, okL h l -> okL h (mZ is l env).2
 | [], l, env, hl => hl
 | i :: is, [], env, _ => by simp [mZ, okL]
 | i :: is, c :: l, env, hl => by
   simp only [okL] at hl;show okL h (mZ is l (xU env i c)).2;exact qBT hl.2
omit [Yl] in
theorem qN9 {h : SH} {l : List SV} (n : Nat) (hl : okL h l) : okL h (l.drop n) := xA.2 fun x hx => xA.1 hl x (List.mem_of_mem_drop hx)
theorem qV8 (l : List SV) (n : Nat) : qA (l.take n) = (qA l).take n := by rw [qZ, qZ, List.map_take]
theorem qSQ (l : List SV) (n : Nat) : qA (l.drop n) = (qA l).drop n := by rw [qZ, qZ, List.map_drop]
omit [Yl] in
theorem qR7 {h : SH} (ho : OkH P h) : ∀ {l : List (Nat × Nat)} {env e2 : List SV}, okL h env -> q3C l h env = some e2 -> okL h e2 ∧ e2.length = env.length ∧ ∀ j, j ∉ l.map (·.1) -> zM e2 j = zM env j
 | [], env, e2, he, e => by cases e; exact ⟨he, rfl, fun _ _ => rfl⟩
 | (i, k) :: l, env, e2, he, e => by
   unfold q3C at e;split at e
   ·rename_i el gr g w u xs hk;have hg := (ho.list _ _ _ _ _ _ _ hk).1
    have hok : (SV.own k g (List.length xs)).ok h := by
     simp only [SV.ok];exact ⟨hg, fun el2 gr2 w2 t2 xs2 hk2 => by rw [hk] at hk2; cases hk2; rfl⟩
    obtain ⟨a1, a2, a3⟩ := qR7 ho (wT (t := i) he hok) e;refine ⟨a1, a2.trans (fF _ _ _), fun j hj => ?_⟩;rw [List.map_cons, List.mem_cons, not_or] at hj;rw [a3 j hj.2, zV, qH, qH, List.getElem?_set, if_neg (fun e => hj.1 e.symm)]
   ·cases e
omit [Yl] in
theorem qHZ {kb w : Nat} {h : SH} (ho : OkH P h) : ∀ {ds : List (Option Nat)} {l : List SV} {p : List SV × List SV}, okL h l -> mkB kb w ds l h = some p -> okL h p.1 ∧ okL h p.2
 | [], l, p, hl, e => by cases e; exact ⟨by simp [okL], hl⟩
 | none :: ds, c :: l, p, hl, e => by
   unfold mkB at e;simp only [okL] at hl;split at e
   ·rename_i q hq;cases e;have ih := qHZ ho hl.2 hq;exact ⟨by simp only [okL]; exact ⟨hl.1, ih.1⟩, ih.2⟩
   ·cases e
 | some k :: ds, l, p, hl, e => by
   unfold mkB at e
   cases hm : q4J k with
   | true =>
     rw [hm] at e;simp only [cond_true] at e;split at e
     ·simp only [okL] at hl;split at e
      ·rename_i b q hb hq;cases e;have ih := qHZ ho hl.2 hq;exact ⟨by simp only [okL]; exact ⟨by simp [SV.ok], ih.1⟩, ih.2⟩
      ·cases e
     ·cases e
   | false =>
   rw [hm] at e;simp only [cond_false] at e;split at e
   ·rename_i el gr g w u xs hk;split at e
    ·rename_i q hq;cases e;have ih := qHZ ho hl hq;have hg := (ho.list _ _ _ _ _ _ _ hk).1;refine ⟨?_, ih.2⟩;simp only [okL, SV.ok];exact ⟨⟨hg, fun el2 gr2 w2 t2 xs2 hk2 => by rw [hk] at hk2; cases hk2; rfl⟩, ih.1⟩
    ·cases e
   ·cases e
 | none :: _, [], _, _, e => by cases e
omit [Yl] in
theorem qL3 {h1 : SH} : ∀ {bs : List (Nat × List (Option Nat))} {l : List SV} {h h2 : SH}, OkH P h -> okL h l -> q3M h1 bs l h = some h2 -> Keep h h2 ∧ OkH P h2 ∧ ∀ k, k ∉ bs.map (·.1) -> slk k h2.l = slk k h.l
 | [], l, h, h2, ho, hl, e => by cases e; exact ⟨.refl _, ho, fun _ _ => rfl⟩
 | (k, ds) :: bs, l, h, h2, ho, hl, e => by
   unfold q3M at e;split at e
   ·rename_i el w0 l0 hk0;split at e
    ·rename_i p hp;obtain ⟨m1, m2⟩ := qHZ ho hl hp;have hd := nD (k := k) ho;have hn2 := kW (h := h.del k) (k := k) (f := fun v => .cells el v p.1) hd.2 ⟨rfl, qO hd.1 m1⟩;obtain ⟨a1, a2, a3⟩ := qL3 hn2.2 (qO hn2.1 (qO hd.1 m2)) e;refine ⟨hd.1.trans (hn2.1.trans a1), a2, fun j hj => ?_⟩;rw [List.map_cons, List.mem_cons, not_or] at hj;rw [a3 j hj.2];show slk j ((k, _) :: (h.del k).l) = _;rw [yE hj.1];exact jK hj.1 _
    ·cases e
   ·cases e
theorem qVG {h h2 : SH} (ho : OkH P h) (ho2 : OkH P h2) {k : Nat} {v : SV} {el : TypeId} {gr : Bool} {g w : Nat} {u : Ty} {xs : List u.sem} (hv : v.ok h) (c : qZH k v h = true) (hk : slk k h2.l = some (.list el gr g w u xs)) (h1 : qC k (qD h.l) = some (SO.list el gr g w u xs).enc) :
 v.enc = (SV.own k g xs.length).enc := by
 unfold qZH at c;split at c
 ·rename_i k' g' n';rw [Bool.and_eq_true] at c;have hkk : k' = k := Nat.eq_of_beq_eq_true c.1;subst hkk;have c2 := c.2;split at c2
  ·rename_i el3 gr3 g3 w3 u3 xs3 hk3;have hg : g' = g3 := Nat.eq_of_beq_eq_true c2;subst hg;simp only [SV.ok] at hv;have hn := hv.2 _ _ _ _ _ hk3;rw [xY hk3] at h1;have h1 := Option.some.inj h1;have e1 : el3 = el := congrArg PO.el h1
   have e2' : xs3.length * u3.w = xs.length * u.w := by
    have := congrArg (fun o : PO => o.cs.length) h1;simp only [qV] at this;exact this
   have l1 := ho.list _ _ _ _ _ _ _ hk3;have l2 := ho2.list _ _ _ _ _ _ _ hk
   have hww : u3.w = u.w := by
    have a1 := l1.2.1;have a2 := l2.2.1;rw [e1, a2] at a1;exact (Option.some.inj a1).symm
   have hlen : xs3.length = xs.length := by
    rw [hww] at e2';exact Nat.eq_of_mul_eq_mul_right l2.2.2 e2'
   simp only [SV.enc, hn, hlen]
  ·cases c2
 ·cases c
theorem qF0 {kb w : Nat} {hn h : SH} (hon : OkH P hn) (ho : OkH P h) : ∀ {ds : List (Option Nat)} {l ln dl rest : List SV} {p : List SV × List SV}, mkB kb w ds l h = some p -> qZ6 kb w ds ln = some dl -> q1A ds ln hn = true -> qA (dl ++ rest) = qA l -> okL hn ln ->
 (∀ k o, some k ∈ ds -> slk k h.l = some o -> qC k (qD hn.l) = some o.enc) -> qA p.1 = qA ln ∧ qA p.2 = qA rest
 | [], l, ln, dl, rest, p, e, ec, eo, hl, hok, hq => by
   cases e
   cases ln with
   | nil => cases ec; exact ⟨rfl, hl.symm⟩
   | cons _ _ => cases ec
 | none :: ds, c :: l, ln, dl, rest, p, e, ec, eo, hl, hok, hq => by
   unfold mkB at e;split at e
   ·rename_i q hm;cases e
    cases ln with
    | nil => cases ec
    | cons v ln =>
      unfold qZ6 at ec;split at ec
      ·rename_i r hr;cases ec;simp only [List.cons_append, qA, List.cons.injEq] at hl;simp only [okL] at hok;obtain ⟨a1, a2⟩ := qF0 hon ho hm hr (by unfold q1A at eo; exact eo) hl.2 hok.2 fun k o hk ho => hq k o (List.mem_cons_of_mem _ hk) ho
       exact ⟨by simp only [qA, a1, hl.1], a2⟩
      ·cases ec
   ·cases e
 | some k :: ds, l, ln, dl, rest, p, e, ec, eo, hl, hok, hq => by
   unfold mkB at e
   cases hmk : q4J k with
   | true =>
     rw [hmk] at e;simp only [cond_true] at e;split at e
     case h_2 => cases e
     rename_i c l';split at e
     case h_2 => cases e
     rename_i b q hb hm;cases e
     cases ln with
     | nil => cases ec
     | cons v ln =>
       unfold qZ6 at ec;rw [hmk] at ec;simp only [cond_true] at ec;split at ec
       case h_2 => cases ec
       rename_i b2 r hb2 hr;cases ec;simp only [okL] at hok;unfold q1A at eo;rw [Bool.and_eq_true] at eo;simp only [List.cons_append, qA, List.cons.injEq] at hl;obtain ⟨a1, a2⟩ := qF0 hon ho hm hr eo.2 hl.2 hok.2 fun k o hk ho => hq k o (List.mem_cons_of_mem _ hk) ho
       refine ⟨?_, a2⟩
       have hbb : b2 = b := by
        have := hl.1;rw [rH hb] at this;simp only [SV.enc, Ty.fv, fvv] at this;injection this with this;injection this with this;injection this
       simp only [qA, a1, qNN hb2, hbb]
   | false =>
   rw [hmk] at e;simp only [cond_false] at e;split at e
   ·rename_i el gr g w u xs hk;split at e
    ·rename_i q hm;cases e
     cases ln with
     | nil => cases ec
     | cons v ln =>
       unfold qZ6 at ec;rw [hmk] at ec;simp only [cond_false] at ec;simp only [okL] at hok;unfold q1A at eo;rw [hmk, Bool.and_eq_true] at eo;simp only [cond_false] at eo;obtain ⟨a1, a2⟩ := qF0 hon ho hm ec eo.2 hl hok.2 fun k o hk ho => hq k o (List.mem_cons_of_mem _ hk) ho
       refine ⟨?_, a2⟩;simp only [qA, a1];rw [qVG hon ho hok.1 eo.1 hk (hq k _ List.mem_cons_self hk)]
    ·cases e
   ·cases e
 | none :: _, [], _, _, _, _, e, _, _, _, _, _ => by cases e
theorem qPN {hn h1 : SH} {L : List Nat} (hon : OkH P hn) : ∀ {bs : List (Nat × List (Option Nat))} {l c rest : List SV} {h h2 : SH}, OkH P h -> okL h l -> q3M h1 bs l h = some h2 -> tF bs hn = some c -> qA (c ++ rest) = qA l -> qGW L bs h1 hn = true ->
 (∀ k o, slk k h.l = some o -> k ∉ bs.map (·.1) -> qC k (qD hn.l) = some o.enc) -> (∀ k o, slk k h.l = some o -> k ∉ L -> qC k (qD hn.l) = some o.enc) -> ∀ k o, slk k h2.l = some o -> qC k (qD hn.l) = some o.enc
 | [], l, c, rest, h, h2, ho, hl, e, ec, hc, hb, hq, _, k, o, hk => by
   cases e;exact hq k o hk (by simp)
 | (j, ds) :: bs, l, c, rest, h, h2, ho, hl, e, ec, hc, hb, hq, hqL, k, o, hk => by
   unfold qGW at hb;rw [List.all_cons, Bool.and_eq_true, Bool.and_eq_true, Bool.and_eq_true] at hb;obtain ⟨⟨b0, b1, b2⟩, b3⟩ := hb;unfold q3M at e;split at e
   case h_2 => cases e
   rename_i el w0 l0 hk0;split at e
   case h_2 => cases e
   rename_i p hp;rw [hk0] at b2;simp only at b2;unfold tF at ec;split at ec
   case h_2 => cases ec
   rename_i el2 w2 ln hkn;rw [hkn] at b2;simp only [Bool.and_eq_true] at b2;split at ec
   case h_2 => cases ec
   rename_i a b ha hb2;cases ec;have hel : el = el2 := Nat.eq_of_beq_eq_true b2.1;subst hel;obtain ⟨m1, m2⟩ := qHZ ho hl hp
   obtain ⟨q1, q2⟩ := qF0 hon ho hp ha b2.2 (rest := b ++ rest) (by rw [<- List.append_assoc]; exact hc) (hon.cells _ _ _ _ hkn) (fun k o hk ho2 => hqL k o ho2 fun hm => by
    have := List.all_eq_true.1 b1 (some k) hk;simp only [aF.2 hm] at this
    cases this)
   have hd := nD (k := j) ho;have hn2 := kW (h := h.del j) (k := j) (f := fun v => .cells el v p.1) hd.2 ⟨rfl, qO hd.1 m1⟩
   have look : ∀ i, i ≠ j -> slk i ((h.del j).new j fun v => .cells el v p.1).l = slk i h.l := fun i hi => by
    show slk i ((j, _) :: (h.del j).l) = _;rw [yE hi];exact jK hi _
   have lookj : slk j ((h.del j).new j fun v => .cells el v p.1).l = some (.cells el (h.del j).next p.1) := u6
   have hbox : qC j (qD hn.l) = some (SO.cells el (h.del j).next p.1).enc := by
    rw [xY hkn];simp [SO.enc, q1]
   refine qPN hon (bs := bs) (c := b) (rest := rest) hn2.2 (qO hn2.1 (qO hd.1 m2)) e hb2 q2.symm b3 (fun i o2 hi hni => ?_) (fun i o2 hi hni => ?_) k o hk
   ·by_cases hij : i = j
    ·subst hij;rw [lookj] at hi; cases hi; exact hbox
    ·rw [look i hij] at hi;exact hq i o2 hi (by rw [List.map_cons, List.mem_cons, not_or]; exact ⟨hij, hni⟩)
   ·by_cases hij : i = j
    ·subst hij;rw [lookj] at hi; cases hi; exact hbox
    ·rw [look i hij] at hi;exact hqL i o2 hi hni
end
end Go.Sv
namespace Go.Sv
open Go.Idl
noncomputable section
variable [Gc]
variable [Yl]
variable {P : Program} {R : Type} {r : R} {nm : Nm}
def qZ1 (os : List (Nat × Bool)) (h : SH) : Bool := os.all fun p => match slk p.1 h.l with
 | some ob => (match obD ob with
   | some q => q.2 == p.2
   | none => false)
 | none => false
def qLZ (l : List (Nat × Nat)) (env : List SV) (h : SH) : Bool := l.all fun p => match zM env p.1 with
 | some (.own k g _) => Nat.beq k p.2 && (match slk k h.l with
   | some (.list _ _ g' _ _ _) => Nat.beq g g'
   | _ => false)
 | _ => false
def oJ (ls : List Nat) (hh h : SH) : Bool := hh.l.all fun p => qGR p.1 ls || (match slk p.1 h.l with
 | some o => Nat.beq o.w p.2.w
 | none => false)
omit [Yl] in
theorem qMW {k : Nat} {o : SO} : ∀ {l : List (Nat × SO)}, slk k l = some o -> (k, o) ∈ l
 | (j, p) :: l, h => by
   have h1 : cond (k == j) (some p) (slk k l) = some o := h;clear h
   cases hj : k == j with
   | true =>
     rw [hj] at h1;have h2 : p = o := Option.some.inj h1;have : k = j := by simpa using hj
     rw [this, h2];exact List.mem_cons_self
   | false =>
     rw [hj] at h1;exact List.mem_cons_of_mem _ (qMW (l := l) h1)
omit [Yl] in
theorem qHG : ∀ {ks : List Nat} {h : SH} {os : List (Nat × Bool)}, q1V ks h = some os -> os.map (·.1) = ks
 | [], h, os, e => by cases e; rfl
 | k :: ks, h, os, e => by
   unfold q1V at e;split at e
   ·rename_i hk hl;split at e
    ·cases e;rw [List.map_cons, qHG hl]
    ·cases e
   ·cases e
omit [Yl] in
theorem qMB : ∀ {ks : List Nat} {h : SH} {os : List (Nat × Bool)}, q1V ks h = some os -> qZ1 os h = true
 | [], h, os, e => by cases e; rfl
 | k :: ks, h, os, e => by
   unfold q1V at e;split at e
   ·rename_i ob os' hk hl;split at e
    ·rename_i p hp;cases e;have ih := qMB hl;unfold qZ1 at ih ⊢;rw [List.all_cons, ih];simp only [hk, hp];simp
    ·cases e
   ·cases e
omit [Yl] in
theorem qR3 : ∀ {ks : List Nat} {h : SH} {b : List SV}, qWS ks h = some b -> ∀ (i : Nat) k, ks[i]? = some k -> ∃ ob p, slk k h.l = some ob ∧ obD ob = some p ∧ b[i]? = some p.1
 | [], h, b, e, i, k, hk => by simp at hk
 | j :: ks, h, b, e, i, k, hk => by
   unfold qWS at e;split at e
   ·rename_i ob l hj hl;split at e
    ·rename_i p hp;cases e
     cases i with
     | zero =>
       simp at hk;subst hk;exact ⟨ob, p, hj, hp, rfl⟩
     | succ i => exact qR3 hl i k (by simpa using hk)
    ·cases e
   ·cases e
omit [Yl] in
theorem qN3 : ∀ {ks : List Nat} {h : SH} {b : List SV}, qWS ks h = some b -> b.length = ks.length
 | [], h, b, e => by cases e; rfl
 | k :: ks, h, b, e => by
   unfold qWS at e;split at e
   ·rename_i hk hl;split at e
    ·cases e;simp only [List.length_cons, qN3 hl]
    ·cases e
   ·cases e
theorem qSA {h h2 : SH} {env : List SV} (ho : OkH P h) (ho2 : OkH P h2) (hs : ∀ k o, slk k h2.l = some o -> qC k (qD h.l) = some o.enc) (hen : okL h env) : ∀ {l : List (Nat × Nat)} {m e2 : List SV}, qLZ l env h = true -> q3C l h2 m = some e2 -> WkP (qA env) (qA m) -> WkP (qA env) (qA e2)
 | [], m, e2, _, e, hw => by cases e; exact hw
 | (i, k) :: l, m, e2, hc, e, hw => by
   unfold qLZ at hc;rw [List.all_cons, Bool.and_eq_true] at hc;unfold q3C at e;split at e
   ·rename_i el gr g w u xs hk;refine qSA ho ho2 hs hen hc.2 e ?_;have c1 := hc.1;simp only at c1;split at c1
    ·rename_i k' g' n' hi;have c3 : qZH k (.own k' g' n') h = true := c1;rw [wM];refine qSP hw ?_;rw [xO, hi];show some (SV.own k' g' n').enc = _;rw [qVG ho ho2 (qBF hen hi) c3 hk (hs k _ hk)]
    ·cases c1
   ·cases e
theorem qVO {W : List Nat} {sh : Sh} {ts : List Ty} {os : List (Nat × Bool)} {env1 e2 b c : List SV} {h1 h h2 : SH} {s : TyL ts} (ho : OkH P h) (ho1 : OkH P h1)
 (hb : qWS sh.o h = some b) (hcB : tF sh.b h = some c) (w2 : qA (mZ sh.d (svL ts s) (blank W 0 env1)).2 = qA (b ++ c)) (hm : mkS P W sh ts os env1 h1 s = some (e2, h2)) (hos : os.map (·.1) = sh.o) (hgr : qZ1 os h = true) (hbx : qGW (sh.b.map (·.1)) sh.b h1 h = true)
 (hkept : ∀ k o, k ∉ sh.o -> k ∉ sh.b.map (·.1) -> slk k h1.l = some o -> qC k (qD h.l) = some o.enc) :
 OkH P h2 ∧ q3C sh.s h2 (mZ sh.d (svL ts s) (blank W 0 env1)).1 = some e2 ∧ ∀ k o, slk k h2.l = some o -> qC k (qD h.l) = some o.enc := by
 unfold mkS at hm;split at hm
 case h_2 => cases hm
 rename_i h3 hso;split at hm
 case h_2 => cases hm
 rename_i h4 hsb;split at hm
 case h_2 => cases hm
 rename_i e3 hss;cases hm;have hlen : os.length = b.length := by rw [qN3 hb, <- hos, List.length_map]
 have t1 : qA ((mZ sh.d (svL ts s) (blank W 0 env1)).2.take os.length) = qA b := by
  rw [qV8, w2, qZ, qZ, List.map_append, hlen, <- List.length_map (as := b) (f := SV.enc), List.take_left]
 have t2 : qA ((mZ sh.d (svL ts s) (blank W 0 env1)).2.drop os.length) = qA c := by
  rw [qSQ, w2, qZ, qZ, List.map_append, hlen, <- List.length_map (as := b) (f := SV.enc), List.drop_left]
 have hsub1 : ∀ k o, ¬ k ∈ sh.b.map (·.1) -> slk k h3.l = some o -> qC k (qD h.l) = some o.enc := by
  refine qNL (B := fun k => k ∈ sh.b.map (·.1)) hso (fun k o hB hk hk2 => hkept k o (by rw [<- hos]; exact hk) hB hk2) ?_;intro i k gr x hi hx;have hki : sh.o[i]? = some k := by rw [<- hos, List.getElem?_map, hi]; rfl
  obtain ⟨ob, p, q1, q0, q2⟩ := qR3 hb i k hki
  have hce : x.enc = p.1.enc := by
   have e1 : (qA b)[i]? = some p.1.enc := by rw [qZ, List.getElem?_map, q2]; rfl
   rw [<- t1, qZ, List.getElem?_map, hx] at e1;exact Option.some.inj e1
  have hg : p.2 = gr := by
   unfold qZ1 at hgr;have := List.all_eq_true.1 hgr (k, gr) (List.mem_of_getElem? hi);simp only [q1, q0] at this;simpa using this
  rw [hce, xY q1, <- hg, q7W q0]
 obtain ⟨k3, ho3, _⟩ := qL2 ho1 hso;have hrest : okL h3 ((mZ sh.d (svL ts s) (blank W 0 env1)).2.drop os.length) := qN9 _ (qBT (qC3 ts s));have hsub := qPN (L := sh.b.map (·.1)) ho (c := c) (rest := []) ho3 hrest hsb hcB (by rw [List.append_nil]; exact t2.symm) hbx (fun k o hk hn => hsub1 k o hn hk) (fun k o hk hn => hsub1 k o hn hk);obtain ⟨_, ho4, _⟩ := qL3 ho3 hrest hsb;exact ⟨ho4, hss, hsub⟩
theorem qGH {h h2 : SH} (hsub : ∀ k o, slk k h2.l = some o -> qC k (qD h.l) = some o.enc) : tH (qD h2.l) (qD h.l) := fun k ob hk => by
 rw [oO] at hk;obtain ⟨o, h1, h2⟩ := Option.map_eq_some_iff.1 hk;rw [hsub k o h1, h2]
theorem q5S {W : List Nat} {sh : Sh} {ts : List Ty} {os : List (Nat × Bool)} {env1 env e2 a b c : List SV} {h1 h h2 : SH} {s : TyL ts} (ho : OkH P h) (ho1 : OkH P h1) (hen : okL h env)
 (ha : qIK sh.d env = some a) (hb : qWS sh.o h = some b) (hcB : tF sh.b h = some c) (hd : qC8 ts (a ++ (b ++ c)) = some s) (hm : mkS P W sh ts os env1 h1 s = some (e2, h2)) (hos : os.map (·.1) = sh.o) (hgr : qZ1 os h = true) (hown : qLZ sh.s env h = true) (hbx : qGW (sh.b.map (·.1)) sh.b h1 h = true)
 (hkept : ∀ k o, k ∉ sh.o -> k ∉ sh.b.map (·.1) -> slk k h1.l = some o -> qC k (qD h.l) = some o.enc) (hbl : WkP (qA env) (qA (blank W 0 env1))) :
 WkP (qA env) (qA e2) ∧ tH (qD h2.l) (qD h.l) := by
 have hde := nQ hd;obtain ⟨w1, w2⟩ := qVA (m := svL ts s) ha hde hbl;obtain ⟨ho4, hss, hsub⟩ := qVO ho ho1 hb hcB w2 hm hos hgr hbx hkept;exact ⟨qSA ho ho4 hsub hen hown hss w1, qGH hsub⟩
theorem qCW {W : List Nat} {sh : Sh} {ts : List Ty} {os : List (Nat × Bool)} {env1 e2 : List SV} {h1 h2 : SH} {s : TyL ts} (ho1 : OkH P h1) (he1 : okL h1 env1) (hm : mkS P W sh ts os env1 h1 s = some (e2, h2)) :
 Keep h1 h2 ∧ OkH P h2 ∧ okL h2 e2 ∧ e2.length = env1.length ∧ (∀ j, j ∉ W -> j ∉ sh.d -> j ∉ sh.s.map (·.1) -> zM (qA e2) j = zM (qA env1) j) ∧ ∀ k, k ∉ os.map (·.1) -> k ∉ sh.b.map (·.1) -> slk k h2.l = slk k h1.l := by
 unfold mkS at hm;split at hm
 case h_2 => cases hm
 rename_i h3 hso;split at hm
 case h_2 => cases hm
 rename_i h4 hsb;split at hm
 case h_2 => cases hm
 rename_i e3 hss;cases hm;obtain ⟨a1, a2, a3⟩ := qL2 ho1 hso;have hrest : okL h3 ((mZ sh.d (svL ts s) (blank W 0 env1)).2.drop os.length) := qN9 _ (qBT (qC3 ts s));obtain ⟨c1, c2, c3⟩ := qL3 a2 hrest hsb;have hok : okL h2 (mZ sh.d (svL ts s) (blank W 0 env1)).1 := qM9 (qC3 ts s) (qO4 (qO c1 (qO a1 he1)));obtain ⟨b1, b2, b3⟩ := qR7 c2 hok hss;refine ⟨a1.trans c1, c2, b1, by rw [b2, qFF, qCI], fun j hj hjd hjs => ?_, fun k hk hk2 => (c3 k hk2).trans (a3 k hk)⟩;rw [xO, xO, b3 j hjs, qFC hjd, qAY]
 have : qGR (0 + j) W = false := by
  cases hq : qGR (0 + j) W with
  | false => rfl
  | true => rw [Nat.zero_add] at hq; exact absurd (aF.1 hq) hj
 rw [this];cases zM env1 j <;> rfl
theorem qNX {W : List Nat} {env env1 : List SV} (hl : env.length = env1.length) (h : ∀ i, i ∉ W -> zM (qA env) i = zM (qA env1) i) : WkP (qA env) (qA (blank W 0 env1)) := by
 refine qUW (by rw [zF, zF, qCI, hl]) fun i => ?_
 rw [xO (blank W 0 env1), qAY, Nat.zero_add]
 cases hq : qGR i W with
 | true =>
   cases hx : zM env1 i with
   | none =>
     left
     have : zM env i = none := by
      rw [qH] at hx ⊢;rw [List.getElem?_eq_none_iff] at hx ⊢;omega
     rw [xO, this]; rfl
   | some x => right; simp [SV.enc]
 | false =>
   left
   have hni : i ∉ W := fun hm => by
    rw [aF.2 hm] at hq;cases hq
   rw [h i hni, xO env1];cases zM env1 i <;> rfl
end
end Go.Sv
namespace Go.Sv
open Go.Idl
noncomputable section
abbrev eH (Γ : Option Type) (R : Type) := IExit -> GV Γ -> List SV -> SH -> Tree R
def Tree.sum {R : Type} {α β : Type} (x : α ⊕ β) (f : α -> Tree R) (g : β -> Tree R) : Tree R := Sum.rec f g x
variable [Gc]
variable [Yl]
variable {P : Program} {Γ : Option Type} {R : Type} {r : R} {nm : Nm} {G : Nat -> Bool} {rd : Bool} {N : Nat} {rs : List Ty} {wd : Wld (GV Γ)}
def EQ (P : Program) (N : Nat) (w : List Nat) (env : List SV) (h : SH) (K : eH Γ R) (r : R) : YQ (GV Γ) := fun e g pe ph =>
 ∃ env' h', pe = qA env' ∧ ph = qD h'.l ∧ okL h' env' ∧ OkH P h' ∧ env'.length = N ∧ Keep h h' ∧ (e ≠ .ret -> gH P w env h env' h') ∧ (K e g env' h').run = some r
def q8F (id : Nat) (K : eH Γ R) : eH Γ R := fun e g env h => match e with
 | .exit i => cond (Nat.beq i id) (K .normal g env h) (K (.exit i) g env h)
 | e => K e g env h
def q3J : List Nat -> Nat -> (Nat -> Tree R) -> Tree R
 | [], _, _ => .fail
 | a :: l, j, K => .ite (Nat.beq j a) (K a) (q3J l j K)
omit [Yl] in
theorem qPA : ∀ {l : List Nat} {j : Nat} {K : Nat -> Tree R}, (q3J l j K).run = some r -> (K j).run = some r
 | [], j, K, e => by cases e
 | a :: l, j, K, e => by
   rcases run_ite e with ⟨z, e1⟩ | ⟨z, e1⟩
   ·rw [Nat.eq_of_beq_eq_true z]; exact e1
   ·exact qPA e1
def bk (sh : Sh) (os : List (Nat × Bool)) (ts : List Ty) (mk : TyL ts -> Option (List SV × SH)) (h1 hh : SH) (env : List SV) (h : SH) : Option (TyL ts) := match qIK sh.d env, qWS sh.o h, tF sh.b h with
 | some a, some b, some c => (match qC8 ts (a ++ (b ++ c)) with
   | some s => cond (qZ1 os h && (qLZ sh.s env h && (qGW (sh.b.map (·.1)) sh.b h1 h && (oJ (sh.o ++ sh.b.map (·.1)) hh h && (mk s).isSome)))) (some s) none
   | none => none)
 | _, _, _ => none
def qUZ (rdv : List SV -> SH -> Option (TyL rs)) (id : Nat) (sh : Sh) (os : List (Nat × Bool)) (ts : List Ty) (mk : TyL ts -> Option (List SV × SH)) (h1 hh : SH) : eH Γ (GS Γ (TyL ts) ⊕ (GS Γ (TyL ts) ⊕ (GS Γ (TyL rs) ⊕ GS Γ (Nat × TyL ts)))) := fun e g env h => match e with
 | .normal => (match bk sh os ts mk h1 hh env h with
   | some s => .ret (.inl (gj g s))
   | none => .fail)
 | .exit j => (match bk sh os ts mk h1 hh env h with
   | some s => .ret (.inr (cond (Nat.beq j id) (.inl (gj g s)) (.inr (.inr (gj g (j, s))))))
   | none => .fail)
 | .ret => (match rdv env h with
   | some v => .ret (.inr (.inr (.inl (gj g v))))
   | none => .fail)
 | .goto _ => .fail
def goS {α : Type} (o : Option (α × SH)) (K : α -> SH -> Tree R) : Tree R := match o with
 | some p => K p.1 p.2
 | none => .fail
omit [Yl] in
theorem qBD {α : Type} {o : Option (α × SH)} {K : α -> SH -> Tree R} (e : (goS o K).run = some r) : ∃ a h, o = some (a, h) ∧ (K a h).run = some r := by
 unfold goS at e;split at e
 ·exact ⟨_, _, rfl, e⟩
 ·cases e
def q0V (P : Program) (nm : Nm) (w : List Nat) (rdv : List SV -> SH -> Option (TyL rs)) (en : TyL rs -> List SV) (hb : SH) (sh : Sh) (id : Nat) (body : ∀ {R' : Type}, GV Γ -> List SV -> SH -> eH Γ R' -> Tree R') (g : GV Γ) (env : List SV) (h : SH) (K : eH Γ R) : Tree R :=
 qPY P nm sh.v env h fun env1 h0 => qEX P nm sh.bv env1 h0 fun env1 h1 => match qIK sh.d env1, qWS sh.o h1, tF sh.b h1, q1V sh.o h1 with
  | some a, some b, some c, some os => (match q67 (a ++ (b ++ c)) with
    | some ts => (match qC8 ts (a ++ (b ++ c)) with
      | some s0 => cond (qLZ sh.s env1 h1 && qGW (sh.b.map (·.1)) sh.b h1 h1)
         (.loop (fun s => goS (mkS P w sh ts os env1 h1 (g2 s)) fun e hh => body (g1 s) e hh (qUZ rdv id sh os ts (mkS P w sh ts os env1 h1) h1 hh)) (gj g s0)
           fun q => Tree.sum q (fun s => goS (mkS P w sh ts os env1 h1 (g2 s)) fun e hh => K .normal (g1 s) e hh)
            fun q2 => Tree.sum q2 (fun v => K .ret (g1 v) (en (g2 v)) ⟨h.next, hb.l⟩)
             fun p => q3J sh.ex (g2 p).1 fun j => goS (mkS P w sh ts os env1 h1 (g2 p).2) fun e hh => K (.exit j) (g1 p) e hh) .fail
      | none => .fail)
    | none => .fail)
  | _, _, _, _ => .fail
def lpW (w : List Nat) (sh : Sh) : List Nat := sh.v.map (·.1) ++ (w ++ (sh.d ++ sh.s.map (·.1)))
structure RdOk (P : Program) (nm : Nm) (N : Nat) (hb : SH) (rdv : List SV -> SH -> Option (TyL rs)) (en : TyL rs -> List SV) : Prop where
 ob : OkH P hb
 wk : ∀ env h v, OkH P h -> okL h env -> env.length = N -> Keep hb h -> rdv env h = some v -> Wk P nm (qA env) (qD h.l) (qA (en v)) (qD hb.l)
 kept : ∀ env h v, OkH P h -> okL h env -> Keep hb h -> rdv env h = some v -> ∀ k o, slk k hb.l = some o -> slk k h.l = some o
 len : ∀ v, (en v).length = N
 ok : ∀ v h, okL h (en v)
omit [Yl] in
theorem q5K {h : SH} (a : OkH P h) {n : Nat} (hn : h.next <= n) : OkH P ⟨n, h.l⟩ := by
 have hk : ∀ {x : SV}, x.ok h -> x.ok ⟨n, h.l⟩ := fun {x} hx => SV.ok.keep (h := h) (h' := ⟨n, h.l⟩) ⟨hn, fun k ob hh _ => hh, fun k el gr g w t xs hh _ => ⟨w, xs, hh, rfl⟩⟩ hx
 exact ⟨fun k ob hh => Nat.lt_of_lt_of_le (a.ver k ob hh) hn, fun k el w l hh => xA.2 fun x hx => hk (xA.1 (a.cells k el w l hh) x hx), fun k el gr g w t xs hh => by
  have := a.list k el gr g w t xs hh
  exact ⟨Nat.lt_of_lt_of_le this.1 hn, this.2⟩⟩
omit [Yl] in
theorem qV2 : OkH P ⟨0, []⟩ := ⟨fun k ob h => (by cases h), fun k el w l h => (by cases h), fun k el gr g w t xs h => (by cases h)⟩
omit [Yl] in
theorem qQ6 {σ ρ : Type} {f : σ -> Option (σ ⊕ ρ)} {s : σ} {q : ρ} (h : yB f s = some q) : ∃ y, f s = some y := by
 rw [vV] at h
 cases hf : f s with
 | none => rw [hf] at h; cases h
 | some y => exact ⟨y, rfl⟩
omit [Yl] in
theorem qNZ {ls : List Nat} {hh h : SH} {k : Nat} {o : SO} (ho : OkH P hh) (hk : Keep hh h) (e : oJ ls hh h = true) (h1 : k ∉ ls) (h2 : slk k hh.l = some o) : slk k h.l = some o := by
 unfold oJ at e;have := List.all_eq_true.1 e (k, o) (qMW h2);rw [Bool.or_eq_true] at this;rcases this with q | q
 ·exact absurd (aF.1 q) h1
 ·simp only at q;split at q
  ·rename_i o' ho';have hw : o'.w = o.w := Nat.eq_of_beq_eq_true q;have := hk.same k o' ho' (by rw [hw]; exact ho.ver k o h2);rw [this] at h2;cases h2;exact ho'
  ·cases q
theorem qCD {ls : List Nat} {hh h : SH} {k : Nat} {o : SO} (ho : OkH P hh) (hk : Keep hh h) (e : oJ ls hh h = true) (h1 : k ∉ ls) (h2 : slk k hh.l = some o) : qC k (qD h.l) = some o.enc := xY (qNZ ho hk e h1 h2)
theorem qXH {w : List Nat} {rdv : List SV -> SH -> Option (TyL rs)} {en : TyL rs -> List SV} {hb : SH} (hrd : RdOk P nm N hb rdv en) {sh : Sh} {id : Nat} {y : Code} {body : ∀ {R' : Type}, GV Γ -> List SV -> SH -> eH Γ R' -> Tree R'} {wb : List Nat} (hwb : w = lpW wb sh)
 (hbody : ∀ {R' : Type} {g : GV Γ} {env : List SV} {h : SH} {K : eH Γ R'} {r : R'}, OkH P h -> okL h env -> env.length = N -> Keep hb h -> (body g env h K).run = some r -> zC P G rd nm wd y g (qA env) (qD h.l) (EQ P N wb env h K r))
 {g : GV Γ} {env : List SV} {h : SH} {K : eH Γ R} (ho : OkH P h) (he : okL h env) (hl : env.length = N) (hbh : Keep hb h) (e : (q0V P nm w rdv en hb sh id body g env h K).run = some r) :
 zC P G rd nm wd (.block id (.loop y)) g (qA env) (qD h.l) (EQ P N w env h K r) := by
 obtain ⟨env1, h0, wk1, ends0, e⟩ := qAN (nm := nm) ho he e;obtain ⟨h1, wk2, kp2, ho1, e⟩ := oL (nm := nm) ends0.2.1 ends0.1 e
 have ends1 : gH P (sh.v.map (·.1)) env h env1 h1 := ⟨qO kp2 ends0.1, ho1, ends0.2.2.1.trans kp2, ends0.2.2.2.1, ends0.2.2.2.2⟩
 split at e
 case h_2 => cases e
 rename_i a b c os ha hb1 hc1 hos;split at e
 case h_2 => cases e
 rename_i ts hts;split at e
 case h_2 => cases e
 rename_i s0 hs0;obtain ⟨hown, e1⟩ := qF e;rw [Bool.and_eq_true] at hown;obtain ⟨q, hq, hafter⟩ := qWX e1;have he1 := ends1.1;have hosf := qHG hos;have hl1 : env1.length = N := ends1.2.2.2.2.trans hl;have hbh1 : Keep hb h1 := hbh.trans ends1.2.2.1
 let E : GS Γ (TyL ts) -> List PV := fun s => match mkS P w sh ts os env1 h1 (g2 s) with
  | some p => qA p.1
  | none => []
 let Ph : GS Γ (TyL ts) -> PHp := fun s => match mkS P w sh ts os env1 h1 (g2 s) with
  | some p => qD p.2.l
  | none => []
 have hE : ∀ {s e2 h2}, mkS P w sh ts os env1 h1 (g2 s) = some (e2, h2) -> E s = qA e2 ∧ Ph s = qD h2.l := fun hm => by
  simp only [E, Ph, hm, and_self]
 obtain ⟨y0, hy0⟩ := qQ6 hq;obtain ⟨e0, hh0, hm0, _⟩ := qBD hy0;obtain ⟨wp0, sp0⟩ := q5S ho1 ho1 he1 ha hb1 hc1 hs0 (by rw [q0B] at hm0; exact hm0) hosf (qMB hos) hown.1 hown.2 (fun k o _ _ hk => xY hk) (qNX rfl fun _ _ => rfl)
 have fin : ∀ {s e2 h2}, mkS P w sh ts os env1 h1 s = some (e2, h2) -> okL h2 e2 ∧ OkH P h2 ∧ e2.length = N ∧ gH P w env h e2 h2 ∧ Keep h1 h2 := fun {s e2 h2} hm => by
  obtain ⟨a1, a2, a3, a4, a5, _⟩ := qCW ho1 he1 hm;refine ⟨a3, a2, a4.trans hl1, ⟨a3, a2, ends1.2.2.1.trans a1, fun i hi => ?_, a4.trans ends1.2.2.2.2⟩, a1⟩;have hi2 : i ∉ lpW wb sh := by rw [<- hwb]; exact hi
  unfold lpW at hi2;simp only [List.mem_append, not_or] at hi2;rw [a5 i hi hi2.2.2.1 hi2.2.2.2, ends1.2.2.2.1 i hi2.1]
 refine zC.post (zC.pre' (wk1.trans wk2) ?_);refine zC.loop E Ph g1 hq (by rw [(hE hm0).1]; exact wp0) (by rw [(hE hm0).2]; exact sp0) q1O.symm ?_;intro s yy hstep;obtain ⟨e2, hh, hm, hb2⟩ := qBD hstep;obtain ⟨f1, f2, f3, f4, f5⟩ := fin hm;rw [(hE hm).1, (hE hm).2];refine (hbody f2 f1 f3 (hbh1.trans f5) hb2).mono ?_;rintro ex g' pe ph ⟨env', h', rfl, rfl, k1, k2, k3, k0, k4, k5⟩;obtain ⟨_, _, _, m4, m5, m6⟩ := qCW ho1 he1 hm
 have back : ∀ {s'}, ex ≠ .ret -> bk sh os ts (mkS P w sh ts os env1 h1) h1 hh env' h' = some s' -> ∃ e3 h3, mkS P w sh ts os env1 h1 s' = some (e3, h3) ∧ WkP (qA env') (qA e3) ∧ tH (qD h3.l) (qD h'.l) := by
  intro s' hne hbk;unfold bk at hbk;split at hbk
  case h_2 => cases hbk
  rename_i a' b' c' ha' hb' hc';split at hbk
  case h_2 => cases hbk
  rename_i s2 hs2
  cases hc : (qZ1 os h' && (qLZ sh.s env' h' && (qGW (sh.b.map (·.1)) sh.b h1 h' && (oJ (sh.o ++ sh.b.map (·.1)) hh h' && (mkS P w sh ts os env1 h1 s2).isSome)))) with
  | false => rw [hc] at hbk; cases hbk
  | true =>
    rw [hc] at hbk;cases hbk;simp only [Bool.and_eq_true] at hc;obtain ⟨⟨e3, h3⟩, hm3⟩ := Option.isSome_iff_exists.1 hc.2.2.2.2;have hends := k4 hne;refine ⟨e3, h3, hm3, q5S k2 ho1 k1 ha' hb' hc' hs2 hm3 hosf hc.1 hc.2.1 hc.2.2.1 (fun k o hk hkb hk2 => qCD f2 hends.2.2.1 hc.2.2.2.1 (by rw [List.mem_append, not_or]; exact ⟨hk, hkb⟩) ?_) (qNX ?_ ?_)⟩
    ·rw [m6 k (by rw [hosf]; exact hk) hkb]; exact hk2
    ·rw [k3, hl1]
    ·intro i hi;have hi2 : i ∉ lpW wb sh := by rw [<- hwb]; exact hi
     unfold lpW at hi2;simp only [List.mem_append, not_or] at hi2;rw [hends.2.2.2.1 i hi2.2.1, m5 i hi hi2.2.2.1 hi2.2.2.2]
 have out : ∀ {x s' e3 h3}, mkS P w sh ts os env1 h1 s' = some (e3, h3) -> WkP (qA env') (qA e3) -> tH (qD h3.l) (qD h'.l) -> (K x g' e3 h3).run = some r -> ∃ pe' ph', Wk P nm (qA env') (qD h'.l) pe' ph' ∧ EQ P N w env h K r x g' pe' ph' := fun {x s' e3 h3} hm3 w1 w2 hk => by
  obtain ⟨g1, g2, g3, g4, g5⟩ := fin hm3;exact ⟨_, _, Wk.drop w1 w2, e3, h3, rfl, rfl, g1, g2, g3, g4.2.2.1, fun _ => g4, hk⟩
 cases ex with
 | normal =>
   simp only [qUZ] at k5;split at k5
   case h_2 => cases k5
   rename_i s' hs';cases k5;obtain ⟨e3, h3, hm3, w1, w2⟩ := back (fun h => by cases h) hs';have hm3 : mkS P w sh ts os env1 h1 (g2 (gj g' s')) = some (e3, h3) := by rw [q0B]; exact hm3
   show IExit.normal = .normal ∧ WkP (qA env') (E (gj g' s')) ∧ tH (Ph (gj g' s')) (qD h'.l) ∧ g' = g1 (gj g' s');rw [(hE hm3).1, (hE hm3).2, q1O];exact ⟨rfl, w1, w2, rfl⟩
 | exit j =>
   simp only [qUZ] at k5;split at k5
   case h_2 => cases k5
   rename_i s' hs';obtain ⟨e3, h3, hm3, w1, w2⟩ := back (fun h => by cases h) hs';cases k5;intro hqe;refine ⟨fun h => by (cases h), ?_⟩
   cases hj : Nat.beq j id with
   | true =>
     rw [hj] at hqe;subst hqe;have hjj : j = id := Nat.eq_of_beq_eq_true hj;subst hjj;obtain ⟨e4, h4, hm4, hk⟩ := qBD hafter;rw [q0B, hm3] at hm4;cases hm4;rw [q1O] at hk;exact BQY.on (out hm3 w1 w2 hk)
   | false =>
     rw [hj] at hqe;subst hqe;have hjj : j ≠ id := fun h => by rw [h, qCK] at hj; cases hj
     obtain ⟨e4, h4, hm4, hk⟩ := qBD (qPA hafter);rw [q0B, hm3] at hm4;cases hm4;rw [q1O, q0B] at hk;exact BQY.ex hjj (out hm3 w1 w2 hk)
 | ret =>
   simp only [qUZ] at k5;split at k5
   case h_2 => cases k5
   rename_i v hv;cases k5;intro hqe;subst hqe;have hbr : Keep hb h' := (hbh1.trans f5).trans k0;have hkp := hrd.kept _ _ _ k2 k1 hbr hv
   have hkh : ∀ k o, slk k hb.l = some o -> slk k h.l = some o := fun k o hk => by
    have h2 := hkp k o hk;have hw : o.w < h.next := Nat.lt_of_lt_of_le (hrd.ob.ver k o hk) hbh.next;have kall : Keep h h' := (ends1.2.2.1.trans f5).trans k0;exact kall.same k o h2 hw
   have hkeep : Keep h ⟨h.next, hb.l⟩ := ⟨Nat.le_refl _, fun k ob hk _ => hkh k ob hk, fun k el gr g w t xs hk _ => ⟨w, xs, hkh k _ hk, rfl⟩⟩
   have hafter : (K .ret (g1 (gj g' v)) (en (g2 (gj g' v))) ⟨h.next, hb.l⟩).run = some r := hafter;rw [q1O, q0B] at hafter;refine ⟨fun h => by (cases h), BQY.rt ⟨_, _, hrd.wk _ _ _ k2 k1 k3 hbr hv, en v, ⟨h.next, hb.l⟩, rfl, rfl, hrd.ok v _, q5K hrd.ob hbh.next, hrd.len v, hkeep, fun h => absurd rfl h, hafter⟩⟩
 | goto l => simp only [qUZ] at k5; cases k5
end
end Go.Sv
namespace Go.Sv
open Go.Idl
noncomputable section
variable [Gc]
variable [Yl]
variable {P : Program} {Γ : Option Type} {R : Type} {r : R} {nm : Nm} {G : Nat -> Bool} {rd : Bool} {N : Nat} {rs : List Ty} {tab : aV} {nat : yU} {good : FuncId -> Bool} {wd : Wld (GV Γ)}
omit [Yl] in
theorem rA : ∀ {ts : List Ty} {x : TyL ts} {y : PV}, y ∈ pvL ts x -> ∃ (t : Ty) (z : t.sem), y = t.pv z
 | [], _, _, h => by cases h
 | [t], x, y, h => ⟨t, x, by simpa [pvL] using h⟩
 | t :: u :: ts, x, y, h => by
   have h : y ∈ t.pv x.1 :: pvL (u :: ts) x.2 := h;rcases List.mem_cons.1 h with q | q
   ·exact ⟨t, x.1, q⟩
   ·exact rA q
omit [Yl] in
theorem qVJ (t : Ty) (x : t.sem) : qRE (t.pv x) = true := by
 unfold Ty.pv
 cases t.one with
 | true => rfl
 | false =>
   show ((t.cells x).map PV.f).all q3F = true;rw [List.all_eq_true];intro y hy;obtain ⟨c, _, rfl⟩ := List.mem_map.1 hy;rfl
omit [Yl] in
theorem q05 {Z : Nat -> Prop} {H : IH} {M M' : Nat -> Option (Nat × PO)} {ts : List Ty} {x : TyL ts} {vs : List Value} (h : VRL P Z H M (pvL ts x) vs) : VRL P Z H M' (pvL ts x) vs := ⟨h.len, fun i y v a b => by
 obtain ⟨t, z, rfl⟩ := rA (List.mem_of_getElem? a)
 exact bZ (h.val i _ v a b) (qVJ t z)⟩
omit [Yl] in
theorem qHB : ∀ (ts : List Ty) (x : TyL ts), (svL ts x).length = ts.length
 | [], _ => rfl
 | [_], _ => rfl
 | t :: u :: ts, x => by
   show (t.sv x.1 :: svL (u :: ts) x.2).length = _;simp only [List.length_cons, qHB (u :: ts)]
def q3X (t : Ty) (x : t.sem) : PV := .lp (t.cells x) 0
def q7O : (ts : List Ty) -> TyL ts -> List PV
 | [], _ => []
 | [t], x => [q3X t x]
 | t :: u :: ts, x => q3X t x.1 :: q7O (u :: ts) x.2
def qKT (P : Program) (t : Ty) (v : SV) (h : SH) : Option (t.sem × SH) := match v with
 | .ref k off w => (match slk k h.l with
   | some (.cells el _ l) => cond (!spec P el && (Nat.beq off 0 && Nat.beq w l.length)) (match t.decC P (sD P 8 el) l (h.del k) with
     | some (x, _, [], h') => some (x, h')
     | _ => none) none
   | _ => none)
 | _ => none
def bT (P : Program) : (ts : List Ty) -> List SV -> SH -> Option (TyL ts × SH)
 | [], [], h => some ((), h)
 | [t], [v], h => qKT P t v h
 | t :: u :: ts, v :: vs, h => match qKT P t v h with
   | some (x, h1) => (match bT P (u :: ts) vs h1 with
     | some (y, h2) => some ((x, y), h2)
     | none => none)
   | none => none
 | _, _, _ => none
theorem qCU {t : Ty} {v : SV} {h : SH} {x : t.sem} {h' : SH} (ho : OkH P h) (e : qKT P t v h = some (x, h')) :
 Keep h h' ∧ OkH P h' ∧ ∀ (Z : Nat -> Prop) (H : IH) (m : Nat -> Nat) (u : Value), Hp P Z H (own m (qD h.l)) -> VR P Z H (own m (qD h.l)) v.enc u -> ∃ Z', Fz P Z H m (qD h.l) Z' (qD h'.l) ∧ VR P Z' H (fun _ => none) (q3X t x) u := by
 unfold qKT at e;split at e
 case h_2 => cases e
 rename_i k off w;split at e
 case h_2 => cases e
 rename_i el w0 l hk
 cases hc : (!spec P el && (Nat.beq off 0 && Nat.beq w l.length)) with
 | false => rw [hc] at e; cases e
 | true =>
   rw [hc] at e;simp only [cond_true] at e;rw [Bool.and_eq_true, Bool.not_eq_true'] at hc;obtain ⟨hsp, hc⟩ := hc;rw [Bool.and_eq_true] at hc;have h1 : off = 0 := Nat.eq_of_beq_eq_true hc.1;have h2 : w = l.length := Nat.eq_of_beq_eq_true hc.2;subst h1 h2;split at e
   case h_2 => cases e
   rename_i y tys' h2 hd;cases e;have hd0 := nD (k := k) ho;obtain ⟨a1, a2, a3, ys, a4, a5⟩ := qGG hd0.2 (qO hd0.1 (ho.cells _ _ _ _ hk)) hd;refine ⟨hd0.1.trans a2, a3, fun Z H m u hp hv => ?_⟩;have hkp := xY hk;have hreal : real (SO.cells el w0 l).enc := fun q => by cases q.1
   obtain ⟨w1, w2, w3, vs, q1, q2, q3⟩ := hp.real hkp hreal hsp;have hcut := Fz.del hp hkp hreal;have hfz := a4 [] (qD h'.l) (by simp [qA, qKX]);rw [List.append_nil] at hfz;rw [show qD (h.del k).l = pI k (qD h.l) from dD k _] at hfz;obtain ⟨Z2, c2, r2⟩ := qGM (fun a b c => qPC 4 a b c) hcut.hp (hcut.vrl q2) hfz;refine ⟨Z2, hcut.trans c2, ?_⟩;simp only [SV.enc] at hv
   cases hv with
   | ref g1 g2 =>
     obtain ⟨_, g3⟩ := g2 _ _ (qM hkp);obtain ⟨rfl, _⟩ := g3 (by simp [SO.enc, zF]);have hrt := qES (P := P) (M := fun _ => none) (f := rt0 P) (ts := sD P 8 el) (fun t x v h => qSH h) (r2.map (P := P) (M := fun _ => none));have h5 := a5 [];rw [List.append_nil] at h5;rw [h5] at hrt
     have hrt : VRL P Z2 H (fun _ => none) ((t.cells x).map .f) vs := by
      cases tys' <;> simpa [rtL] using hrt
     have hlen : (t.cells x).length = vs.length := by have := hrt.len; simpa using this
     refine .lp (o := 0) (vs := vs) (c2.zle _ (.inr rfl)) w1 ?_ ?_
     ·rw [hlen];exact jR q1 (by omega) (by simp)
     ·intro i y v hy hvv;have := hrt.val i (.f y) v (by rw [List.getElem?_map, hy]; rfl) hvv
      cases this with
      | f h => exact h
theorem qEF : ∀ {ts : List Ty} {vs : List SV} {h : SH} {x : TyL ts} {h' : SH}, OkH P h -> bT P ts vs h = some (x, h') ->
 Keep h h' ∧ OkH P h' ∧ ∀ (Z : Nat -> Prop) (H : IH) (m : Nat -> Nat) (us : List Value), Hp P Z H (own m (qD h.l)) -> VRL P Z H (own m (qD h.l)) (qA vs) us -> ∃ Z', Fz P Z H m (qD h.l) Z' (qD h'.l) ∧ VRL P Z' H (fun _ => none) (q7O ts x) us
 | [], [], h, x, h', ho, e => by
   unfold bT at e;cases e;refine ⟨.refl _, ho, fun Z H m us hp hv => ⟨Z, .refl hp, ?_⟩⟩;simp only [qA] at hv;rw [hv.nil_left];exact .nil
 | [t], [v], h, x, h', ho, e => by
   unfold bT at e;obtain ⟨a1, a2, a3⟩ := qCU ho e;refine ⟨a1, a2, fun Z H m us hp hv => ?_⟩;simp only [qA] at hv;obtain ⟨u, us', rfl, b1, b2⟩ := hv.uncons;obtain ⟨Z', c1, c2⟩ := a3 Z H m u hp b1;rw [b2.nil_left];exact ⟨Z', c1, .cons c2 .nil⟩
 | t :: u :: ts, v :: vs, h, x, h', ho, e => by
   unfold bT at e;split at e
   case h_2 => cases e
   rename_i x1 h1 hd;split at e
   case h_2 => cases e
   rename_i y h2 hd2;cases e;obtain ⟨a1, a2, a3⟩ := qCU ho hd;obtain ⟨b1, b2, b3⟩ := qEF a2 hd2;refine ⟨a1.trans b1, b2, fun Z H m us hp hv => ?_⟩;simp only [qA] at hv;obtain ⟨w, us', rfl, d1, d2⟩ := hv.uncons;obtain ⟨Z1, c1, c2⟩ := a3 Z H m w hp d1;obtain ⟨Z2, f1, f2⟩ := b3 Z1 H m us' c1.hp (c1.vrl d2);exact ⟨Z2, c1.trans f1, .cons (c2.mono (p := fun _ => false) f1.zle (Nat.le_refl _) (fun _ _ _ => rfl) (.refl _ _) fun j hj => by cases hj) f2⟩
 | [], _ :: _, _, _, _, _, e => by cases e
 | t :: ts, [], _, _, _, _, e => by cases ts <;> (unfold bT at e; cases e)
 | [_], _ :: _ :: _, _, _, _, _, e => by unfold bT at e; cases e
def q43 (P : Program) (G : Nat -> Bool) (f : FuncId) (ent : IEnt) : Prop := entered P f = true ∧ ∀ (x : TyL ent.as) (γ : Type) (stp : γ -> TyL ent.ys -> Option (γ × Bool)) (g0 g1 : γ), ent.F x γ stp g0 = some g1 -> ∀ (w : Wld γ) (l : Nat),
 (∀ g y g' b, stp g y = some (g', b) -> qKL P G w l g (pvL ent.ys y) g' b) -> ∀ (Z : Nat -> Prop) (H : IH) (D : Nat -> Prop) (us : List Value), (∀ b, Z b -> b < H.size) -> H.base <= H.size -> qZ5 Z H -> w.W g0 Z H D -> VRL P Z H (fun _ => none) (q7O ent.as x) us ->
 gK P G f (.func (.yield l) #[] #[] :: us) H fun r => ∃ Z' D', (∀ b, Z' b -> b < r.2.size) ∧ w.W g1 Z' r.2 D' ∧ StW Z H D Z' r.2 D'
def q5B (P : Program) (G : Nat -> Bool) (IT : List (FuncId × IEnt)) : Prop := ∀ f ent, slI f IT = some ent -> q43 P G f ent
def qDC : List Nat -> List SV -> List SV -> List SV
 | i :: is, v :: vs, env => qDC is vs (xU env i v)
 | _, _, env => env
def noSh (sh : Sh) : Bool := sh.d.isEmpty && (sh.s.isEmpty && sh.v.isEmpty)
def qZI (sh : Sh) (os : List (Nat × Bool)) (ts : List Ty) (mk : TyL ts -> Option (List SV × SH)) (h1 hh : SH) : eH Γ (GS Γ (TyL ts) × Bool) := fun e g env h => match e with
 | .normal => (match bk sh os ts mk h1 hh env h with
   | some s => .ret (gj g s, true)
   | none => .fail)
 | _ => .fail
def q6N {R : Type} (k : GV Γ -> List SV -> SH -> Tree R) : eH Γ R := fun e g env h => match e with
 | .normal => k g env h
 | _ => .fail
def rgN (nm : Nm) (l : List Nat) : Nm := ⟨nm.b, fun k => nm.p k && !qGR k l⟩
def qZ8 (P : Program) (G : Nat -> Bool) (IT : List (FuncId × IEnt)) (nm : Nm) (sh : Sh) (v : Operand) (ps : Array Tmp) (bx bY : Code) (x y : ∀ {R' : Type}, Nm -> GV Γ -> List SV -> SH -> eH Γ R' -> Tree R') (g : GV Γ) (env : List SV) (h : SH) (K : eH Γ R) : Tree R :=
 qEX P nm sh.bv env h fun env h1 => match xG env v with
  | .fn f [] caps => (match slI f IT with
    | some ent => (match bT P ent.as caps h1 with
      | some (z, h2) => (match qWS sh.o h2, tF sh.b h2, q1V sh.o h2 with
        | some b, some c, some os => (match q67 (b ++ c) with
          | some ts => (match qC8 ts (b ++ c) with
            | some s0 => cond (noSh sh && (qGW (sh.b.map (·.1)) sh.b h2 h2 && (Nat.beq ps.size ent.ys.length && (vP G v && (codeOk G true bx && codeOk G true bY)))))
               (goS (mkS P [] sh ts os env h2 s0) fun _ _ => .bind (ent.F z (GS Γ (TyL ts)) (fun s w => (goS (mkS P [] sh ts os env h2 (g2 s)) fun e hh => x (rgN nm (h2.l.map (·.1) ++ (os.map (·.1) ++ sh.b.map (·.1)))) (g1 s) (qDC ps.toList (svL ent.ys w) e) hh
                 (q6N fun g3 e3 h3 => y (rgN nm (h2.l.map (·.1) ++ (os.map (·.1) ++ sh.b.map (·.1)))) g3 e3 h3 (qZI sh os ts (mkS P [] sh ts os env h2) h2 hh))).run) (gj g s0))
                 fun q => goS (mkS P [] sh ts os env h2 (g2 q)) fun e hh => K .normal (g1 q) e hh) .fail
            | none => .fail)
          | none => .fail)
        | _, _, _ => .fail)
      | none => .fail)
    | none => .fail)
  | _ => .fail
omit [Yl] in
theorem qJB : ∀ (i : Nat) (l : List SV), blank [] i l = l
 | _, [] => rfl
 | i, x :: l => by simp [blank, qGR, qJB (i + 1) l]
omit [Yl] in
theorem qFN {sh : Sh} {ts : List Ty} {os : List (Nat × Bool)} {env e2 : List SV} {h1 h2 : SH} {s : TyL ts} (hn : noSh sh = true) (hm : mkS P [] sh ts os env h1 s = some (e2, h2)) : e2 = env := by
 unfold noSh at hn;simp only [Bool.and_eq_true, List.isEmpty_iff] at hn;unfold mkS at hm;rw [hn.1, hn.2.1] at hm;split at hm
 ·split at hm
  ·split at hm
   ·rename_i e3 hss;cases hm;have : some (blank [] 0 env) = some e2 := hss;rw [qJB] at this;exact (Option.some.inj this).symm
   ·cases hm
  ·cases hm
 ·cases hm
omit [Yl] in
theorem qIX : ∀ (ps : List Nat) (vs env : List SV), (qDC ps vs env).length = env.length
 | [], vs, env => rfl
 | i :: is, [], env => rfl
 | i :: is, v :: vs, env => by
   show (qDC is vs (xU env i v)).length = _;rw [qIX is, fF]
omit [Yl] in
theorem qOP {h : SH} : ∀ {ps : List Nat} {vs env : List SV}, okL h vs -> okL h env -> okL h (qDC ps vs env)
 | [], vs, env, _, he => he
 | i :: is, [], env, _, he => he
 | i :: is, v :: vs, env, hv, he => by
   simp only [okL] at hv;exact qOP (ps := is) hv.2 (wT he hv.1)
theorem qKA {Z : Nat -> Prop} {H : IH} {M : Nat -> Option (Nat × PO)} : ∀ {ps : List Nat} {vs env : List SV} {ws ienv : List Value}, VRL P Z H M (qA vs) ws -> VRL P Z H M (qA env) ienv -> VRL P Z H M (qA (qDC ps vs env)) ((ps.zip ws).foldl (fun e p => xU e p.1 p.2) ienv)
 | [], vs, env, ws, ienv, _, he => he
 | i :: is, [], env, ws, ienv, hv, he => by
   simp only [qA] at hv;rw [hv.nil_left];exact he
 | i :: is, v :: vs, env, ws, ienv, hv, he => by
   simp only [qA] at hv;obtain ⟨w, ws', rfl, a1, a2⟩ := hv.uncons;show VRL P Z H M (qA (qDC is vs (xU env i v))) ((is.zip ws').foldl (fun e p => xU e p.1 p.2) (xU ienv i w));refine qKA a2 ?_;rw [wM, zV, zV];exact he.set a1 i
def rgW (P : Program) (wd : Wld (GV Γ)) (env : List SV) (h0 : SH) (ienv : Env) (H0 : IH) (m0 : Nat -> Nat) (D0 : Nat -> Prop) (lp : Loop) {S : Type} (mk : S -> Option (List SV × SH)) : Wld (GS Γ S) where
 W q Z H D := ∃ e hh m Dg, mk (g2 q) = some (e, hh) ∧ St P wd (g1 q) (qA env) (qD hh.l) Z H m ienv Dg ∧ H.get H0.size = some (.loop lp) ∧ H0.size < H.size ∧ ¬ eD (own m (qD hh.l)) H0.size ∧ ¬ Dg H0.size ∧ ¬ Z H0.size ∧
  (∀ b, D b ↔ eD (own m (qD hh.l)) b ∨ Dg b ∨ b = H0.size) ∧ KR (fun _ => false) (own m0 (qD h0.l)) (own m (qD hh.l)) ∧ (∀ b, eD (own m (qD hh.l)) b -> b < H0.size -> eD (own m0 (qD h0.l)) b) ∧ (∀ b, Dg b -> b < H0.size -> D0 b) ∧ H.base = H0.base
 lt := by
  rintro g Z H D ⟨e, hh, m, Dg, a1, a2, a3, a4, a5, a6, a7, a8, _⟩ b hb;rcases (a8 b).1 hb with q | q | q
  ·exact (bH a2.hp q).1
  ·exact wd.lt a2.wd b q
  ·rw [q]; exact a4
 nz := by
  rintro g Z H D ⟨e, hh, m, Dg, a1, a2, a3, a4, a5, a6, a7, a8, _⟩ b hb;rcases (a8 b).1 hb with q | q | q
  ·exact (bH a2.hp q).2
  ·exact wd.nz a2.wd b q
  ·rw [q]; exact a7
 keep := by
  rintro g Z H D Z' H' ⟨e, hh, m, Dg, a1, a2, a3, a4, a5, a6, a7, a8, a9, a10, a11, a12⟩ hz hl hs hb hg hn;refine ⟨e, hh, m, Dg, a1, a2.other hz hl hs hb (fun b h1 h2 => hg b h1 ?_) (fun b h => hn b ((a8 b).2 ?_)), ?_, Nat.lt_of_lt_of_le a4 hs, a5, a6, hn _ ((a8 _).2 (.inr (.inr rfl))), a8, a9, a10, a11, hb.trans a12⟩
  ·rcases h2 with q | q | q
   ·exact .inl ((a8 b).2 (.inl q))
   ·exact .inl ((a8 b).2 (.inr (.inl q)))
   ·exact .inr q
  ·rcases h with q | q
   ·exact .inl q
   ·exact .inr (.inl q)
  ·rw [hg _ a4 (.inl ((a8 _).2 (.inr (.inr rfl))))]; exact a3
omit [Yl] in
theorem q1N {R : Type} {k : GV Γ -> List SV -> SH -> Tree R} {e : IExit} {g : GV Γ} {env : List SV} {h : SH} {r : R} (q : (q6N k e g env h).run = some r) : e = .normal ∧ (k g env h).run = some r := by
 cases e with
 | normal => exact ⟨rfl, q⟩
 | _ => cases q
omit [Yl] in
theorem qYA {sh : Sh} {os : List (Nat × Bool)} {ts : List Ty} {mk : TyL ts -> Option (List SV × SH)} {h1 hh : SH} {e : IExit} {g : GV Γ} {env : List SV} {h : SH} {r : GS Γ (TyL ts) × Bool} (q : (qZI sh os ts mk h1 hh e g env h).run = some r) :
 e = .normal ∧ ∃ s, bk sh os ts mk h1 hh env h = some s ∧ r = (gj g s, true) := by
 cases e with
 | normal =>
   simp only [qZI] at q;split at q
   ·rename_i s hs;cases q;exact ⟨rfl, s, hs, rfl⟩
   ·cases q
 | _ => cases q
theorem qXG {sh : Sh} {ts : List Ty} {os : List (Nat × Bool)} {env : List SV} {h2 : SH} {ienv : Env} {H0 : IH} {m0 : Nat -> Nat} {D0 : Nat -> Prop} {lp : Loop} {bx bY : Code} {x y : ∀ {R' : Type}, Nm -> GV Γ -> List SV -> SH -> eH Γ R' -> Tree R'} {wx wy : List Nat} {ent : IEnt} {ks : List Nat} {hb : SH}
 (hx : ∀ {R' : Type} {nm : Nm} {g : GV Γ} {env : List SV} {h : SH} {K : eH Γ R'} {r : R'}, OkH P h -> okL h env -> env.length = N -> Keep hb h -> (x nm g env h K).run = some r -> zC P G true nm wd bx g (qA env) (qD h.l) (EQ P N wx env h K r))
 (hy : ∀ {R' : Type} {nm : Nm} {g : GV Γ} {env : List SV} {h : SH} {K : eH Γ R'} {r : R'}, OkH P h -> okL h env -> env.length = N -> Keep hb h -> (y nm g env h K).run = some r -> zC P G true nm wd bY g (qA env) (qD h.l) (EQ P N wy env h K r))
 (ho2 : OkH P h2) (he2 : okL h2 env) (hbh : Keep hb h2) (hl : env.length = N) (hn : noSh sh = true) (hos : os.map (·.1) = sh.o) (hks : ∀ k, k ∉ ks -> k ∉ os.map (·.1) ∧ k ∉ sh.b.map (·.1) ∧ slk k h2.l = none)
 (hr1 : lp.state = .ready) (hr2 : lp.pending = none) (hr3 : lp.tmps.toList = ienv) (hr5 : lp.assign = bx) (hr6 : lp.body = bY) (hps : lp.params.size = ent.ys.length)
 {q q' : GS Γ (TyL ts)} {w : TyL ent.ys} {b : Bool} (e : (goS (mkS P [] sh ts os env h2 (g2 q)) fun e hh => x (rgN nm ks) (g1 q) (qDC lp.params.toList (svL ent.ys w) e) hh (q6N fun g3 e3 h3 => y (rgN nm ks) g3 e3 h3 (qZI sh os ts (mkS P [] sh ts os env h2) h2 hh))).run = some (q', b)) :
 qKL P G (rgW P wd env h2 ienv H0 m0 D0 lp (mkS P [] sh ts os env h2)) H0.size q (pvL ent.ys w) q' b := by
 obtain ⟨e2, hh, hm, hb2⟩ := qBD e;have he := qFN hn hm;subst he;intro Z H D ivs hz hbs hW hv;obtain ⟨e', hh', m, Dg, a1, a2, a3, a4, a5, a6, a7, a8, a9, a10, a11, a12⟩ := hW;rw [hm] at a1;cases a1;obtain ⟨m1, m2, m3, m4, m5, m6⟩ := qCW ho2 he2 hm;have hlen : ivs.length = lp.params.size := by rw [<- hv.len, <- qAU, zF, qHB, hps]
 have hokP : okL hh (qDC lp.params.toList (svL ent.ys w) e2) := qOP (qC3 _ _) m3;refine qTE a3 hr1 hlen ?_;rw [hr5, hr3]
 have hs0 : St P wd (g1 q) (qA (qDC lp.params.toList (svL ent.ys w) e2)) (qD hh.l) Z H m ((lp.params.toList.zip ivs).foldl (fun e p => xU e p.1 p.2) ienv) Dg := by
  refine ⟨a2.hp, qKA ?_ a2.vrl, a2.wd, a2.dis⟩;rw [qAU];exact q05 hv
 refine (hx m2 hokP (by rw [qIX, m4, hl]) (hbh.trans m1) hb2 Z H m _ Dg hs0 hbs).mono ?_;rintro o ⟨Z2, m2', pe3, ph3, g3, D3, st3, sd3, kr3, e3, h3, rfl, rfl, k1, k2, k3, k0, k4, k5⟩;obtain ⟨hoe, k5⟩ := q1N k5;have hl3 : ¬ eD (own m2' (qD h3.l)) H0.size := fun h => a5 (sd3.onew _ h a4)
 have hD3 : ¬ D3 H0.size := fun h => a6 (sd3.dnew _ h a4)
 have hZ3 : ¬ Z2 H0.size := fun h => by
  rcases sd3.znew _ h a4 with q | q | q
  ·exact a7 q
  ·exact a5 q
  ·exact a6 q
 have hg3 : o.H.get H0.size = some (.loop lp) := (sd3.keep _ a4 a5 a6).trans a3;refine ⟨hoe, lp, hg3, hr1, ?_⟩;subst hr6;have hlt3 : H0.size < o.H.size := Nat.lt_of_lt_of_le a4 sd3.size
 have st4 : St P wd g3 (qA e3) (qD h3.l) Z2 (o.H.put H0.size (.loop { lp with state := .busy })) m2' o.env D3 := by
  refine st3.other (fun _ h => h) st3.hp.zlt (Nat.le_refl _) rfl (fun b hb h => zT fun e => ?_) (fun b h => ?_)
  ·subst e;rcases h with h | h | h
   ·exact hl3 h
   ·exact hD3 h
   ·exact hZ3 h
  ·rcases h with h | h
   ·exact (bH st3.hp h).2
   ·exact wd.nz st3.wd b h
 have hb4 : (o.H.put H0.size (.loop { lp with state := .busy })).base <= (o.H.put H0.size (.loop { lp with state := .busy })).size := by
  show o.H.base <= o.H.size;rw [sd3.base]; exact Nat.le_trans hbs sd3.size
 refine (hy k2 k1 k3 ((hbh.trans m1).trans k0) k5 Z2 _ m2' o.env D3 st4 hb4).mono ?_;rintro s ⟨Z5, m5', pe5, ph5, g5, D5, st5, sd5, kr5, e5, h5, rfl, rfl, l1, l2, l3, l0, l4, l5⟩;obtain ⟨hse, s', hbk, hqe⟩ := qYA l5;cases hqe;have hlt4 : H0.size < (o.H.put H0.size (.loop { lp with state := .busy })).size := hlt3;have hg5 : s.H.get H0.size = some (.loop { lp with state := .busy }) := (sd5.keep _ hlt4 hl3 hD3).trans (jJ);have hl5 : ¬ eD (own m5' (qD h5.l)) H0.size := fun h => hl3 (sd5.onew _ h hlt4)
 have hD5 : ¬ D5 H0.size := fun h => hD3 (sd5.dnew _ h hlt4)
 have hZ5 : ¬ Z5 H0.size := fun h => by
  rcases sd5.znew _ h hlt4 with q | q | q
  ·exact hZ3 q
  ·exact hl3 q
  ·exact hD3 q
 have hlt5 : H0.size < s.H.size := Nat.lt_of_lt_of_le hlt4 sd5.size;refine ⟨_, hg5, ?_, ?_⟩
 ·rw [hse]; rfl
 have hlp : ({ ({ lp with state := LoopState.busy } : Loop) with state := if (yO s.e).isNone then LoopState.ready else LoopState.done, pending := yO s.e } : Loop) = lp := by
  rw [hse];cases lp;simp only at hr1 hr2;subst hr1 hr2;rfl
 show ∃ Z' D', (∀ b, Z' b -> b < (s.H.put H0.size (.loop { ({ lp with state := LoopState.busy } : Loop) with state := if (yO s.e).isNone then LoopState.ready else LoopState.done, pending := yO s.e })).size) ∧ (rgW P wd e2 h2 ienv H0 m0 D0 lp (mkS P [] sh ts os e2 h2)).W (gj g5 s') Z' (s.H.put H0.size (.loop { ({ lp with state := LoopState.busy } : Loop) with state := if (yO s.e).isNone then LoopState.ready else LoopState.done, pending := yO s.e })) D' ∧ StW Z H D Z' (s.H.put H0.size (.loop { ({ lp with state := LoopState.busy } : Loop) with state := if (yO s.e).isNone then LoopState.ready else LoopState.done, pending := yO s.e })) D';rw [hlp];unfold bk at hbk;split at hbk
 case h_2 => cases hbk
 rename_i a' b' c' ha' hb' hc';split at hbk
 case h_2 => cases hbk
 rename_i s2 hs2
 cases hc : (qZ1 os h5 && (qLZ sh.s e5 h5 && (qGW (sh.b.map (·.1)) sh.b h2 h5 && (oJ (sh.o ++ sh.b.map (·.1)) hh h5 && (mkS P [] sh ts os e2 h2 s2).isSome)))) with
 | false => rw [hc] at hbk; cases hbk
 | true =>
   rw [hc] at hbk;cases hbk;simp only [Bool.and_eq_true] at hc;obtain ⟨⟨e6, h6⟩, hm6⟩ := Option.isSome_iff_exists.1 hc.2.2.2.2;have he6 := qFN hn hm6;subst he6
   have hsd : sh.d = [] := by
    unfold noSh at hn;simp only [Bool.and_eq_true, List.isEmpty_iff] at hn;exact hn.1
   have hw2 : qA (mZ sh.d (svL ts s') (blank [] 0 e6)).2 = qA (b' ++ c') := by
    rw [hsd] at ha' ⊢;cases ha';exact (nQ hs2).symm
   obtain ⟨ho6, _, hsub⟩ := qVO l2 ho2 hb' hc' hw2 hm6 hos hc.1 hc.2.2.1 (fun k o hk hkb hk2 => qCD m2 (k0.trans l0) hc.2.2.2.1 (by rw [List.mem_append, not_or]; exact ⟨hk, hkb⟩) (by rw [m6 k (by rw [hos]; exact hk) hkb]; exact hk2));obtain ⟨_, _, _, _, _, n6⟩ := qCW ho2 he2 hm6;have hfz := Fz.drop st5.hp (qGH hsub)
   have keep : ∀ b, b < H.size -> ¬ eD (own m (qD hh.l)) b -> ¬ Dg b -> b ≠ H0.size -> s.H.get b = H.get b := fun b h1 h2 h3 h4 => by
    have g1 := sd3.keep b h1 h2 h3;have hb3 : b < o.H.size := Nat.lt_of_lt_of_le h1 sd3.size;have g2 : (o.H.put H0.size (.loop { lp with state := .busy })).get b = o.H.get b := zT h4;exact (sd5.keep b hb3 (fun h => h2 (sd3.onew b h h1)) fun h => h3 (sd3.dnew b h h1)).trans (g2.trans g1)
   have hzk : ∀ b, Z b -> b < H.size -> s.H.get b = H.get b := fun b h1 h2 => keep b h2 (fun h => (bH a2.hp h).2 h1) (fun h => wd.nz a2.wd b h h1) fun e => a7 (e ▸ h1)
   have hz5 : ∀ b, Z b -> Z5 b := fun b h => sd5.zle b (sd3.zle b h)
   have hsz : H.size <= s.H.size := Nat.le_trans sd3.size sd5.size;have hbase : s.H.base = H.base := sd5.base.trans sd3.base
   have hkr : KR (fun _ => false) (own m (qD hh.l)) (own m5' (qD h6.l)) := by
    refine KR.none ((kr3.trans kr5).trans (hfz.kr _)) fun k o hk => ?_
    rw [oO] at hk;obtain ⟨o', q1, _⟩ := Option.map_eq_some_iff.1 hk;show (nm.p k && !qGR k ks) = false
    cases hmm : qGR k ks with
    | true => simp
    | false =>
      exfalso;obtain ⟨r1, r2, r3⟩ := hks k fun hm => by rw [aF.2 hm] at hmm; cases hmm
      rw [n6 k r1 r2, r3] at q1;cases q1
   have honew : ∀ b, eD (own m5' (qD h6.l)) b -> eD (own m5' (qD h5.l)) b := fun b ⟨k, ob, h1, h2⟩ => ⟨k, ob, hfz.ownS h1, h2⟩
   have honew2 : ∀ b, eD (own m5' (qD h6.l)) b -> b < H.size -> eD (own m (qD hh.l)) b := fun b h1 h2 => sd3.onew b (sd5.onew b (honew b h1) (Nat.lt_of_lt_of_le h2 sd3.size)) h2
   have hdnew : ∀ b, D5 b -> b < H.size -> Dg b := fun b h1 h2 => sd3.dnew b (sd5.dnew b h1 (Nat.lt_of_lt_of_le h2 sd3.size)) h2
   have st6 : St P wd g5 (qA e6) (qD h6.l) Z5 s.H m5' ienv D5 := ⟨hfz.hp, a2.vrl.mono (p := fun _ => false) hz5 hsz hzk hkr (fun j hj => by cases hj), st5.wd, fun b h1 h2 => st5.dis b h1 (honew b h2)⟩
   have st7 : St P wd g5 (qA e6) (qD h6.l) Z5 (s.H.put H0.size (.loop lp)) m5' ienv D5 := by
    refine st6.other (fun _ h => h) st6.hp.zlt (Nat.le_refl _) rfl (fun b hb h => zT fun e => ?_) (fun b h => ?_)
    ·subst e;rcases h with h | h | h
     ·exact hl5 (honew _ h)
     ·exact hD5 h
     ·exact hZ5 h
    ·rcases h with h | h
     ·exact (bH st6.hp h).2
     ·exact wd.nz st6.wd b h
   refine ⟨Z5, fun b => eD (own m5' (qD h6.l)) b ∨ D5 b ∨ b = H0.size, st6.hp.zlt, ⟨e6, h6, m5', D5, by rw [q0B]; exact hm6, by rw [q1O]; exact st7, jJ, hlt5, fun h => hl5 (honew _ h), hD5, hZ5, fun b => Iff.rfl, a9.trans hkr, fun b h1 h2 => a10 b (honew2 b h1 (Nat.lt_trans h2 a4)) h2, fun b h1 h2 => a11 b (hdnew b h1 (Nat.lt_trans h2 a4)) h2, hbase.trans a12⟩, ?_⟩;refine ⟨hsz, hbase, hz5, fun b h1 _ h3 => ?_, fun b h1 h2 => ?_, fun b h1 _ => absurd h1 (qJP b), fun b h1 h2 => ?_⟩
   ·have hb : b ≠ H0.size := fun e => h3 ((a8 b).2 (.inr (.inr e)))
    exact (zT hb).trans (keep b h1 (fun h => h3 ((a8 b).2 (.inl h))) (fun h => h3 ((a8 b).2 (.inr (.inl h)))) hb)
   ·rcases sd5.znew b h1 (Nat.lt_of_lt_of_le h2 sd3.size) with h | h | h
    ·rcases sd3.znew b h h2 with h | h | h
     ·exact .inl h
     ·exact .inr (.inr ((a8 b).2 (.inl h)))
     ·exact .inr (.inr ((a8 b).2 (.inr (.inl h))))
    ·exact .inr (.inr ((a8 b).2 (.inl (sd3.onew b h h2))))
    ·exact .inr (.inr ((a8 b).2 (.inr (.inl (sd3.dnew b h h2)))))
   ·rcases h1 with h | h | h
    ·exact (a8 b).2 (.inl (honew2 b h h2))
    ·exact (a8 b).2 (.inr (.inl (hdnew b h h2)))
    ·exact (a8 b).2 (.inr (.inr h))
theorem qS4 {IT : List (FuncId × IEnt)} (s : PSet P good nat G tab) (hit : q5B P G IT) {sh : Sh} {v : Operand} {ps : Array Tmp} {bx bY : Code} {x y : ∀ {R' : Type}, Nm -> GV Γ -> List SV -> SH -> eH Γ R' -> Tree R'} {wx wy : List Nat} {hb : SH}
 (hx : ∀ {R' : Type} {nm : Nm} {g : GV Γ} {env : List SV} {h : SH} {K : eH Γ R'} {r : R'}, OkH P h -> okL h env -> env.length = N -> Keep hb h -> (x nm g env h K).run = some r -> zC P G true nm wd bx g (qA env) (qD h.l) (EQ P N wx env h K r))
 (hy : ∀ {R' : Type} {nm : Nm} {g : GV Γ} {env : List SV} {h : SH} {K : eH Γ R'} {r : R'}, OkH P h -> okL h env -> env.length = N -> Keep hb h -> (y nm g env h K).run = some r -> zC P G true nm wd bY g (qA env) (qD h.l) (EQ P N wy env h K r))
 {g : GV Γ} {env : List SV} {h : SH} {K : eH Γ R} (ho : OkH P h) (he : okL h env) (hl : env.length = N) (hbh : Keep hb h) (e : (qZ8 P G IT nm sh v ps bx bY x y g env h K).run = some r) :
 zC P G false nm wd (.rangeFunc v ps bx bY) g (qA env) (qD h.l) (EQ P N [] env h K r) := by
 obtain ⟨h1, wk1, kp1, ho1, e⟩ := oL (nm := nm) ho he e;refine zC.pre' wk1 ?_;split at e
 case h_2 => cases e
 rename_i f caps hval;split at e
 case h_2 => cases e
 rename_i ent hent;split at e
 case h_2 => cases e
 rename_i z h2 hdc;split at e
 case h_2 => cases e
 rename_i b c os hbO hcB hos;split at e
 case h_2 => cases e
 rename_i ts hts;split at e
 case h_2 => cases e
 rename_i s0 hs0;obtain ⟨hck, e⟩ := qF e;simp only [Bool.and_eq_true] at hck;obtain ⟨hn, hbx, hps, hv, hcx, hcy⟩ := hck;obtain ⟨_, hh0, hm0, e⟩ := qBD e;obtain ⟨q1, hF, e⟩ := run_bind e;obtain ⟨eq, hq, hmq, eK⟩ := qBD e;have he0 := qFN hn hm0;have heq := qFN hn hmq;subst he0;subst heq;obtain ⟨kp2, ho2, hfr⟩ := qEF ho1 hdc;have he2 : okL h2 eq := qO (kp1.trans kp2) he;have hosf := qHG hos;obtain ⟨hentd, hIt⟩ := hit f ent hent;intro Z H m ienv D hs hbs;have hpv := qE hs.vrl v;rw [qJ, hval] at hpv;simp only [SV.enc, qA] at hpv;generalize hiv : ienv.val v = iv at hpv
 cases hpv with
 | fn hf hc hfc hcc =>
 rename_i fs cs
 have hfs : fs = #[] := by
  have : fs.size = 0 := by simpa using hf.symm
  exact Array.eq_empty_of_size_eq_zero this
 subst hfs;obtain ⟨Z1, c1, r1⟩ := hfr Z H m cs.toList hs.hp ⟨by simpa using hc, fun i x v a b => hcc i x v a (by simpa using b)⟩;have hs2 : St P wd g (qA eq) (qD h2.l) Z1 H m ienv D := hs.step c1.hp (c1.vrl hs.vrl) c1.step
 have hw0 : qA (mZ sh.d (svL ts s0) (blank [] 0 eq)).2 = qA (b ++ c) := by
  have hsd : sh.d = [] := by
   unfold noSh at hn;simp only [Bool.and_eq_true, List.isEmpty_iff] at hn;exact hn.1
  rw [hsd];exact (nQ hs0).symm
 obtain ⟨ho0, _, hsub0⟩ := qVO ho2 ho2 hbO hcB hw0 hm0 hosf (qMB hos) hbx (fun k o _ _ hk => xY hk);have hfz0 := Fz.drop hs2.hp (qGH hsub0);refine s.s.rangeW hv hcx hcy hiv hentd fun lp p1 p2 p3 p4 p5 p6 => ?_
 have hHL : ∀ b, b < H.size -> (H.push (.loop lp)).get b = H.get b := fun b hb => jL hb
 have hown0 : ∀ b, eD (own m (qD hh0.l)) b -> eD (own m (qD h2.l)) b := fun b ⟨k, ob, h1, h2⟩ => ⟨k, ob, hfz0.ownS h1, h2⟩
 have hlo : ¬ eD (own m (qD hh0.l)) H.size := fun h => Nat.lt_irrefl _ (bH hfz0.hp h).1
 have hlD : ¬ D H.size := fun h => Nat.lt_irrefl _ (wd.lt hs2.wd _ h)
 have hlZ : ¬ Z1 H.size := fun h => Nat.lt_irrefl _ (c1.hp.zlt _ h)
 have st0 : St P wd g (qA eq) (qD hh0.l) Z1 H m ienv D := hs2.step hfz0.hp (hfz0.vrl hs2.vrl) hfz0.step
 have st1 : St P wd g (qA eq) (qD hh0.l) Z1 (H.push (.loop lp)) m ienv D := by
  refine st0.other (fun _ h => h) (fun b h => Nat.lt_succ_of_lt (c1.hp.zlt b h)) (Nat.le_succ _) rfl (fun b hb _ => hHL b hb) fun b h => ?_
  rcases h with h | h
  ·exact (bH hfz0.hp h).2
  ·exact wd.nz hs2.wd b h
 have hWi : (rgW P wd eq h2 ienv H m D lp (mkS P [] sh ts os eq h2)).W (gj g s0) Z1 (H.push (.loop lp)) fun b => eD (own m (qD hh0.l)) b ∨ D b ∨ b = H.size :=
  ⟨eq, hh0, m, D, by rw [q0B]; exact hm0, by rw [q1O]; exact st1, wD, Nat.lt_succ_self _, hlo, hlD, hlZ, fun b => Iff.rfl, hfz0.kr _, fun b h _ => hown0 b h, fun b h _ => h, rfl⟩
 have hcall := hIt z (GS Γ (TyL ts)) _ _ _ hF (rgW P wd eq h2 ienv H m D lp (mkS P [] sh ts os eq h2)) H.size (fun q w q' bb hstp => by
  refine qXG (Γ := Γ) (ent := ent) hx hy ho2 he2 (hbh.trans (kp1.trans kp2)) hl hn hosf (ks := h2.l.map (·.1) ++ (os.map (·.1) ++ sh.b.map (·.1))) (fun k hk => ?_) p1 p2 p3 p5 p6 ?_ (by rw [p4]; exact hstp)
  ·simp only [List.mem_append, not_or] at hk;refine ⟨hk.2.1, hk.2.2, ?_⟩
   cases hq : slk k h2.l with
   | none => rfl
   | some o => exact absurd (List.mem_map.2 ⟨(k, o), qMW hq, rfl⟩) hk.1
  ·rw [p4]; exact Nat.eq_of_beq_eq_true hps) Z1 (H.push (.loop lp)) _ cs.toList (fun b h => Nat.lt_succ_of_lt (c1.hp.zlt b h)) (Nat.le_trans hbs (Nat.le_succ _)) (c1.hp.gl.mono c1.hp.zlt (fun _ h => h) fun b _ hb => hHL b hb) hWi (r1.none (fun _ h => h) (Nat.le_succ _) (fun b hz hb => hHL b hb) fun _ => rfl)
 refine ⟨_, hcall, ?_⟩;rintro ⟨rv, H'⟩ ⟨Z', D', b1, ⟨e5, h5, m5, Dg, a1, a2, a3, a4, a5, a6, a7, a8, a9, a10, a11, a12⟩, sw⟩;rw [hmq] at a1;cases a1;refine qXA a3 p1 p2 fun lp' => ?_
 obtain ⟨n1, n2, n3, n4, n5, n6⟩ := qCW ho2 he2 hmq;have kall : Keep h hq := (kp1.trans kp2).trans n1
 have stf : St P wd (Go.Sv.g1 q1) (qA eq) (qD hq.l) Z' (H'.put H.size (.loop lp')) m5 ienv Dg := by
  refine a2.other (fun _ h => h) b1 (Nat.le_refl _) rfl (fun b hb h => zT fun e => ?_) (fun b h => ?_)
  ·subst e;rcases h with h | h | h
   ·exact a5 h
   ·exact a6 h
   ·exact a7 h
  ·rcases h with h | h
   ·exact (bH a2.hp h).2
   ·exact wd.nz a2.wd b h
 have hsz : H.size <= H'.size := Nat.le_trans (Nat.le_succ _) sw.size;refine ⟨Z', m5, qA eq, qD hq.l, Go.Sv.g1 q1, Dg, stf, ⟨hsz, a12, fun b h => sw.zle b (c1.zle b h), fun b h1 h2 h3 => ?_, fun b h1 h2 => ?_, fun b h1 h2 => ?_, fun b h1 h2 => a11 b h1 h2⟩, ((c1.kr _).trans a9).up (fun k h => by cases h), eq, hq, rfl, rfl, n3, n2, hl, kall, fun _ => ⟨n3, n2, kall, fun _ _ => rfl, rfl⟩, eK⟩
 ·have hb : b ≠ H.size := Nat.ne_of_lt h1;refine (zT hb).trans ((sw.keep b (Nat.lt_succ_of_lt h1) (qJP b) ?_).trans (hHL b h1));rintro (q | q | q)
  ·obtain ⟨k, ob, w1, w2⟩ := hown0 b q;exact h2 ⟨k, ob, c1.ownS w1, w2⟩
  ·exact h3 q
  ·exact hb q
 ·rcases sw.znew b h1 (Nat.lt_succ_of_lt h2) with q | q | q
  ·rcases c1.znew b q with q | q
   ·exact .inl q
   ·exact .inr (.inl q)
  ·exact absurd q (qJP b)
  ·rcases q with q | q | q
   ·obtain ⟨k, ob, w1, w2⟩ := hown0 b q;exact .inr (.inl ⟨k, ob, c1.ownS w1, w2⟩)
   ·exact .inr (.inr q)
   ·exact absurd q (Nat.ne_of_lt h2)
 ·obtain ⟨k, ob, w1, w2⟩ := a10 b h1 h2;exact ⟨k, ob, c1.ownS w1, w2⟩
end
end Go.Sv
namespace Go.Sv
open Go.Idl
noncomputable section
variable [Gc]
variable [Yl]
variable {P : Program} {Γ : Option Type} {R : Type} {r : R} {nm : Nm} {G : Nat -> Bool} {N : Nat} {rs : List Ty} {tab : aV} {nat : yU} {good : FuncId -> Bool} {wd : Wld (GV Γ)}
def q77 (an : An) (id : Nat) : List (Nat × TypeId) := match lkA id an.fz with
 | some l => l
 | none => []
def wr (an : An) : Code -> List Nat
 | .region id ops _ => (q77 an id).map (·.1) ++ ops.toList.filterMap (·.dst)
 | .seq a b => wr an a ++ wr an b
 | .cond _ a b => wr an a ++ wr an b
 | .block id x => match lkA id an.lp with
   | some sh => lpW (wr an x) sh
   | none => wr an x
 | .loop x => wr an x
 | .scope x => wr an x
 | _ => []
def q9M (y : GV Γ -> List SV -> SH -> eH Γ R -> Tree R) (K : eH Γ R) : eH Γ R := fun e g env h => match e with
 | .normal => y g env h K
 | e => K e g env h
def q80 (K : eH Γ R) : eH Γ R := fun e g env h => match e with
 | .goto _ => .fail
 | e => K e g env h
def q6V : Operand -> Nat
 | .tmp t => t
 | _ => 0
section
variable (P : Program) (G : Nat -> Bool) (T : kT) (IT : List (FuncId × IEnt)) (CI : CIT) (Y : YI (GV Γ)) (an : An) (rdv : List SV -> SH -> Option (TyL rs)) (en : TyL rs -> List SV) (hb : SH)
def ev : Code -> {R : Type} -> Bool -> Nm -> GV Γ -> List SV -> SH -> eH Γ R -> Tree R
 | .skip, _, _, _, g, env, h, K => K .normal g env h
 | .label _, _, _, _, g, env, h, K => K .normal g env h
 | .ret, _, _, _, g, env, h, K => K .ret g env h
 | .exit id, _, _, _, g, env, h, K => K (.exit id) g env h
 | .seq a b, _, rd, nm, g, env, h, K => ev a rd nm g env h (q9M (ev b rd nm) K)
 | .cond v a b, _, rd, nm, g, env, h, K => cond (vP G v) (match asB (xG env v) with
   | some t => .ite t (ev a rd nm g env h K) (ev b rd nm g env h K)
   | none => .fail) .fail
 | .region id ops d, _, rd, nm, g, env, h, K => fzv P nm (q77 an id) env h fun env h => q7S P G T CI Y nm ops d g env h fun g env h => K .normal g env h
 | .block id (.loop y), _, rd, nm, g, env, h, K => (match lkA id an.lp with
   | some sh => q0V P nm (lpW (wr an y) sh) rdv en hb sh id (fun {_} => ev y rd nm) g env h K
   | none => .fail)
 | .block id x, _, rd, nm, g, env, h, K => (match lkA id an.lp with
   | some _ => .fail
   | none => ev x rd nm g env h (q8F id K))
 | .scope x, _, rd, nm, g, env, h, K => ev x rd nm g env h (q80 K)
 | .rangeFunc v ps x y, _, rd, nm, g, env, h, K => (match lkA (q6V v) an.rg with
   | some sh => cond rd .fail (qZ8 P G IT nm sh v ps x y (fun {_} => ev x true) (fun {_} => ev y true) g env h K)
   | none => .fail)
 | _, _, _, _, _, _, _, _ => .fail
end
theorem EQ.go {w w2 : List Nat} {env env1 : List SV} {h h1 : SH} {K : eH Γ R} {e : IExit} {g : GV Γ} {pe : List PV} {ph : PHp} (a : gH P w env h env1 h1) (b : EQ P N w2 env1 h1 K r e g pe ph) : EQ P N (w ++ w2) env h K r e g pe ph := by
 obtain ⟨env', h', b1, b2, b3, b4, b5, b0, b6, b7⟩ := b;exact ⟨env', h', b1, b2, b3, b4, b5, a.2.2.1.trans b0, fun hne => a.trans (b6 hne), b7⟩
theorem EQ.up {w w2 : List Nat} {env : List SV} {h : SH} {K : eH Γ R} {e : IExit} {g : GV Γ} {pe : List PV} {ph : PHp} (hw : ∀ i ∈ w, i ∈ w2) (b : EQ P N w env h K r e g pe ph) : EQ P N w2 env h K r e g pe ph := by
 obtain ⟨env', h', b1, b2, b3, b4, b5, b0, b6, b7⟩ := b;exact ⟨env', h', b1, b2, b3, b4, b5, b0, fun hne => (b6 hne).up hw, b7⟩
theorem EQ.now {w : List Nat} {env : List SV} {h : SH} {K : eH Γ R} {e : IExit} {g : GV Γ} (ho : OkH P h) (he : okL h env) (hl : env.length = N) (hk : (K e g env h).run = some r) : EQ P N w env h K r e g (qA env) (qD h.l) :=
 ⟨env, h, rfl, rfl, he, ho, hl, .refl _, fun _ => (gH.refl ho he).up fun i hi => by (cases hi), hk⟩
theorem q6T {id : Nat} {w : List Nat} {env : List SV} {h : SH} {K : eH Γ R} {e : IExit} {g : GV Γ} {pe : List PV} {ph : PHp} (b : EQ P N w env h (q8F id K) r e g pe ph) : BQY id (EQ P N w env h K r) e g pe ph := by
 obtain ⟨env', h', b1, b2, b3, b4, b5, b0, b6, b7⟩ := b
 cases e with
 | normal => exact BQY.go ⟨env', h', b1, b2, b3, b4, b5, b0, b6, b7⟩
 | ret => exact BQY.rt ⟨env', h', b1, b2, b3, b4, b5, b0, b6, b7⟩
 | goto l => exact ⟨env', h', b1, b2, b3, b4, b5, b0, b6, b7⟩
 | exit i =>
   have b8 : (cond (Nat.beq i id) (K .normal g env' h') (K (.exit i) g env' h')).run = some r := b7
   cases hi : Nat.beq i id with
   | true =>
     rw [hi] at b8;have := Nat.eq_of_beq_eq_true hi;subst this;exact BQY.on ⟨env', h', b1, b2, b3, b4, b5, b0, fun _ => b6 fun h => by (cases h), b8⟩
   | false =>
     rw [hi] at b8;exact BQY.ex (fun h => by rw [h, qCK] at hi; cases hi) ⟨env', h', b1, b2, b3, b4, b5, b0, b6, b8⟩
omit [Yl] in
theorem qZD {ops : List Oper} {i : Nat} (h : i ∉ ops.filterMap (·.dst)) : some i ∉ ops.map (·.dst) := fun hm => by
 obtain ⟨o, h1, h2⟩ := List.mem_map.1 hm;exact h (List.mem_filterMap.2 ⟨o, h1, h2⟩)
theorem qCX {T : kT} {IT : List (FuncId × IEnt)} {CI : CIT} {Y : YI (GV Γ)} {an : An} {rdv : List SV -> SH -> Option (TyL rs)} {en : TyL rs -> List SV} {hb : SH} (s : PSet P good nat G tab) (ht : qWK tab T) (hit : q5B P G IT) (hci : q3Q P G CI) (hy : YOk P G wd Y) (hrd : ∀ nm, RdOk P nm N hb rdv en) :
 ∀ (c : Code) {R : Type} {rd : Bool} {nm : Nm} {g : GV Γ} {env : List SV} {h : SH} {K : eH Γ R} {r : R}, OkH P h -> okL h env -> env.length = N -> Keep hb h -> (ev P G T IT CI Y an rdv en hb c rd nm g env h K).run = some r -> zC P G rd nm wd c g (qA env) (qD h.l) (EQ P N (wr an c) env h K r)
 | .skip, _, _, _, g, env, h, K, r, ho, he, hl, hbh, e => .skip (.now ho he hl e)
 | .label _, _, _, _, g, env, h, K, r, ho, he, hl, hbh, e => .label (.now ho he hl e)
 | .ret, _, _, _, g, env, h, K, r, ho, he, hl, hbh, e => .ret (.now ho he hl e)
 | .exit id, _, _, _, g, env, h, K, r, ho, he, hl, hbh, e => .exit (.now ho he hl e)
 | .seq a b, _, rd, nm, g, env, h, K, r, ho, he, hl, hbh, e => by
   refine .seq ((qCX s ht hit hci hy hrd a ho he hl hbh e).mono fun x g' pe ph hq => ?_);obtain ⟨env', h', b1, b2, b3, b4, b5, b0, b6, b7⟩ := hq
   cases x with
   | normal =>
     have b7 : (ev P G T IT CI Y an rdv en hb b rd nm g' env' h' K).run = some r := b7;subst b1 b2;show zC P G rd nm wd b g' _ _ _;refine (qCX s ht hit hci hy hrd b b4 b3 b5 (hbh.trans b0) b7).mono fun x g' pe ph hq => ?_
     exact EQ.go (b6 fun h => by (cases h)) hq
   | exit i => exact ⟨env', h', b1, b2, b3, b4, b5, b0, fun hne => (b6 hne).up fun i hi => List.mem_append_left _ hi, b7⟩
   | ret => exact ⟨env', h', b1, b2, b3, b4, b5, b0, fun hne => absurd rfl hne, b7⟩
   | goto l => exact ⟨env', h', b1, b2, b3, b4, b5, b0, fun hne => (b6 hne).up fun i hi => List.mem_append_left _ hi, b7⟩
 | .cond v a b, _, rd, nm, g, env, h, K, r, ho, he, hl, hbh, e => by
   obtain ⟨c1, e1⟩ := qF e;split at e1
   ·rename_i t hv;have hpv : qL (qA env) v = fvv (.bool t) := by rw [qJ]; exact rH hv
    rcases run_ite e1 with ⟨z, e2⟩ | ⟨z, e2⟩
    ·exact .cond c1 hpv (fun _ => (qCX s ht hit hci hy hrd a ho he hl hbh e2).mono fun x g pe ph hq => hq.up fun i hi => List.mem_append_left _ hi) (fun hf => by rw [z] at hf; cases hf)
    ·exact .cond c1 hpv (fun hf => by rw [z] at hf; cases hf) (fun _ => (qCX s ht hit hci hy hrd b ho he hl hbh e2).mono fun x g pe ph hq => hq.up fun i hi => List.mem_append_right _ hi)
   ·cases e1
 | .region id ops d, _, rd, nm, g, env, h, K, r, ho, he, hl, hbh, e => by
   obtain ⟨env1, h1, w1, q1, e1⟩ := qZ4 (nm := nm) ho he e;refine zC.pre' w1 ((q3A s ht hci hy q1.2.1 q1.1 e1).mono ?_);rintro x g' pe ph ⟨rfl, env', h', b1, b2, b3, b4⟩;refine EQ.go q1 ⟨env', h', b1, b2, b3.1, b3.2.1, by rw [b3.2.2.2.2, q1.2.2.2.2, hl], b3.2.2.1, fun _ => ⟨b3.1, b3.2.1, b3.2.2.1, fun i hi => b3.2.2.2.1 i (qZD hi), b3.2.2.2.2⟩, b4⟩
 | .block id x, _, rd, nm, g, env, h, K, r, ho, he, hl, hbh, e => by
   cases x with
   | loop y =>
     have e1 : (match lkA id an.lp with
      | some sh => q0V P nm (lpW (wr an y) sh) rdv en hb sh id (fun {_} => ev P G T IT CI Y an rdv en hb y rd nm) g env h K
      | none => Tree.fail).run = some r := e
     split at e1
     ·rename_i sh hsh;have hw : wr an (.block id (.loop y)) = lpW (wr an y) sh := by simp only [wr, hsh]
      rw [hw];exact qXH (hrd nm) rfl (fun ho he hl hbh e => qCX s ht hit hci hy hrd y ho he hl hbh e) ho he hl hbh e1
     ·cases e1
   | _ =>
     all_goals
      have e1 := e;unfold ev at e1;split at e1
      ·cases e1
      ·rename_i hn;simp only [wr, hn];exact .block ((qCX s ht hit hci hy hrd _ ho he hl hbh e1).mono fun x g pe ph hq => q6T hq)
 | .loop _, _, _, _, _, _, _, _, _, _, _, _, _, e => by cases e
 | .rangeFunc v ps x y, _, rd, nm, g, env, h, K, r, ho, he, hl, hbh, e => by
   unfold ev at e;split at e
   ·rename_i sh hsh
    cases rd with
    | true => cases e
    | false => exact qS4 s hit (fun ho he hl hbh e => qCX s ht hit hci hy hrd x ho he hl hbh e) (fun ho he hl hbh e => qCX s ht hit hci hy hrd y ho he hl hbh e) ho he hl hbh e
   ·cases e
 | .scope x, _, rd, nm, g, env, h, K, r, ho, he, hl, hbh, e => by
   refine .scope ((qCX s ht hit hci hy hrd x ho he hl hbh e).mono fun ex g' pe ph hq => ?_);obtain ⟨env', h', b1, b2, b3, b4, b5, b0, b6, b7⟩ := hq
   cases ex with
   | goto l => cases b7
   | normal => exact ⟨fun _ h => by (cases h), env', h', b1, b2, b3, b4, b5, b0, b6, b7⟩
   | ret => exact ⟨fun _ h => by (cases h), env', h', b1, b2, b3, b4, b5, b0, b6, b7⟩
   | exit i => exact ⟨fun _ h => by (cases h), env', h', b1, b2, b3, b4, b5, b0, b6, b7⟩
 | .goto _, _, _, _, _, _, _, _, _, _, _, _, _, e => by cases e
 | .refuse _, _, _, _, _, _, _, _, _, _, _, _, _, e => by cases e
end
end Go.Sv
namespace Go.Sv
open Go.Idl
noncomputable section
variable [Gc]
variable [Yl]
variable {P : Program} {R : Type} {r : R} {nm : Nm} {G : Nat -> Bool} {N : Nat} {tab : aV} {good : FuncId -> Bool}
def rP (P : Program) (ty : TypeId) (t : Ty) : Bool := match qKY P ty with
 | some true => !t.one && (match szT P ty with
   | some n => Nat.beq n t.w
   | none => false)
 | some false => t.one
 | none => false
omit [Yl] in
theorem qQV {ty : TypeId} {t : Ty} {x : t.sem} {ph : PHp} (e : rP P ty t = true) : oQ P ty (q3X t x) ph = some (t.pv x) := by
 unfold rP at e;show qMR P ty (t.cells x) 0 = _;unfold qMR Ty.pv;split at e
 ·rename_i h1;rw [h1];simp only;split at e
  ·rename_i n hn;rw [hn];rw [Bool.and_eq_true] at e;have h2 : n = t.w := Nat.eq_of_beq_eq_true e.2;have h3 : t.one = false := by simpa using e.1
   subst h2;have h4 : Nat.ble (0 + t.w) (t.cells x).length = true := Nat.ble_eq_true_of_le (by rw [t.cells_len]; omega);simp only [h4, cond_true, h3, cond_false, List.drop_zero];rw [List.take_of_length_le (by rw [t.cells_len]; exact Nat.le_refl _)]
  ·rw [Bool.and_eq_true] at e; cases e.2
 ·rename_i h1;rw [h1];simp only [e, cond_true];rw [Ty.cells_one e];rfl
 ·cases e
def qWM : ResultVar -> Nat
 | .tmp t => t
 | .cell a _ => a
def qRI : ResultVar -> Option TypeId
 | .tmp _ => none
 | .cell _ ty => some ty
def qYW (P : Program) (c : Option TypeId) (ty : TypeId) (t : Ty) (v : SV) (h : SH) : Option (t.sem × SH) := match c with
 | none => q3O P ty t v h
 | some ty2 => cond (rP P ty2 t) (qKT P t v h) none
def qIN (c : Option TypeId) (t : Ty) (x : t.sem) : SV := match c with
 | none => t.sv x
 | some _ => .lp t [x] 0 0
def qHP (P : Program) : List (Option TypeId) -> List TypeId -> (ts : List Ty) -> List SV -> SH -> Option (TyL ts × SH)
 | [], _, [], [], h => some ((), h)
 | c :: cs, ty :: _, [t], v :: vs, h => (match cs, vs with
   | [], [] => qYW P c ty t v h
   | _, _ => none)
 | c :: cs, ty :: tys, t :: u :: ts, v :: vs, h => match qYW P c ty t v h with
   | some (x, h1) => (match qHP P cs tys (u :: ts) vs h1 with
     | some (y, h2) => some ((x, y), h2)
     | none => none)
   | none => none
 | _, _, _, _, _ => none
def svM : List (Option TypeId) -> (ts : List Ty) -> TyL ts -> List SV
 | _, [], _ => []
 | c :: _, [t], x => [qIN c t x]
 | [], [t], x => [t.sv x]
 | c :: cs, t :: u :: ts, x => qIN c t x.1 :: svM cs (u :: ts) x.2
 | [], t :: u :: ts, x => t.sv x.1 :: svM [] (u :: ts) x.2
omit [Yl] in
theorem qUY {h : SH} (c : Option TypeId) (t : Ty) (x : t.sem) : (qIN c t x).ok h := by
 cases c with
 | none => exact qK1 t x
 | some _ => simp [qIN, SV.ok]
omit [Yl] in
theorem qTP {h : SH} : ∀ (cs : List (Option TypeId)) (ts : List Ty) (x : TyL ts), okL h (svM cs ts x)
 | _, [], _ => by simp [svM, okL]
 | c :: _, [t], x => by simp only [svM, okL]; exact ⟨qUY c t x, trivial⟩
 | [], [t], x => by simp only [svM, okL]; exact ⟨qK1 t x, trivial⟩
 | c :: cs, t :: u :: ts, x => by
   show okL h (qIN c t x.1 :: svM cs (u :: ts) x.2);simp only [okL];exact ⟨qUY c t x.1, qTP cs (u :: ts) x.2⟩
 | [], t :: u :: ts, x => by
   show okL h (t.sv x.1 :: svM [] (u :: ts) x.2);simp only [okL];exact ⟨qK1 t x.1, qTP [] (u :: ts) x.2⟩
omit [Yl] in
theorem qM5 : ∀ (cs : List (Option TypeId)) (ts : List Ty) (x : TyL ts), (svM cs ts x).length = ts.length
 | _, [], _ => by simp [svM]
 | c :: _, [t], x => rfl
 | [], [t], x => rfl
 | c :: cs, t :: u :: ts, x => by
   show (qIN c t x.1 :: svM cs (u :: ts) x.2).length = _;simp only [List.length_cons, qM5 cs (u :: ts)]
 | [], t :: u :: ts, x => by
   show (t.sv x.1 :: svM [] (u :: ts) x.2).length = _;simp only [List.length_cons, qM5 [] (u :: ts)]
theorem qPQ (c : Option TypeId) (t : Ty) (x : t.sem) (Z : Nat -> Prop) (H : IH) (M M' : Nat -> Option (Nat × PO)) (v : Value) (h : VR P Z H M (qIN c t x).enc v) : VR P Z H M' (qIN c t x).enc v := by
 cases c with
 | none =>
   simp only [qIN, rZ] at h ⊢;exact bZ h (qVJ t x)
 | some _ =>
   simp only [qIN, SV.enc] at h ⊢
   cases h with
   | lp a b c d => exact .lp a b c d
theorem qNT {c : Option TypeId} {ty : TypeId} {t : Ty} {v : SV} {h : SH} {x : t.sem} {h' : SH} (ho : OkH P h) (hv : v.ok h) (e : qYW P c ty t v h = some (x, h')) :
 Keep h h' ∧ OkH P h' ∧ (∀ ty2, c = some ty2 -> rP P ty2 t = true) ∧ ∀ (Z : Nat -> Prop) (H : IH) (m : Nat -> Nat) (u : Value), Hp P Z H (own m (qD h.l)) -> VR P Z H (own m (qD h.l)) v.enc u -> ∃ Z', Fz P Z H m (qD h.l) Z' (qD h'.l) ∧ VR P Z' H (fun _ => none) (qIN c t x).enc u := by
 unfold qYW at e
 cases c with
 | none =>
   obtain ⟨y, a1, a2, a3, a4⟩ := qG7 ho hv e;refine ⟨a3, a4, fun _ h => by (cases h), fun Z H m u hp hu => ?_⟩;obtain ⟨Z', c1, c2⟩ := qI0 hp hu a1;refine ⟨Z', c1, ?_⟩;simp only [qIN, rZ];rw [<- a2];exact qKM c2
 | some ty2 =>
   simp only at e
   cases hc : rP P ty2 t with
   | false => rw [hc] at e; cases e
   | true =>
     rw [hc] at e;obtain ⟨a1, a2, a3⟩ := qCU ho e;refine ⟨a1, a2, fun _ h => by cases h; exact hc, fun Z H m u hp hu => ?_⟩;obtain ⟨Z', c1, c2⟩ := a3 Z H m u hp hu;refine ⟨Z', c1, ?_⟩;simp only [qIN, SV.enc];simpa [q3X] using c2
structure DecM (P : Program) (cs : List (Option TypeId)) (ts : List Ty) (vs : List SV) (h : SH) (x : TyL ts) (h' : SH) : Prop where
 keep : Keep h h'
 ok : OkH P h'
 fz : ∀ (Z : Nat -> Prop) (H : IH) (m : Nat -> Nat) (us : List Value), Hp P Z H (own m (qD h.l)) -> VRL P Z H (own m (qD h.l)) (qA vs) us -> ∃ Z', Fz P Z H m (qD h.l) Z' (qD h'.l) ∧ VRL P Z' H (fun _ => none) (qA (svM cs ts x)) us
 any : ∀ (Z : Nat -> Prop) (H : IH) (M M' : Nat -> Option (Nat × PO)) (us : List Value), VRL P Z H M (qA (svM cs ts x)) us -> VRL P Z H M' (qA (svM cs ts x)) us
 load : ∀ (ph : PHp) (rv : List ResultVar) (env : List PV), rv.map qRI = cs -> (rv.map fun r => (zM env (qWM r)).getD .unk) = qA (svM cs ts x) -> qFJ P env ph rv = some (pvL ts x)
theorem q4D {c : Option TypeId} {t : Ty} {x : t.sem} (hc : ∀ ty2, c = some ty2 -> rP P ty2 t = true) {ph : PHp} {r : ResultVar} {env : List PV} (h1 : qRI r = c) (h2 : (zM env (qWM r)).getD .unk = (qIN c t x).enc) : qX7 P env ph r = some (t.pv x) := by
 subst h1
 cases r with
 | tmp i =>
   show some ((zM env i).getD .unk) = _;rw [show (zM env i).getD .unk = _ from h2];simp [qRI, qIN, rZ]
 | cell a ty =>
   show oQ P ty ((zM env a).getD .unk) ph = _;rw [show (zM env a).getD .unk = _ from h2];have := qQV (x := x) (ph := ph) (hc ty rfl);simpa [qRI, qIN, SV.enc, q3X] using this
theorem qSK : ∀ {cs : List (Option TypeId)} {tys : List TypeId} {ts : List Ty} {vs : List SV} {h : SH} {x : TyL ts} {h' : SH}, OkH P h -> okL h vs -> qHP P cs tys ts vs h = some (x, h') -> DecM P cs ts vs h x h'
 | [], tys, [], [], h, x, h', ho, hv, e => by
   unfold qHP at e;cases e;refine ⟨.refl _, ho, fun Z H m us hp hu => ⟨Z, .refl hp, ?_⟩, fun Z H M M' us hu => ?_, fun ph rv env h1 h2 => ?_⟩
   ·simp only [qA] at hu;rw [hu.nil_left];simp only [svM, qA];exact .nil
   ·simp only [svM, qA] at hu ⊢;rw [hu.nil_left];exact .nil
   ·cases rv with
    | nil => rfl
    | cons _ _ => cases h1
 | c :: cs, ty :: tys, [t], v :: vs, h, x, h', ho, hv, e => by
   unfold qHP at e;split at e
   case h_2 => cases e
   simp only [okL] at hv;obtain ⟨a1, a2, a3, a4⟩ := qNT ho hv.1 e;refine ⟨a1, a2, fun Z H m us hp hu => ?_, fun Z H M M' us hu => ?_, fun ph rv env h1 h2 => ?_⟩
   ·simp only [qA] at hu;obtain ⟨u, us', rfl, b1, b2⟩ := hu.uncons;obtain ⟨Z', c1, c2⟩ := a4 Z H m u hp b1;rw [b2.nil_left];simp only [svM, qA];exact ⟨Z', c1, .cons c2 .nil⟩
   ·simp only [svM, qA] at hu ⊢;obtain ⟨u, us', rfl, b1, b2⟩ := hu.uncons;rw [b2.nil_left];exact .cons (qPQ c t x _ _ _ _ _ b1) .nil
   ·match rv, h1, h2 with
    | [r], h1, h2 =>
      simp only [List.map_cons, List.map_nil, List.cons.injEq, and_true] at h1;simp only [List.map_cons, List.map_nil, svM, qA, List.cons.injEq, and_true] at h2;unfold qFJ;rw [q4D a3 h1 h2];rfl
 | c :: cs, ty :: tys, t :: u :: ts, v :: vs, h, x, h', ho, hv, e => by
   unfold qHP at e;simp only [okL] at hv;split at e
   case h_2 => cases e
   rename_i x1 h1 hd;split at e
   case h_2 => cases e
   rename_i y h2 hd2;cases e;obtain ⟨a1, a2, a3, a4⟩ := qNT ho hv.1 hd;have ih := qSK a2 (qO a1 hv.2) hd2;have hsv : svM (c :: cs) (t :: u :: ts) (x1, y) = qIN c t x1 :: svM cs (u :: ts) y := rfl;refine ⟨a1.trans ih.keep, ih.ok, fun Z H m us hp hu => ?_, fun Z H M M' us hu => ?_, fun ph rv env g1 g2 => ?_⟩
   ·simp only [qA] at hu;obtain ⟨w, us', rfl, b1, b2⟩ := hu.uncons;obtain ⟨Z1, d1, d2⟩ := a4 Z H m w hp b1;obtain ⟨Z2, f1, f2⟩ := ih.fz Z1 H m us' d1.hp (d1.vrl b2);rw [hsv];simp only [qA];exact ⟨Z2, d1.trans f1, .cons (d2.mono (p := fun _ => false) f1.zle (Nat.le_refl _) (fun _ _ _ => rfl) (.refl _ _) fun j hj => by cases hj) f2⟩
   ·rw [hsv] at hu ⊢;simp only [qA] at hu ⊢;obtain ⟨w, us', rfl, b1, b2⟩ := hu.uncons;exact .cons (qPQ c t x1 _ _ _ _ _ b1) (ih.any _ _ _ _ _ b2)
   ·cases rv with
    | nil => cases g1
    | cons r rv =>
      rw [hsv] at g2;simp only [List.map_cons, List.cons.injEq] at g1;simp only [List.map_cons, qA, List.cons.injEq] at g2;unfold qFJ;rw [q4D a3 g1.1 g2.1, ih.load ph rv env g1.2 g2.2];rfl
 | [], _, [], _ :: _, _, _, _, _, _, e => by unfold qHP at e; cases e
 | [], [], [_], _, _, _, _, _, _, e => by unfold qHP at e; cases e
 | [], [], _ :: _ :: _, _, _, _, _, _, _, e => by unfold qHP at e; cases e
 | [], _ :: _, [_], _, _, _, _, _, _, e => by unfold qHP at e; cases e
 | [], _ :: _, _ :: _ :: _, _, _, _, _, _, _, e => by unfold qHP at e; cases e
 | _ :: _, [], [], _, _, _, _, _, _, e => by unfold qHP at e; cases e
 | _ :: _, _ :: _, [], _, _, _, _, _, _, e => by unfold qHP at e; cases e
 | _ :: _, [], [_], _, _, _, _, _, _, e => by unfold qHP at e; cases e
 | _ :: _, [], _ :: _ :: _, _, _, _, _, _, _, e => by unfold qHP at e; cases e
 | _ :: _, _ :: _, [_], [], _, _, _, _, _, e => by unfold qHP at e; cases e
 | _ :: _, _ :: _, _ :: _ :: _, [], _, _, _, _, _, e => by unfold qHP at e; cases e
def rdR (P : Program) (hb : SH) (tids : List TypeId) (rs : List Ty) (rv : List ResultVar) (env : List SV) (h : SH) : Option (TyL rs) := match qIK (rv.map qWM) env with
 | some vs => (match qHP P (rv.map qRI) tids rs vs h with
   | some p => cond (oJ [] hb p.2) (some p.1) none
   | none => none)
 | none => none
def enR (N : Nat) (rv : List ResultVar) (rs : List Ty) (v : TyL rs) : List SV := (mZ (rv.map qWM) (svM (rv.map qRI) rs v) (List.replicate N .unk)).1
omit [Yl] in
theorem qNH (h : SH) : ∀ (n : Nat), okL h (List.replicate n .unk)
 | 0 => by simp [okL]
 | n + 1 => by rw [List.replicate_succ]; simp only [okL]; exact ⟨by simp [SV.ok], qNH h n⟩
theorem qGA : ∀ (n : Nat), qA (List.replicate n .unk) = List.replicate n .unk
 | 0 => by simp [qA]
 | n + 1 => by rw [List.replicate_succ, List.replicate_succ]; simp only [qA, qGA n, SV.enc]
theorem qNV {Z : Nat -> Prop} {H : IH} {M : Nat -> Option (Nat × PO)} {vals : List Value} : ∀ {rl : List Nat} {l base : List SV} {ws : List Value}, (∀ (j i : Nat), rl[j]? = some i -> vals[i]? = ws[j]?) -> VRL P Z H M (qA l) ws -> VRL P Z H M (qA base) vals -> VRL P Z H M (qA (mZ rl l base).1) vals
 | [], l, base, ws, _, _, hb => hb
 | i :: is, [], base, ws, _, _, hb => hb
 | i :: is, c :: l, base, ws, hc, hl, hb => by
   simp only [qA] at hl;obtain ⟨w, ws', rfl, h1, h2⟩ := hl.uncons;show VRL P Z H M (qA (mZ is l (xU base i c)).1) vals;refine qNV (ws := ws') (fun j k hj => by simpa using hc (j + 1) k (by simpa using hj)) h2 ?_;rw [wM];exact hb.slot (v := w) (by simpa using hc 0 i rfl) h1
theorem qO5 {Z : Nat -> Prop} {H : IH} {M : Nat -> Option (Nat × PO)} {env : List SV} {vals : List Value} (hv : VRL P Z H M (qA env) vals) : ∀ {rl : List Nat} {vs : List SV}, qIK rl env = some vs -> ∃ ws, VRL P Z H M (qA vs) ws ∧ ∀ (j i : Nat), rl[j]? = some i -> vals[i]? = ws[j]?
 | [], vs, e => by cases e; exact ⟨[], by simp only [qA]; exact .nil, fun j i h => by simp at h⟩
 | i :: is, vs, e => by
   unfold qIK at e;split at e
   ·rename_i v l hx hl;cases e;obtain ⟨ws, h1, h2⟩ := qO5 hv hl;have hx2 : (qA env)[i]? = some v.enc := by rw [<- qH, xO, hx]; rfl
    obtain ⟨w, hw, hr⟩ := hv.get hx2;refine ⟨w :: ws, by simp only [qA]; exact .cons hr h1, fun j k hj => ?_⟩
    cases j with
    | zero => simp at hj; subst hj; simpa using hw
    | succ j => simpa using h2 j k (by simpa using hj)
   ·cases e
omit [Yl] in
theorem q09 {Z : Nat -> Prop} {H : IH} {M : Nat -> Option (Nat × PO)} {vals : List Value} : VRL P Z H M (List.replicate vals.length .unk) vals := ⟨by simp, fun i z v h1 h2 => by
 rw [List.getElem?_replicate] at h1;split at h1
 ·cases h1; exact .unk
 ·cases h1⟩
omit [Yl] in
theorem qF6 {env : List SV} : ∀ {rl : List Nat} {vs : List SV}, qIK rl env = some vs -> ∀ z ∈ vs, z ∈ env
 | [], vs, e, z, hz => by cases e; cases hz
 | i :: is, vs, e, z, hz => by
   unfold qIK at e;split at e
   ·rename_i v l hx hl;cases e;rcases List.mem_cons.1 hz with q | q
    ·subst q; rw [qH] at hx; exact List.mem_of_getElem? hx
    ·exact qF6 hl z q
   ·cases e
theorem qM0 {hb : SH} {tids : List TypeId} {rs : List Ty} {rv : List ResultVar} {env : List SV} {h : SH} {v : TyL rs} (ho : OkH P h) (he : okL h env) (e : rdR P hb tids rs rv env h = some v) :
 ∃ vs h', qIK (rv.map qWM) env = some vs ∧ DecM P (rv.map qRI) rs vs h v h' ∧ oJ [] hb h' = true := by
 unfold rdR at e;split at e
 case h_2 => cases e
 rename_i vs hvs;split at e
 case h_2 => cases e
 rename_i p hp;obtain ⟨x, h'⟩ := p
 cases hc : oJ [] hb h' with
 | false => rw [hc] at e; cases e
 | true =>
   rw [hc] at e;cases e;exact ⟨vs, h', hvs, qSK ho (xA.2 fun z hz => xA.1 he z (qF6 hvs z hz)) hp, hc⟩
theorem qZP {hb : SH} (hob : OkH P hb) {tids : List TypeId} {rs : List Ty} {rv : List ResultVar} : RdOk P nm N hb (rdR P hb tids rs rv) (enR N rv rs) := by
 refine ⟨hob, fun env h v ho he hl hbh e => ?_, fun env h v ho he hbh e k o hk => ?_, fun v => by unfold enR; rw [qFF, List.length_replicate], fun v h => qM9 (qTP _ rs v) (qNH h N)⟩
 ·obtain ⟨vs, h', hvs, hd, hkp⟩ := qM0 ho he e;intro Z H m vals hh hv;obtain ⟨ws, h1, h2⟩ := qO5 hv hvs;obtain ⟨Z', c1, r2⟩ := hd.fz Z H m ws hh h1;have hdr := Fz.drop c1.hp (ph' := qD hb.l) (qGH fun k o hk => qCD hob (hbh.trans hd.keep) hkp (by simp) hk);have hlen : vals.length = N := by rw [<- hv.len, zF, hl]
  refine ⟨Z', m, hdr.hp, ?_, c1.step.trans hdr.step, (c1.kr _).trans (hdr.kr _)⟩;unfold enR;refine qNV h2 (hd.any _ _ _ _ _ r2) ?_;rw [qGA, <- hlen];exact q09
 ·obtain ⟨vs, h', hvs, hd, hkp⟩ := qM0 ho he e;have := qNZ hob (hbh.trans hd.keep) hkp (by simp) hk;exact hd.keep.same k o this (Nat.lt_of_lt_of_le (hob.ver k o hk) hbh.next)
omit [Yl] in
theorem qE6 {ty : TypeId} : ∀ (t : Ty) (x : t.sem) (c : FV), c ∈ t.cells x -> rt0 P ty (.f c) = .f c
 | .int _, x, c, h => by simp only [Ty.cells, List.mem_singleton] at h; subst h; rfl
 | .bool, x, c, h => by simp only [Ty.cells, List.mem_singleton] at h; subst h; rfl
 | .str, x, c, h => by simp only [Ty.cells, List.mem_singleton] at h; subst h; rfl
 | .raw, x, c, h => by simp only [Ty.cells, List.mem_singleton] at h; subst h; rfl
 | .list _ _, x, c, h => by simp only [Ty.cells, List.mem_singleton] at h; subst h; rfl
 | .unit, x, c, h => by cases h
 | .pair a b, x, c, h => by
   have h : c ∈ a.cells x.1 ++ b.cells x.2 := h;rcases List.mem_append.1 h with q | q
   ·exact qE6 a _ _ q
   ·exact qE6 b _ _ q
omit [Yl] in
theorem qSS {f : TypeId -> PV -> PV} : ∀ {ts : List TypeId} {xs : List PV}, (∀ t x, x ∈ xs -> f t x = x) -> rtL f ts xs = xs
 | [], xs, _ => by cases xs <;> rfl
 | t :: ts, [], _ => rfl
 | t :: ts, x :: xs, h => by
   show f t x :: rtL f ts xs = _;rw [h t x List.mem_cons_self, qSS fun t y hy => h t y (List.mem_cons_of_mem _ hy)]
omit [Yl] in
theorem q37 {ty : TypeId} (t : Ty) (x : t.sem) : rt1 P ty (t.pv x) = t.pv x := by
 unfold Ty.pv
 cases ht : t.one with
 | true => exact qJ3 ht
 | false =>
   show PV.agg (rtL (rt0 P) (sD P 8 ty) ((t.cells x).map .f)) = _;rw [qSS]
   ·rfl
   ·intro ty2 y hy;obtain ⟨c, hc, rfl⟩ := List.mem_map.1 hy;exact qE6 t x c hc
omit [Yl] in
theorem q5W (t : Ty) (x : t.sem) (ph : PHp) : fzP P ph (t.pv x) = some (t.pv x, ph) := by
 unfold Ty.pv
 cases t.one with
 | true => rfl
 | false => simp only [cond_false, fzP, qF4]
omit [Yl] in
theorem qZQ {ph : PHp} : ∀ {xs : List PV}, (∀ y ∈ xs, fzP P ph y = some (y, ph)) -> fzA P xs ph = some (xs, ph)
 | [], _ => rfl
 | x :: xs, h => by
   simp only [fzA, h x List.mem_cons_self, qZQ fun y hy => h y (List.mem_cons_of_mem _ hy)]
omit [Yl] in
theorem q3H (rs : List Ty) (x : TyL rs) (ph : PHp) : fzR P ph (wG rs x) = some (wG rs x) := by
 have hm : ∀ y ∈ pvL rs x, ∃ (t : Ty) (z : t.sem), y = t.pv z := fun y hy => rA hy
 unfold wG;generalize pvL rs x = l at hm
 have hz : ∀ y ∈ l, fzP P ph y = some (y, ph) := fun y hy => by
  obtain ⟨t, z, rfl⟩ := hm y hy;exact q5W t z ph
 match l, hm, hz with
 | [], _, hz => rfl
 | [v], hm, hz =>
   obtain ⟨t, z, rfl⟩ := hm v List.mem_cons_self;have := hz _ List.mem_cons_self;show fzR P ph (t.pv z) = some (t.pv z);unfold fzR;unfold Ty.pv at this ⊢
   cases ht : t.one with
   | true => rw [ht] at this; simp only [cond_true] at this ⊢; rw [this]
   | false => rw [ht] at this; simp only [cond_false] at this ⊢; rw [this]
 | a :: b :: l, _, hz =>
   show (match fzA P (a :: b :: l) ph with
    | some (ys, _) => some (PV.tup ys)
    | none => none) = _
   rw [qZQ hz]; rfl
omit [Yl] in
theorem qU0 (rs : List Ty) (x : TyL rs) : q3K (wG rs x) = true := by
 have hm : ∀ y ∈ pvL rs x, qRE y = true := fun y hy => by
  obtain ⟨t, z, rfl⟩ := rA hy;exact qVJ t z
 have hm2 : ∀ y ∈ pvL rs x, ∃ (t : Ty) (z : t.sem), y = t.pv z := fun y hy => rA hy
 unfold wG;generalize pvL rs x = l at hm hm2
 match l, hm, hm2 with
 | [], _, _ => rfl
 | [v], hm, hm2 =>
   have h1 := hm v List.mem_cons_self;obtain ⟨t, z, rfl⟩ := hm2 v List.mem_cons_self;show q3K (t.pv z) = true;unfold Ty.pv at h1 ⊢
   cases ht : t.one with
   | true => rfl
   | false => rw [ht] at h1; exact h1
 | a :: b :: l, hm, _ => exact List.all_eq_true.2 hm
def qOJ : List Nat -> Bool
 | [] => true
 | i :: l => !qGR i l && qOJ l
omit [Yl] in
theorem qPR : ∀ {rl : List Nat} {l base : List SV}, qOJ rl = true -> rl.length = l.length -> (∀ i ∈ rl, i < base.length) -> ∀ (j i : Nat), rl[j]? = some i -> zM (mZ rl l base).1 i = l[j]?
 | [], l, base, _, _, _, j, i, h => by simp at h
 | k :: is, [], base, _, hl, _, j, i, h => by simp at hl
 | k :: is, c :: l, base, hn, hl, hb, j, i, h => by
   unfold qOJ at hn;rw [Bool.and_eq_true] at hn
   have hk : k ∉ is := fun hm => by
    have := aF.2 hm;rw [this] at hn;exact absurd hn.1 (by simp)
   show zM (mZ is l (xU base k c)).1 i = _
   cases j with
   | zero =>
     simp at h;subst h;rw [qFC hk, zV, qH, List.getElem?_set, if_pos rfl, if_pos (hb k List.mem_cons_self)];rfl
   | succ j =>
     have h2 : is[j]? = some i := by simpa using h
     rw [qPR (rl := is) (l := l) hn.2 (by simpa using hl) (fun i hi => by rw [fF]; exact hb i (List.mem_cons_of_mem _ hi)) j i h2];rfl
def q8N {rs : List Ty} (rdv : List SV -> SH -> Option (TyL rs)) : eH none (TyL rs) := fun e _ env h => match e with
 | .normal => rdv env h
 | .ret => rdv env h
 | _ => none
def nm0 : Nm := ⟨0, fun _ => true⟩
def fnS (P : Program) (G : Nat -> Bool) (T : kT) (IT : List (FuncId × IEnt)) (CI : CIT) (an : An) (as rs : List Ty) (fn : Func) (x : TyL as) : Option (TyL rs) := match fn.body with
 | some c => (ev (Γ := none) P G T IT CI yi0 an (rdR P ⟨0, []⟩ fn.resultTypes.toList rs fn.results.toList) (enR fn.ntmps fn.results.toList rs) ⟨0, []⟩ c false nm0 () (svL as x ++ List.replicate (fn.ntmps - as.length) .unk) ⟨0, []⟩ (q8N (rdR P ⟨0, []⟩ fn.resultTypes.toList rs fn.results.toList))).run
 | none => none
def qSD (as rs : List Ty) (fn : Func) : Bool := match fn.body with
 | some _ => qOJ (fn.results.toList.map qWM) && (Nat.beq fn.results.toList.length rs.length && (Nat.ble as.length fn.ntmps && (fn.results.toList.map qWM).all fun i => Nat.blt i fn.ntmps))
 | none => false
omit [Yl] in
theorem Runs.postW {rd : Bool} {c : Code} {env : List PV} {ph : PHp} {Q : PQ} (h : Runs P G rd nm c env ph fun e pe p => ∃ pe' p', Wk P nm pe p pe' p' ∧ Q e pe' p') : Runs P G rd nm c env ph Q := by
 intro Z H m ienv hp hb he;refine (h Z H m ienv hp hb he).mono ?_;rintro o ⟨Z', m', env', ph', a, b, c, d, pe', p', hw, e⟩;obtain ⟨Z1, m1, a1, a2, a3, a4⟩ := hw Z' o.H m' o.env a b;exact ⟨Z1, m1, pe', p', a1, a2, c.trans a3, d.trans a4, e⟩
theorem q8O : YOk P G (Γ := GV none) q58 yi0 := fun g y g' b h => by cases h
theorem q7L {nat : yU} {T : kT} {IT : List (FuncId × IEnt)} {CI : CIT} {an : An} {as rs : List Ty} {g : FuncId} {fn : Func} (s : PSet P good nat G tab) (ht : qWK tab T) (hit : q5B P G IT) (hci : q3Q P G CI) (hfn : P.funcs[g]? = some fn) (hc : qSD as rs fn = true) :
 q79 P G g nm0 (enL as) (fnS P G T IT CI an as rs fn) (wG rs) := by
 unfold qSD at hc;split at hc
 case h_2 => cases hc
 rename_i c hbody;simp only [Bool.and_eq_true] at hc;obtain ⟨c1, c2, c3, c4⟩ := hc;refine ⟨fn, c, hfn, hbody, fun x y hF => ⟨fn.ntmps, rfl, ?_⟩⟩;unfold fnS at hF;rw [hbody] at hF;have hF : (ev (Γ := none) P G T IT CI yi0 an (rdR P ⟨0, []⟩ fn.resultTypes.toList rs fn.results.toList) (enR fn.ntmps fn.results.toList rs) ⟨0, []⟩ c false nm0 () (svL as x ++ List.replicate (fn.ntmps - as.length) .unk) ⟨0, []⟩ (q8N (rdR P ⟨0, []⟩ fn.resultTypes.toList rs fn.results.toList))).run = some y := hF;have hal : as.length <= fn.ntmps := Nat.le_of_ble_eq_true c3
 have hlen : (svL as x ++ List.replicate (fn.ntmps - as.length) SV.unk).length = fn.ntmps := by
  rw [List.length_append, qHB, List.length_replicate]; omega
 have hrd : ∀ nm, RdOk P nm fn.ntmps ⟨0, []⟩ (rdR P ⟨0, []⟩ fn.resultTypes.toList rs fn.results.toList) (enR fn.ntmps fn.results.toList rs) := fun nm => qZP qV2
 have henv : (enL as).p x ++ List.replicate (fn.ntmps - ((enL as).p x).length) PV.unk = qA (svL as x ++ List.replicate (fn.ntmps - as.length) .unk) := by
  have : (enL as).p x = qA (svL as x) := (qAU as x).symm;rw [qAM, qGA, this, zF, qHB]
 rw [henv];have hrun := zC.runs (qCX (Γ := none) (wd := q58) s ht hit hci q8O hrd c qV2 (mV (qC3 as x) (qNH _ _)) hlen (.refl _) hF);refine Runs.postW (hrun.mono ?_);rintro e pe ph ⟨env', h', rfl, rfl, k1, k2, k3, k0, k4, k5⟩
 obtain ⟨he, hr⟩ : (e = .normal ∨ e = .ret) ∧ rdR P ⟨0, []⟩ fn.resultTypes.toList rs fn.results.toList env' h' = some y := by
  cases e with
  | normal => exact ⟨.inl rfl, k5⟩
  | ret => exact ⟨.inr rfl, k5⟩
  | exit _ => cases k5
  | goto _ => cases k5
 obtain ⟨_, _, _, hd, _⟩ := qM0 k2 k1 hr;refine ⟨_, _, (hrd nm0).wk _ _ _ k2 k1 k3 k0 hr, he, wG rs y, ?_, q3H rs y _⟩;unfold fO;have hll : (fn.results.toList.map qWM).length = (svM (fn.results.toList.map qRI) rs y).length := by rw [qM5, List.length_map]; exact Nat.eq_of_beq_eq_true c2
 have hl2 : (fn.results.toList.map fun r => (zM (qA (enR fn.ntmps fn.results.toList rs y)) (qWM r)).getD PV.unk) = qA (svM (fn.results.toList.map qRI) rs y) := by
  apply List.ext_getElem?;intro j;rw [List.getElem?_map, qZ (svM _ rs y), List.getElem?_map]
  cases hj : fn.results.toList[j]? with
  | none =>
    have : (svM (fn.results.toList.map qRI) rs y)[j]? = none := by
     rw [List.getElem?_eq_none_iff] at hj ⊢;rw [List.length_map] at hll;omega
    rw [this]; rfl
  | some rr =>
    have hg := qPR (l := svM (fn.results.toList.map qRI) rs y) (base := List.replicate fn.ntmps .unk) c1 hll (fun i hi => by
     have := List.all_eq_true.1 c4 i hi;rw [List.length_replicate]
     exact Nat.le_of_ble_eq_true this) j (qWM rr) (by rw [List.getElem?_map, hj]; rfl)
    simp only [Option.map_some];rw [xO];unfold enR;rw [hg]
    have hlt : j < (svM (fn.results.toList.map qRI) rs y).length := by
     rw [<- hll, List.length_map]; exact (List.getElem?_eq_some_iff.1 hj).1
    rw [List.getElem?_eq_getElem hlt];rfl
 rw [hd.load _ fn.results.toList _ rfl hl2];show some (qDK (rtL (rt1 P) fn.resultTypes.toList (pvL rs y))) = some (wG rs y)
 rw [qSS fun t z hz => by
  obtain ⟨t', z', rfl⟩ := rA hz
  exact q37 t' z']
 rfl
end
end Go.Sv
namespace Go.Sv
open Go.Idl
variable {P : Program}
def q3Z (s : ByteArray) (c : Int) : Int := s.foldl (fun n x => if x == c.toNat.toUInt8 then n + 1 else n) ((0 : Nat) : Int)
def qRF (s : ByteArray) (c : Int) : Int := match (List.range s.size).find? (fun i => s[i]! == c.toNat.toUInt8) with
 | some i => (i : Int)
 | none => -1
def q8K (fn : Func) : Nat := cond (fn.body.isNone && fn.origin == "") (cond (fn.name == "internal/bytealg.CountString") 1 (cond (fn.name == "internal/bytealg.IndexByteString") 2 0)) 0
def q4O (P : Program) (g : FuncId) : Nat := match P.funcs[g]? with
 | some fn => q8K fn
 | none => 0
theorem qSW {P : Program} {g : FuncId} {n : Nat} (h : q4O P g = n + 1) : ∃ fn, P.funcs[g]? = some fn ∧ fn.body = none ∧ fn.origin = "" ∧ qWO P g = true ∧ ((n = 0 ∧ fn.name = "internal/bytealg.CountString") ∨ (n = 1 ∧ fn.name = "internal/bytealg.IndexByteString")) := by
 unfold q4O at h;split at h
 case h_2 => cases h
 rename_i fn hfn;unfold q8K at h
 cases hc : (fn.body.isNone && fn.origin == "") with
 | false => rw [hc] at h; cases h
 | true =>
   rw [hc] at h;simp only [cond_true] at h;rw [Bool.and_eq_true] at hc
   have ho : fn.origin = "" := by simpa using hc.2
   have hb : fn.body = none := by simpa using hc.1
   have hx : ∀ s, fn.name = s -> (s == "internal/abi.NoEscape") = false -> qWO P g = true := fun s hs h0 => by
    unfold qWO;rw [hfn];simp only;rw [hc.1, hs, h0]; rfl
   refine ⟨fn, hfn, hb, ho, ?_⟩
   cases h1 : (fn.name == "internal/bytealg.CountString") with
   | true =>
     rw [h1] at h
     have h1 : fn.name = "internal/bytealg.CountString" := by simpa using h1
     have h : 1 = n + 1 := h;exact ⟨hx _ h1 (by decide), .inl ⟨by omega, h1⟩⟩
   | false =>
     rw [h1] at h
     cases h2 : (fn.name == "internal/bytealg.IndexByteString") with
     | true =>
       rw [h2] at h
       have h2 : fn.name = "internal/bytealg.IndexByteString" := by simpa using h2
       have h : 2 = n + 1 := h;exact ⟨hx _ h2 (by decide), .inr ⟨by omega, h2⟩⟩
     | false => rw [h2] at h; cases h
theorem dX {α β : Type} (s : Sem α) (g : α -> Sem β) : xK P (s >>= g) = (xK P s).bind fun a => xK P (g a) := vL g s
theorem q7B : xK P program = some P := rfl
theorem q6X {q : Mark} : xK P (mark q) = some () := rfl
theorem qNC {g : FuncId} {fn : Func} {e : Array Value -> Sem Value} {vs : Array Value} {v : Value} (hfn : P.funcs[g]? = some fn) (hb : fn.body = none) (hn : (fn.name == "runtime.NumGoroutine") = false) (h1 : Extern.findNext fn = none) (h2 : Extern.find fn = some e) (h3 : xK P (e vs) = some v) :
 xK P (callFunc g vs) = some (.value v) := by
 unfold callFunc;rw [dX, q7B, Option.bind_some, hfn];simp only [hn, Bool.false_eq_true, if_false, hb, Option.isNone_none, if_true, h1, h2];rw [dX, q6X, Option.bind_some];show xK P (do pure (Next.value (<- e vs))) = _;rw [dX, h3];rfl
theorem qQH {fn : Func} (h : fn.name = "internal/bytealg.CountString") (ho : fn.origin = "") : Extern.findNext fn = none ∧ Extern.find fn = some Extern.BytealgCount.count := by
 unfold Extern.findNext Extern.find;simp only [h, ho];exact ⟨by kernel_rfl, by kernel_rfl⟩
theorem find_index {fn : Func} (h : fn.name = "internal/bytealg.IndexByteString") (ho : fn.origin = "") : Extern.findNext fn = none ∧ Extern.find fn = some Extern.BytealgIndexByte.indexByte := by
 unfold Extern.findNext Extern.find;simp only [h, ho];exact ⟨by kernel_rfl, by kernel_rfl⟩
theorem qVU {g : FuncId} {s : ByteArray} {c : Int} (h : q4O P g = 1) : qWO P g = true ∧ xK P (callFunc g #[.string s, .int .u8 c]) = some (.value (.int .i64 (q3Z s c))) := by
 obtain ⟨fn, h1, h2, h3, h4, h5⟩ := qSW (n := 0) h
 rcases h5 with ⟨_, h5⟩ | ⟨h6, _⟩
 ·obtain ⟨a, b⟩ := qQH h5 h3;refine ⟨h4, qNC h1 h2 (by rw [h5]; decide) a b ?_⟩;show xK P (do let b <- Extern.Bytes.bytesOf (.string s); let c <- Extern.Bytes.asByte (.int .u8 c); pure (goInt (b.foldl (fun n x => if x == c then n + 1 else n) (0 : Nat)))) = _;rw [dX, show xK P (Extern.Bytes.bytesOf (.string s)) = some s from rfl, Option.bind_some, dX, show xK P (Extern.Bytes.asByte (.int .u8 c)) = some c.toNat.toUInt8 from rfl, Option.bind_some];rfl
 ·cases h6
theorem qR1 {g : FuncId} {s : ByteArray} {c : Int} (h : q4O P g = 2) : qWO P g = true ∧ xK P (callFunc g #[.string s, .int .u8 c]) = some (.value (.int .i64 (qRF s c))) := by
 obtain ⟨fn, h1, h2, h3, h4, h5⟩ := qSW (n := 1) h
 rcases h5 with ⟨h6, _⟩ | ⟨_, h5⟩
 ·cases h6
 ·obtain ⟨a, b⟩ := find_index h5 h3;refine ⟨h4, qNC h1 h2 (by rw [h5]; decide) a b ?_⟩
  show xK P (match (List.range s.size).find? (fun i => s[i]! == c.toNat.toUInt8) with
   | some i => pure (goInt i)
   | none => pure (goInt (-1))) = _
  unfold qRF;cases (List.range s.size).find? (fun i => s[i]! == c.toNat.toUInt8) <;> rfl
noncomputable section
variable [Gc]
class Hnd where
 ci : CIT
class HndOk (P : Program) (G : Nat -> Bool) [Hnd] : Prop where
 ok : ∀ [Yl], q3Q P G Hnd.ci
instance (priority := low) hnd0 : Hnd := ⟨fun _ _ _ _ _ _ => .fail⟩
instance (priority := low) hndOk0 {G : Nat -> Bool} : @HndOk _ P G hnd0 := by
 letI : Hnd := hnd0
 refine ⟨fun {_} => ?_⟩;intro R nm f as h K r ho ha e;cases e
variable [Yl] {R : Type} {r : R} {G : Nat -> Bool}
def q59 (P : Program) (f : FuncId) (as : List SV) (h : SH) (K : SV -> SH -> Tree R) (F : Tree R) : Tree R := match q4O P f, as with
 | 1, [x, y] => (match asS x, asI y with
   | some s, some (.u8, c) => K (.d (.int .i64) (q3Z s c)) h
   | _, _ => .fail)
 | 2, [x, y] => (match asS x, asI y with
   | some s, some (.u8, c) => K (.d (.int .i64) (qRF s c)) h
   | _, _ => .fail)
 | _, _ => F
end
end Go.Sv
namespace Go.Sv
open Go.Idl
noncomputable section
variable [Gc]
variable [Yl]
variable {P : Program} {G : Nat -> Bool} {nm : Nm} {tab : aV} {nat : yU} {good : FuncId -> Bool} {T : kT} {IT : List (FuncId × IEnt)}
omit [Yl] in
theorem qWY {g : FuncId} {fn : Func} {c : Code} {N : Nat} {args : List PV} {ph : PHp} {R : PV -> PHp -> Prop} (hent : enters P g = true) (hfn : P.funcs[g]? = some fn) (hb : fn.body = some c) (hN : fn.ntmps = N)
 (h : Runs P G false nm c (args ++ List.replicate (N - args.length) .unk) ph fun e pe p => (e = .normal ∨ e = .ret) ∧ ∃ v, fO P fn pe p = some v ∧ R v p) :
 qG2 P G nm g args ph R := by
 refine .inr ⟨hent, fun Z H m iargs hp hbs hv => ?_⟩;refine gK.of hfn hb hN ?_
 have henv : VRL P Z H (own m ph) (args ++ List.replicate (N - args.length) .unk) (iargs ++ List.replicate (N - iargs.length) undef) := by
  rw [hv.len];refine VRL.append hv ⟨by simp, fun i z v h1 h2 => ?_⟩;rw [List.getElem?_replicate] at h1;split at h1
  ·cases h1; exact .unk
  ·cases h1
 refine (h Z H m _ hp hbs henv).mono ?_;rintro o ⟨Z', m', env', ph', a1, b1, c1, d1, he, v, hr, hR⟩;refine ⟨he, ?_⟩;obtain ⟨u, v1, v2⟩ := qBH a1 b1 hr;exact ⟨u, v1, Z', m', v, ph', a1, v2, c1, d1, hR⟩
def rtS (P : Program) (ty : TypeId) : SV -> Option SV
 | .d t x => cond t.one (some (.d t x)) none
 | .c (.slice none 0 0) => match yS P ty with
   | some el => (match qLP P 8 el with
     | some t => some (.d (.list el t) [])
     | none => none)
   | none => none
 | .c (.int k x) => some (.c (.int k x))
 | .c .nilIface => some (.c .nilIface)
 | .c (.bool b) => some (.c (.bool b))
 | .c (.string b) => some (.c (.string b))
 | .own k g n => some (.own k g n)
 | .sl k g n o m => some (.sl k g n o m)
 | .ref k o w => some (.ref k o w)
 | .elt k g n w j o => some (.elt k g n w j o)
 | .lp t xs j o => some (.lp t xs j o)
 | .fn f a b => some (.fn f a b)
 | _ => none
theorem q5T {ty : TypeId} {v v' : SV} (e : rtS P ty v = some v') : rt1 P ty v.enc = v'.enc ∧ ∀ h, v.ok h -> v'.ok h := by
 unfold rtS at e;split at e
 ·rename_i t x
  cases ht : t.one with
  | true =>
    rw [ht] at e;cases e;refine ⟨?_, fun h hv => hv⟩;simp only [SV.enc];exact qJ3 ht
  | false => rw [ht] at e; cases e
 ·split at e
  ·rename_i el hel;split at e
   ·rename_i t ht;cases e;refine ⟨?_, fun h _ => by simp [SV.ok]⟩;simp only [SV.enc, fvv]
    show (match yS P ty with
     | some el => PV.f (.l el 0 [])
     | none => fvv (.slice none 0 0)) = _
    rw [hel];rfl
   ·cases e
  ·cases e
 all_goals first
  | (cases e; exact ⟨by simp only [SV.enc]; rfl, fun h hv => hv⟩)
  | cases e
def q3V (P : Program) : List TypeId -> List SV -> Option (List SV)
 | _, [] => some []
 | ty :: tys, v :: l => (match rtS P ty v, q3V P tys l with
   | some x, some y => some (x :: y)
   | _, _ => none)
 | [], _ :: _ => none
theorem qRN : ∀ {tys : List TypeId} {l l' : List SV}, q3V P tys l = some l' -> rtL (rt1 P) tys (qA l) = qA l' ∧ ∀ h, okL h l -> okL h l'
 | tys, [], l', e => by
   have : some [] = some l' := by cases tys <;> exact e
   cases this;exact ⟨by cases tys <;> simp [qA, rtL], fun h hl => hl⟩
 | ty :: tys, v :: l, l', e => by
   unfold q3V at e;split at e
   ·rename_i x y hx hy;cases e;obtain ⟨a1, a2⟩ := q5T hx;obtain ⟨b1, b2⟩ := qRN hy;refine ⟨?_, fun h hl => ?_⟩
    ·simp only [qA, rtL, a1, b1]
    ·simp only [okL] at hl ⊢;exact ⟨a2 h hl.1, b2 h hl.2⟩
   ·cases e
 | [], _ :: _, _, e => by cases e
def qRJ : List SV -> SV
 | [v] => v
 | vs => .tup vs
def q64 {R : Type} (P : Program) (tids : List TypeId) (rl : List Nat) (K : SV -> SH -> Tree R) : eH none R := fun e _ env h => match e with
 | .normal => (match qIK rl env with
   | some vs => (match q3V P tids vs with
     | some ws => K (qRJ ws) h
     | none => .fail)
   | none => .fail)
 | .ret => (match qIK rl env with
   | some vs => (match q3V P tids vs with
     | some ws => K (qRJ ws) h
     | none => .fail)
   | none => .fail)
 | _ => .fail
def q1C : List ResultVar -> Option (List Nat)
 | [] => some []
 | .tmp t :: l => (q1C l).map (t :: ·)
 | .cell _ _ :: _ => none
omit [Yl] in
theorem qH7 {env : List PV} {ph : PHp} : ∀ {l : List ResultVar} {rl : List Nat}, q1C l = some rl -> qFJ P env ph l = some (rl.map fun t => (zM env t).getD .unk)
 | [], rl, e => by cases e; rfl
 | .tmp t :: l, rl, e => by
   obtain ⟨rl', h1, rfl⟩ := Option.map_eq_some_iff.1 e;simp only [qFJ, qX7, qH7 h1, List.map_cons]
 | .cell _ _ :: _, rl, e => by cases e
abbrev Ans := List (FuncId × (An × List Ty))
def ciN [Hnd] (P : Program) (G : Nat -> Bool) (T : kT) (IT : List (FuncId × IEnt)) (ans : Ans) : Nat -> CIT
 | 0 => fun R nm f as h K => q59 P f as h K (Hnd.ci R nm f as h K)
 | n + 1 => fun R nm f as h K => match P.funcs[f]?, lkA f ans with
   | some fn, some (an, rs) => (match fn.body, q1C fn.results.toList with
     | some c, some rl => cond (enters P f && Nat.ble as.length fn.ntmps) (ev (Γ := none) P G T IT (ciN P G T IT ans n) yi0 an (rdR P h fn.resultTypes.toList rs fn.results.toList) (enR fn.ntmps fn.results.toList rs) h c false nm () (as ++ List.replicate (fn.ntmps - as.length) .unk) h (q64 P fn.resultTypes.toList rl K)) .fail
     | _, _ => .fail)
   | _, _ => q59 P f as h K (Hnd.ci R nm f as h K)
theorem qT3 {R : Type} {nm : Nm} {f : FuncId} {as : List SV} {h : SH} {K : SV -> SH -> Tree R} {F : Tree R} {r : R} (ho : OkH P h) (e : (q59 P f as h K F).run = some r) :
 qG2 P G nm f (qA as) (qD h.l) (fun v p => ∃ v' h', v = v'.enc ∧ p = qD h'.l ∧ Post P h h' v' ∧ (K v' h').run = some r) ∨ F.run = some r := by
 have go : ∀ {x y : SV} {s : ByteArray} {c z : Int}, asS x = some s -> asI y = some (.u8, c) -> qWO P f = true ∧ xK P (callFunc f #[.string s, .int .u8 c]) = some (.value (.int .i64 z)) -> (K (.d (.int .i64) z) h).run = some r ->
  qG2 P G nm f (qA [x, y]) (qD h.l) (fun v p => ∃ v' h', v = v'.enc ∧ p = qD h'.l ∧ Post P h h' v' ∧ (K v' h').run = some r) := fun {x y s c z} hs hc hx hk => by
  refine .inl ⟨hx.1, [.string s, .int .u8 c], .int .i64 z, ?_, rfl, hx.2, rfl, _, h, ?_, rfl, ⟨.refl _, ho, ?_⟩, hk⟩
  ·simp only [qA, gL hs, xN hc]; rfl
  ·simp [SV.enc, Ty.fv]; rfl
  ·simp [SV.ok]
 unfold q59 at e;split at e
 ·rename_i x y hx;split at e
  ·rename_i s c hs hc;exact .inl (go hs hc (qVU hx) e)
  ·cases e
 ·rename_i x y hx;split at e
  ·rename_i s c hs hc;exact .inl (go hs hc (qR1 hx) e)
  ·cases e
 ·exact .inr e
theorem qOM {env : List SV} : ∀ {rl : List Nat} {vs : List SV}, qIK rl env = some vs -> (rl.map fun t => (zM (qA env) t).getD PV.unk) = qA vs
 | [], vs, e => by cases e; simp [qA]
 | i :: is, vs, e => by
   unfold qIK at e;split at e
   ·rename_i v l hx hl;cases e;rw [List.map_cons, qOM hl, xO, hx];simp [qA]
   ·cases e
theorem qZJ (l : List SV) : (qRJ l).enc = qDK (qA l) := by
 match l with
 | [] => simp [qRJ, qDK, SV.enc, qA]
 | [v] => simp [qRJ, qDK, qA]
 | a :: b :: l => simp [qRJ, qDK, SV.enc, qA]
omit [Yl] in
theorem q25 {h : SH} {l : List SV} (hl : okL h l) : (qRJ l).ok h := by
 match l, hl with
 | [], hl => simp [qRJ, SV.ok, okL]
 | [v], hl => simp only [okL] at hl; exact hl.1
 | a :: b :: l, hl => simp only [qRJ, SV.ok]; exact hl
theorem q0O [Hnd] [HndOk P G] (s : PSet P good nat G tab) (ht : qWK tab T) (hit : q5B P G IT) (ans : Ans) : ∀ n, q3Q P G (ciN P G T IT ans n)
 | 0 => by
   intro nm f as h K r ho ha e;unfold ciN at e;rcases qT3 (nm := nm) ho e with h1 | h1
   ·exact h1
   ·exact HndOk.ok (P := P) (G := G) nm f as h K r ho ha h1
 | n + 1 => by
   intro nm f as h K r ho ha e;unfold ciN at e;split at e
   case h_2 =>
    rcases qT3 (nm := nm) ho e with h1 | h1
    ·exact h1
    ·exact HndOk.ok (P := P) (G := G) nm f as h K r ho ha h1
   rename_i fn an rs hfn hans;split at e
   case h_2 => cases e
   rename_i c rl hbody hrl;obtain ⟨hc, e⟩ := qF e;rw [Bool.and_eq_true] at hc;have hal : as.length <= fn.ntmps := Nat.le_of_ble_eq_true hc.2
   have hlen : (as ++ List.replicate (fn.ntmps - as.length) SV.unk).length = fn.ntmps := by
    rw [List.length_append, List.length_replicate]; omega
   refine qWY hc.1 hfn hbody rfl ?_
   have henv : qA as ++ List.replicate (fn.ntmps - (qA as).length) PV.unk = qA (as ++ List.replicate (fn.ntmps - as.length) .unk) := by
    rw [qAM, qGA, zF]
   rw [henv];refine (zC.runs (qCX (Γ := none) (wd := q58) s ht hit (q0O s ht hit ans n) q8O (fun nm => qZP ho) c ho (mV ha (qNH _ _)) hlen (.refl _) e)).mono ?_;rintro ex pe ph ⟨env', h', rfl, rfl, k1, k2, k3, k0, k4, k5⟩
   have key : ∀ {vs ws : List SV}, qIK rl env' = some vs -> q3V P fn.resultTypes.toList vs = some ws -> (K (qRJ ws) h').run = some r -> ∃ v, fO P fn (qA env') (qD h'.l) = some v ∧ ∃ v' h2, v = v'.enc ∧ qD h'.l = qD h2.l ∧ Post P h h2 v' ∧ (K v' h2).run = some r := fun {vs ws} hvs hws hk => by
    obtain ⟨a1, a2⟩ := qRN hws;refine ⟨(qRJ ws).enc, ?_, qRJ ws, h', rfl, rfl, ⟨k0, k2, q25 (a2 _ (xA.2 fun z hz => xA.1 k1 z (qF6 hvs z hz)))⟩, hk⟩;unfold fO;rw [qH7 hrl, qOM hvs, qZJ, <- a1];rfl
   cases ex with
   | normal =>
     simp only [q64] at k5;split at k5
     ·split at k5
      ·exact ⟨.inl rfl, key ‹_› ‹_› k5⟩
      ·cases k5
     ·cases k5
   | ret =>
     simp only [q64] at k5;split at k5
     ·split at k5
      ·exact ⟨.inr rfl, key ‹_› ‹_› k5⟩
      ·cases k5
     ·cases k5
   | exit _ => cases k5
   | goto _ => cases k5
end
noncomputable section
variable [Gc]
variable {P : Program} {G : Nat -> Bool} {nm : Nm} {tab : aV} {nat : yU} {good : FuncId -> Bool} {T : kT} {IT : List (FuncId × IEnt)}
def Lib (P : Program) (good : FuncId -> Bool) (G : Nat -> Bool) (T : kT) (IT : List (FuncId × IEnt)) : Prop := ∃ nat tab, PSet P good nat G tab ∧ (∀ [Yl], qWK tab T) ∧ ∀ [Yl], q5B P G IT
theorem Lib.addCall (L : Lib P good G T IT) (g : FuncId) (as rs : List Ty) (F : TyL as -> Option (TyL rs)) (hent : enters P g = true)
 (h : ∀ {nat : yU}, Setup P good nat G -> ∀ (x : TyL as) (y : TyL rs) (args : List Value) (H : IH), F x = some y -> (∃ Z : Nat -> Prop, VRL P Z H (fun _ => none) ((enL as).p x) args ∧ ∀ b, Z b -> b < H.size) -> H.base <= H.size -> GlH H -> gK P G g args H fun q => qXJ P (enL as) F (wG rs) x args H q.1 q.2) : Lib P good G ((g, ⟨as, rs, F⟩) :: T) IT := by
 obtain ⟨nat, tab, s, ht, hit⟩ := L
 letI : Yl := ⟨0⟩
 refine ⟨_, _, s.addCall (enL as) F (wG rs) hent (qU0 rs) (h s.s), ?_, hit⟩;intro _ g' ent hg x;have hg : cond (Nat.beq g' g) (some (⟨as, rs, F⟩ : Ent)) (slT g' T) = some ent := hg;unfold q5Q
 cases hb : Nat.beq g' g with
 | true =>
   rw [hb] at hg;cases hg;exact qZR (a := enL as) x
 | false =>
   rw [hb] at hg;exact ht g' ent hg x
theorem Lib.add [Hnd] [HndOk P G] (L : Lib P good G T IT) (g : FuncId) (ans : Ans) (n : Nat) (an : An) (as rs : List Ty) (fn : Func) (F : TyL as -> Option (TyL rs)) (hent : enters P g = true) (hfn : P.funcs[g]? = some fn) (hc : qSD as rs fn = true)
 (hF : ∀ (y : Yl) x, @fnS y P G T IT (ciN P G T IT ans n) an as rs fn x = F x) : Lib P good G ((g, ⟨as, rs, F⟩) :: T) IT := by
 obtain ⟨nat, tab, s, ht, hit⟩ := L
 letI : Yl := ⟨0⟩
 have hF2 : fnS P G T IT (ciN P G T IT ans n) an as rs fn = F := funext fun x => hF ⟨0⟩ x
 have hfok := q7L (an := an) (as := as) (rs := rs) s ht hit (q0O s ht hit ans n) hfn hc;rw [hF2] at hfok;refine ⟨_, _, s.add (enL as) F (wG rs) hent (qU0 rs) hfok, ?_, hit⟩;intro _ g' ent hg x;have hg : cond (Nat.beq g' g) (some (⟨as, rs, F⟩ : Ent)) (slT g' T) = some ent := hg;unfold q5Q
 cases hb : Nat.beq g' g with
 | true =>
   rw [hb] at hg;cases hg;exact qZR (a := enL as) x
 | false =>
   rw [hb] at hg;exact ht g' ent hg x
theorem Lib.addE [Hnd] [HndOk P G] (L : Lib P good G T IT) (g : FuncId) (ans : Ans) (an : An) (as rs : List Ty) (fn : Func) (F : TyL as -> Option (TyL rs)) (hent : enters P g = true) (hfn : P.funcs[g]? = some fn) (hc : qSD as rs fn = true)
 (hF : (fun (y : Yl) (x : TyL as) => @fnS y P G T IT (ciN P G T IT ans 3) an as rs fn x) = fun (_ : Yl) x => F x) : Lib P good G ((g, ⟨as, rs, F⟩) :: T) IT := L.add g ans 3 an as rs fn F hent hfn hc fun y x => congrFun (congrFun hF y) x
end
end Go.Sv
