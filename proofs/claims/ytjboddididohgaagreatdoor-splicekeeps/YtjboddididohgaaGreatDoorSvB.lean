/- A symbolic run, part two. Conditions: none. -/
import Derived.Test.YtjboddididohgaaGreatDoorSvA
set_option linter.all false
namespace Go.Sv
open Go.Idl
variable {env : List SV} {h : SH} {i s : Nat} {ob : PO} {ph ph' : PHp} {ty : TypeId} {v : SV} {x y : PV}
noncomputable section
variable [Gc]
variable [Yl]
variable {P : Program} {R : Type} {r : R} {G : Nat -> Bool} {nm : Nm} {rd : Bool}
def Wk (P : Program) (nm : Nm) (pe : List PV) (ph : PHp) (pe' : List PV) (ph' : PHp) : Prop :=
 ∀ (Z : Nat -> Prop) (H : IH) (m : Nat -> Nat) (vs : List Value), Hp P Z H (own m ph) -> VRL P Z H (own m ph) pe vs ->
  ∃ Z' m', Hp P Z' H (own m' ph') ∧ VRL P Z' H (own m' ph') pe' vs ∧ Step Z H (own m ph) Z' H (own m' ph') ∧ KR (inP nm) (own m ph) (own m' ph')
omit [Yl] in
theorem Wk.refl (pe : List PV) (ph : PHp) : Wk P nm pe ph pe ph := fun Z H m vs hp hv => ⟨Z, m, hp, hv, .refl _ _ _, .refl _ _⟩
omit [Yl] in
theorem Wk.trans {a b c : List PV} {p q s : PHp} (x : Wk P nm a p b q) (y : Wk P nm b q c s) : Wk P nm a p c s := fun Z H m vs hp hv => by
 obtain ⟨Z1, m1, a1, a2, a3, a4⟩ := x Z H m vs hp hv;obtain ⟨Z2, m2, b1, b2, b3, b4⟩ := y Z1 H m1 vs a1 a2;exact ⟨Z2, m2, b1, b2, a3.trans b3, a4.trans b4⟩
omit [Yl] in
theorem Wk.drop {a b : List PV} {p q : PHp} (hw : WkP a b) (hs : oQ q p) : Wk P nm a p b q := fun Z H m vs hp hv => by
 have hf := Fz.drop hp hs;exact ⟨Z, m, hf.hp, hw.rel (hf.vrl hv), hf.step, hf.kr _⟩
omit [Yl] in
theorem qVH : ∀ {l m : List PV}, l.length = m.length -> (∀ i, zH m i = zH l i ∨ zH m i = some .unk) -> WkP l m
 | [], [], _, _ => .nil
 | [], _ :: _, h, _ => by cases h
 | _ :: _, [], h, _ => by cases h
 | x :: l, y :: m, h, hi => by
   have ih := qVH (l := l) (m := m) (by simpa using h) fun i => hi (i + 1)
   rcases hi 0 with q | q
   ·have q : some y = some x := q;cases q;exact .same ih
   ·have q : some y = some PV.unk := q;cases q;exact .any ih
def fzs (P : Program) : List (Nat × TypeId) -> List SV -> SH -> (List SV -> SH -> zAN R) -> zAN R
 | [], env, h, K => K env h
 | (i, ty) :: l, env, h, K => match zH env i, qDY P 8 ty with
   | some v, some t => (match q3L P ty t v h with
     | some (x, h') => fzs P l (xB env i (t.sv x)) h' K
     | none => .fail)
   | _, _ => .fail
def j4 (P : Program) (w : List Nat) (env : List SV) (h : SH) (env' : List SV) (h' : SH) : Prop :=
 okL h' env' ∧ OkH P h' ∧ Keep h h' ∧ (∀ i, i ∉ w -> zH (qB env') i = zH (qB env) i) ∧ env'.length = env.length
theorem j4.trans {w w2 : List Nat} {env zAV zBE : List SV} {h h1 h2 : SH} (a : j4 P w env h zAV h1) (b : j4 P w2 zAV h1 zBE h2) : j4 P (w ++ w2) env h zBE h2 :=
 ⟨b.1, b.2.1, a.2.2.1.trans b.2.2.1, fun i hi => by
   rw [zLY, not_or] at hi
   exact (b.2.2.2.1 i hi.2).trans (a.2.2.2.1 i hi.1), b.2.2.2.2.trans a.2.2.2.2⟩
theorem j4.refl {env : List SV} {h : SH} (ho : OkH P h) (he : okL h env) : j4 P [] env h env h := ⟨he, ho, .refl _, fun _ _ => rfl, rfl⟩
theorem j4.up {w w2 : List Nat} {zAV : List SV} {h1 : SH} (a : j4 P w env h zAV h1) (hw : ∀ i ∈ w, i ∈ w2) : j4 P w2 env h zAV h1 :=
 ⟨a.1, a.2.1, a.2.2.1, fun i hi => a.2.2.2.1 i fun q => hi (hw i q), a.2.2.2.2⟩
theorem rD {j : Nat} (h : i ≠ j) : zH (qB (xB env i v)) j = zH (qB env) j := by
 rw [kE, zB, qF, qF, zLD, if_neg h]
theorem q55 {h' : SH} (hv : zH env i = some v) (hf : fzP P (qE h.l) v.enc = some (y, qE h'.l)) : Wk P nm (qB env) (qE h.l) (xB (qB env) i (rt1 P ty y)) (qE h'.l) := by
 intro Z H m vs hp hr
 have hi : (qB env)[i]? = some v.enc := by
  rw [qF] at hv;rw [qY, zKX, hv]; rfl
 obtain ⟨u, hu, hr2⟩ := hr.get hi;obtain ⟨Z', h1, h2⟩ := qJ0 hp hr2 hf;exact ⟨Z', m, h1.hp, (h1.vrl hr).slot hu (qDV (cK h2 (qOA hf))), h1.step, h1.kr _⟩
theorem q0F : ∀ {l : List (Nat × TypeId)} {env : List SV} {h : SH} {K : List SV -> SH -> zAN R}, OkH P h -> okL h env -> (fzs P l env h K).run = some r ->
 ∃ env' h', Wk P nm (qB env) (qE h.l) (qB env') (qE h'.l) ∧ j4 P (l.map (·.1)) env h env' h' ∧ (K env' h').run = some r
 | [], env, h, K, ho, he, e => ⟨env, h, .refl _ _, .refl ho he, e⟩
 | (i, ty) :: l, env, h, K, ho, he, e => by
   unfold fzs at e;split at e
   ·rename_i v t hv ht;split at e
    ·rename_i x h' hd;obtain ⟨y, a1, a2, a3, a4, _⟩ := qBR ho (eX he hv) hd;have hw := q55 (nm := nm) (ty := ty) hv a1;have hs : xB (qB env) i (rt1 P ty y) = qB (xB env i (t.sv x)) := by rw [kE, nI, a2]
     rw [hs] at hw;obtain ⟨env', h2, b1, b2, b3⟩ := q0F (l := l) a4 (xY (t := i) (v := t.sv x) (qL a3 he) (qKF t x)) e;refine ⟨env', h2, hw.trans b1, ?_, b3⟩
     have h0 : j4 P [i] env h (xB env i (t.sv x)) h' := ⟨xY (qL a3 he) (qKF t x), a4, a3, fun j hj => rD fun q => hj (by rw [q]; exact zNI j), jJ _ _ _⟩
     exact h0.trans b2
    ·cases e
   ·cases e
omit [Yl] in
theorem Wk.zID {env : List PV} (i k : Nat) (el : TypeId) (hi : zH env i = some (fvv (.slice none 0 0))) (hs : szT P el = some (s + 1)) (hf : fresh nm k env ph = true) : Wk P nm env ph (xB env i (.own k 0 0 0)) ((k, ⟨el, true, []⟩) :: ph) := by
 intro Z H m zAO hp he;rw [qF] at hi;obtain ⟨v, hv, hr⟩ := he.get hi;have hvn : v = .slice none 0 0 := yN hr rfl;subst hvn;obtain ⟨f1, f2, f3⟩ := q5M nm hf;have hnew : own m ((k, ⟨el, true, []⟩) :: ph) k = some (m k, ⟨el, true, []⟩) := by simp [own, qA]
 have hold : ∀ j, j ≠ k -> own m ((k, ⟨el, true, []⟩) :: ph) j = own m ph j := fun j hj => by
  unfold own; rw [zZ hj]
 have hkr : KR (fun j => j == k) (own m ph) (own m ((k, ⟨el, true, []⟩) :: ph)) := fun j b ob hk => by
  by_cases hj : j = k
  ·exact .inr (.inr (by simp [hj]))
  ·rw [hold j hj] at hk; exact .inl ⟨ob, hk, rfl, rfl, rfl⟩
 have mono : ∀ {xs : List PV} {vs : List Value}, VRL P Z H (own m ph) xs vs -> z8 k xs = true -> VRL P Z H (own m ((k, ⟨el, true, []⟩) :: ph)) xs vs := fun h hn => h.mono (fun _ h => h) (zKK _) (fun _ _ _ => rfl) hkr fun j hj => by
  have : j = k := by simpa using hj
  subst this; exact hn
 have hp' : Hp P Z H (own m ((k, ⟨el, true, []⟩) :: ph)) := by
  refine ⟨hp.zlt, fun j b ob hk => ?_, fun j j' b b' ob ob' h1 h2 r1 r2 hne => ?_, hp.gl⟩
  ·by_cases hj : j = k
   ·subst hj; rw [hnew] at hk; cases hk; exact .inl ⟨rfl, rfl⟩
   ·rw [hold j hj] at hk
    rcases hp.obj j b ob hk with h | ⟨a1, a2, a3, a4⟩
    ·exact .inl h
    ·exact .inr ⟨a1, a2, a3, a4.mono rfl fun _ a5 => mono a5 (jO f3 (uG hk).1)⟩
  ·by_cases hj : j = k
   ·subst hj; rw [hnew] at h1; cases h1; exact absurd ⟨rfl, rfl⟩ r1
   ·by_cases hj' : j' = k
    ·subst hj'; rw [hnew] at h2; cases h2; exact absurd ⟨rfl, rfl⟩ r2
    ·rw [hold j hj] at h1; rw [hold j' hj'] at h2;exact hp.inj j j' b b' ob ob' h1 h2 r1 r2 hne
 have hown : VR P Z H (own m ((k, ⟨el, true, []⟩) :: ph)) (.own k 0 0 0) (.slice none 0 0) := .own rfl fun b ob hM => by
  rw [hnew] at hM; cases hM;exact ⟨s + 1, hs, by omega, by simp, fun _ => .inl ⟨rfl, rfl, rfl, rfl, rfl⟩⟩
 have hst : Step Z H (own m ph) Z H (own m ((k, ⟨el, true, []⟩) :: ph)) := ⟨zKK _, rfl, fun _ h => h, fun _ _ _ => rfl, fun b h _ => .inl h, fun b ⟨j, ob, h1, h2⟩ _ => by
  by_cases hj : j = k
  ·subst hj; rw [hnew] at h1; cases h1; exact absurd ⟨rfl, rfl⟩ h2
  ·rw [hold j hj] at h1; exact ⟨j, ob, h1, h2⟩⟩
 have hup : KR (inP nm) (own m ph) (own m ((k, ⟨el, true, []⟩) :: ph)) := hkr.up fun j hj => by
  have e : j = k := by simpa using hj
  rw [e]; exact f1
 exact ⟨Z, m, hp', (mono he f2).slot hv hown, hst, hup⟩
omit [Yl] in
theorem Wk.zG1 {env : List PV} (kb i k : Nat) (el : TypeId) (hk : qA kb ph = some ob) (hsp : spec P ob.el = false) (hgr : ob.gr = false) (hi : zH ob.cs i = some (fvv (.slice none 0 0))) (hs : szT P el = some (s + 1)) (hf : fresh nm k env ph = true) (hne : k ≠ kb) :
 Wk P nm env ph env ((k, ⟨el, true, []⟩) :: kU kb ⟨ob.el, false, xB ob.cs i (.own k 0 0 0)⟩ ph) := by
 intro Z H m zAO hp he;obtain ⟨f1, f2, f3⟩ := q5M nm hf;generalize zIE : (k, (⟨el, true, []⟩ : PO)) :: kU kb ⟨ob.el, false, xB ob.cs i (.own k 0 0 0)⟩ ph = ph'
 have hM' : ∀ j, own m ph' j = if j = k then some (m k, ⟨el, true, []⟩) else if j = kb then some (m kb, ⟨ob.el, false, xB ob.cs i (.own k 0 0 0)⟩) else own m ph j := fun j => by
  subst zIE;unfold own;by_cases h1 : j = k
  ·subst h1; simp [qA]
  ·rw [if_neg h1, zZ h1, zA];by_cases h2 : j = kb
   ·subst h2; rw [if_pos ⟨rfl, by rw [hk]; rfl⟩, if_pos rfl]; rfl
   ·rw [if_neg (fun h => h2 h.1), if_neg h2]
 have hnew : own m ph' k = some (m k, ⟨el, true, []⟩) := by rw [hM', if_pos rfl]
 have zB7 : own m ph' kb = some (m kb, ⟨ob.el, false, xB ob.cs i (.own k 0 0 0)⟩) := by rw [hM', if_neg hne.symm, if_pos rfl]
 have hold : ∀ j, j ≠ k -> j ≠ kb -> own m ph' j = own m ph j := fun j h1 h2 => by rw [hM', if_neg h1, if_neg h2]
 have hkM : own m ph kb = some (m kb, ob) := qN hk
 have hkr : KR (fun j => j == k) (own m ph) (own m ph') := fun j b o hj => by
  by_cases h1 : j = k
  ·exact .inr (.inr (by simp [h1]))
  ·by_cases h2 : j = kb
   ·subst h2;rw [zB7] at hj;cases hj;exact .inl ⟨ob, hkM, by simp [zB], rfl, hgr⟩
   ·rw [hold j h1 h2] at hj; exact .inl ⟨o, hj, rfl, rfl, rfl⟩
 have mono : ∀ {xs : List PV} {vs : List Value}, VRL P Z H (own m ph) xs vs -> z8 k xs = true -> VRL P Z H (own m ph') xs vs := fun h hn => h.mono (fun _ h => h) (zKK _) (fun _ _ _ => rfl) hkr fun j hj => by
  have : j = k := by simpa using hj
  subst this; exact hn
 have hown : VR P Z H (own m ph') (.own k 0 0 0) (.slice none 0 0) := .own rfl fun b o hM => by
  rw [hnew] at hM; cases hM;exact ⟨s + 1, hs, by omega, by simp, fun _ => .inl ⟨rfl, rfl, rfl, rfl, rfl⟩⟩
 have zBP : ¬ (ob.gr = true ∧ ob.cs = []) := fun h => by rw [hgr] at h; cases h.1
 have hp' : Hp P Z H (own m ph') := by
  refine ⟨hp.zlt, fun j b o hj => ?_, fun j j' b b' o o' h1 h2 r1 r2 hn => ?_, hp.gl⟩
  ·by_cases h1 : j = k
   ·subst h1; rw [hnew] at hj; cases hj; exact .inl ⟨rfl, rfl⟩
   ·by_cases h2 : j = kb
    ·subst h2;rw [zB7] at hj; cases hj
     rcases hp.obj j _ ob hkM with h | ⟨a1, a2, a3, ⟨_, vs, a4, a5, a6⟩ | ⟨hs2, _⟩⟩
     rotate_right 1
     ·rw [hsp] at hs2; cases hs2
     ·exact absurd h zBP
     ·have hv := mono a5 (jO f3 hk);obtain ⟨v, hv1, hv2⟩ := a5.get (i := i) (by rw [<- qF]; exact hi);have : v = .slice none 0 0 := yN hv2 rfl;subst this;refine .inr ⟨a1, a2, a3, .inl ⟨hsp, vs, ?_, hv.slot hv1 hown, a6⟩⟩;rw [a4, hgr]
    ·rw [hold j h1 h2] at hj
     rcases hp.obj j b o hj with h | ⟨a1, a2, a3, a4⟩
     ·exact .inl h
     ·exact .inr ⟨a1, a2, a3, a4.mono rfl fun _ a5 => mono a5 (jO f3 (uG hj).1)⟩
  ·have tr : ∀ {j b o}, own m ph' j = some (b, o) -> ¬ (o.gr = true ∧ o.cs = []) -> ∃ o2, own m ph j = some (b, o2) ∧ ¬ (o2.gr = true ∧ o2.cs = []) := fun {j b o} hj hr => by
    by_cases h1 : j = k
    ·subst h1; rw [hnew] at hj; cases hj; exact absurd ⟨rfl, rfl⟩ hr
    ·by_cases h2 : j = kb
     ·subst h2; rw [zB7] at hj; cases hj; exact ⟨ob, hkM, zBP⟩
     ·rw [hold j h1 h2] at hj; exact ⟨o, hj, hr⟩
   obtain ⟨o2, q1, q2⟩ := tr h1 r1;obtain ⟨o3, q3, q4⟩ := tr h2 r2;exact hp.inj j j' b b' o2 o3 q1 q3 q2 q4 hn
 have hst : Step Z H (own m ph) Z H (own m ph') := ⟨zKK _, rfl, fun _ h => h, fun _ _ _ => rfl, fun b h _ => .inl h, fun b ⟨j, o, h1, h2⟩ _ => by
  by_cases e1 : j = k
  ·subst e1; rw [hnew] at h1; cases h1; exact absurd ⟨rfl, rfl⟩ h2
  ·by_cases e2 : j = kb
   ·subst e2; rw [zB7] at h1; cases h1; exact ⟨j, ob, hkM, zBP⟩
   ·rw [hold j e1 e2] at h1; exact ⟨j, o, h1, h2⟩⟩
 exact ⟨Z, m, hp', mono he f2, hst, hkr.up fun j hj => by
  have e : j = k := by simpa using hj
  rw [e]; exact f1⟩
def qEC : SV -> Bool
 | .c (.slice none 0 0) => true
 | _ => false
theorem qDU (e : qEC v = true) : v.enc = fvv (.slice none 0 0) := by
 unfold qEC at e;split at e
 ·simp [SV.enc]
 ·cases e
def qQQ (P : Program) (nm : Nm) : List (Nat × TypeId) -> List SV -> SH -> (List SV -> SH -> zAN R) -> zAN R
 | [], env, h, K => K env h
 | (i, el) :: l, env, h, K => match zH env i with
   | some v => cond (qEC v) (match szT P el, qDY P 8 el with
     | some (s + 1), some t => cond (Nat.beq t.w (s + 1) && qC5 nm (nm.b + i) env h) (qQQ P nm l (xB env i (.own (nm.b + i) h.next 0)) (h.new (nm.b + i) fun v => .list el true v v t []) K) .fail
     | _, _ => .fail) (qQQ P nm l env h K)
   | none => .fail
theorem sG : ∀ {l : List (Nat × TypeId)} {env : List SV} {h : SH} {K : List SV -> SH -> zAN R}, OkH P h -> okL h env -> (qQQ P nm l env h K).run = some r ->
 ∃ env' h', Wk P nm (qB env) (qE h.l) (qB env') (qE h'.l) ∧ j4 P (l.map (·.1)) env h env' h' ∧ (K env' h').run = some r
 | [], env, h, K, ho, he, e => ⟨env, h, .refl _ _, .refl ho he, e⟩
 | (i, el) :: l, env, h, K, ho, he, e => by
   unfold qQQ at e;split at e
   ·rename_i v hv
    cases hn : qEC v with
    | false =>
      rw [hn] at e;obtain ⟨env', h2, b1, b2, b3⟩ := sG (l := l) ho he e;exact ⟨env', h2, b1, b2.up fun j hj => zKQ _ hj, b3⟩
    | true =>
      rw [hn] at e;simp only [cond_true] at e;split at e
      ·rename_i s t hs ht;obtain ⟨c, e1⟩ := qG e;rw [zKI] at c;have hw : t.w = s + 1 := zKJ c.1;have hn2 := kD (k := nm.b + i) (f := fun v => .list el true v v t []) ho ⟨rfl, rfl, by rw [hs, hw], by omega⟩
       have hfr : fresh nm (nm.b + i) (qB env) (qE h.l) = true := by
        have c2 := c.2;unfold qC5 at c2;simp only [zKI] at c2;unfold fresh;rw [c2.1, c2.2.1, vW c2.2.2]; rfl
       have hwk : Wk P nm (qB env) (qE h.l) (qB (xB env i (.own (nm.b + i) h.next 0))) (qE (h.new (nm.b + i) fun v => .list el true v v t []).l) := by
        have := Wk.zID (P := P) (nm := nm) (ph := qE h.l) i (nm.b + i) el (by rw [zK, hv, zKU, qDU hn]) hs hfr;rw [kE];simpa [SV.enc, SH.new, qE, SO.enc] using this
       have hok : (SV.own (nm.b + i) h.next 0).ok (h.new (nm.b + i) fun v => .list el true v v t []) := vR (xs := ([] : List t.sem)) rfl;obtain ⟨env', h2, b1, b2, b3⟩ := sG (l := l) hn2.2 (xY (t := i) (qL hn2.1 he) hok) e1;refine ⟨env', h2, hwk.trans b1, ?_, b3⟩
       have h0 : j4 P [i] env h (xB env i (.own (nm.b + i) h.next 0)) (h.new (nm.b + i) fun v => .list el true v v t []) := ⟨xY (qL hn2.1 he) hok, hn2.2, hn2.1, fun j hj => rD fun q => hj (by rw [q]; exact zNI j), jJ _ _ _⟩
       exact h0.trans b2
      ·cases e
   ·cases e
omit [Yl] in
theorem qF3 {f : PHp -> PV -> Option (FV × PHp)} (hf : ∀ ph x y ph', f ph x = some (y, ph') -> oQ ph' ph) : ∀ {l : List PV} {ph ph' : PHp} {ys : List FV}, qDK f l ph = some (ys, ph') -> oQ ph' ph
 | [], ph, ph', ys, h => by cases h; exact .refl _
 | x :: l, ph, ph', ys, h => by
   unfold qDK at h;split at h
   ·rename_i y ph1 h1;split at h
    ·rename_i zs ph2 h2;cases h;exact fun k ob q => hf _ _ _ _ h1 k ob (qF3 hf h2 k ob q)
    ·cases h
   ·cases h
omit [Yl] in
theorem qLN : ∀ (n : Nat) (ph : PHp) (x : PV) (y : FV) (ph' : PHp), fz1 P n ph x = some (y, ph') -> oQ ph' ph
 | 0, ph, x, y, ph', h => by
   cases x with
   | f x =>
     have h : some (x, ph) = some (y, ph') := h;cases h; exact .refl _
   | _ =>
     have h : (none : Option (FV × PHp)) = some (y, ph') := h;cases h
 | n + 1, ph, x, y, ph', h => by
   cases x with
   | f x =>
     have h : some (x, ph) = some (y, ph') := h;cases h; exact .refl _
   | own k t o c =>
     unfold fz1 at h;split at h
     case h_2 => cases h
     split at h
     case h_2 => cases h
     obtain ⟨_, h⟩ := xO h;split at h
     case h_2 => cases h
     rename_i hq;cases h
     exact fun j ob q => by
      have q1 := qF3 (qLN n) hq j ob q;rw [xC] at q1;split at q1
      ·cases q1
      ·exact q1
   | _ =>
     have h : (none : Option (FV × PHp)) = some (y, ph') := h;cases h
omit [Yl] in
theorem q39 (h : fzP P ph x = some (y, ph')) : oQ ph' ph := by
 unfold fzP at h;split at h
 ·split at h
  ·rename_i hq;cases h; exact qF3 (qLN 4) hq
  ·cases h
 ·split at h
  ·rename_i hq;cases h; exact qLN 4 _ _ _ _ hq
  ·cases h
omit [Yl] in
theorem Wk.zIF {env : List PV} (kb i : Nat) (ty : TypeId) (hk' : qA kb ph' = some ob) (hsp : spec P ob.el = false) (hgr : ob.gr = false) (hi : zH ob.cs i = some x) (hf : fzP P ph x = some (y, ph')) (hk : qA kb ph = some ob) :
 Wk P nm env ph env (kU kb ⟨ob.el, false, xB ob.cs i (rt1 P ty y)⟩ ph') := by
 intro Z H m zAO hp he;have hkM : own m ph kb = some (m kb, ob) := qN hk;have zBP : ¬ (ob.gr = true ∧ ob.cs = []) := fun h => by rw [hgr] at h; cases h.1
 rcases hp.obj kb _ ob hkM with h | ⟨_, _, _, ⟨_, vs0, a40, a50, _⟩ | ⟨hs2, _⟩⟩
 rotate_right 1
 ·rw [hsp] at hs2; cases hs2
 ·exact absurd h zBP
 obtain ⟨v, hv1, hv2⟩ := a50.get (i := i) (by rw [<- qF]; exact hi);obtain ⟨Z', fz, hy⟩ := qJ0 hp hv2 hf;have hyr : ∀ M, VR P Z' H M (rt1 P ty y) v := fun M => qDV (cK hy (qOA hf))
 have hp1 := fz.hp;have zEY : own m ph' kb = some (m kb, ob) := qN hk';generalize zIG : kU kb (⟨ob.el, false, xB ob.cs i (rt1 P ty y)⟩ : PO) ph' = ph2
 have hM' : ∀ j, own m ph2 j = if j = kb then some (m kb, ⟨ob.el, false, xB ob.cs i (rt1 P ty y)⟩) else own m ph' j := fun j => by
  subst zIG;unfold own;rw [zA];by_cases h2 : j = kb
  ·subst h2; rw [if_pos ⟨rfl, by rw [hk']; rfl⟩, if_pos rfl]; rfl
  ·rw [if_neg (fun h => h2 h.1), if_neg h2]
 have zB7 : own m ph2 kb = some (m kb, ⟨ob.el, false, xB ob.cs i (rt1 P ty y)⟩) := by rw [hM', if_pos rfl]
 have hold : ∀ j, j ≠ kb -> own m ph2 j = own m ph' j := fun j h2 => by rw [hM', if_neg h2]
 have hkr : ∀ p, KR p (own m ph') (own m ph2) := fun p j b o hj => by
  by_cases h2 : j = kb
  ·subst h2;rw [zB7] at hj;cases hj;exact .inl ⟨ob, zEY, by simp [zB], rfl, hgr⟩
  ·rw [hold j h2] at hj; exact .inl ⟨o, hj, rfl, rfl, rfl⟩
 have mono : ∀ {xs : List PV} {vs : List Value}, VRL P Z' H (own m ph') xs vs -> VRL P Z' H (own m ph2) xs vs := fun h => h.mono (fun _ h => h) (zKK _) (fun _ _ _ => rfl) (hkr fun _ => false) fun j hj => by cases hj
 have hp' : Hp P Z' H (own m ph2) := by
  refine ⟨hp1.zlt, fun j b o hj => ?_, fun j j' b b' o o' h1 h2 r1 r2 hn => ?_, hp1.gl⟩
  ·by_cases h2 : j = kb
   ·subst h2;rw [zB7] at hj; cases hj
    rcases hp1.obj j _ ob zEY with h | ⟨a1, a2, a3, ⟨_, vs, a4, a5, a6⟩ | ⟨hs2, _⟩⟩
    rotate_right 1
    ·rw [hsp] at hs2; cases hs2
    ·exact absurd h zBP
    ·have hv := mono a5
     have hvv : vs = vs0 := by
      rw [a40] at a4;injection a4 with e1;injection e1 with e2;injection e2 with e3;exact e3.symm
     subst hvv;refine .inr ⟨a1, a2, a3, .inl ⟨hsp, vs, ?_, hv.slot hv1 (hyr _), a6⟩⟩;rw [a4, hgr]
   ·rw [hold j h2] at hj
    rcases hp1.obj j b o hj with h | ⟨a1, a2, a3, a4⟩
    ·exact .inl h
    ·exact .inr ⟨a1, a2, a3, a4.mono rfl fun _ a5 => mono a5⟩
  ·have tr : ∀ {j b o}, own m ph2 j = some (b, o) -> ¬ (o.gr = true ∧ o.cs = []) -> ∃ o2, own m ph' j = some (b, o2) ∧ ¬ (o2.gr = true ∧ o2.cs = []) := fun {j b o} hj hr => by
    by_cases h2 : j = kb
    ·subst h2; rw [zB7] at hj; cases hj; exact ⟨ob, zEY, zBP⟩
    ·rw [hold j h2] at hj; exact ⟨o, hj, hr⟩
   obtain ⟨o2, q1, q2⟩ := tr h1 r1;obtain ⟨o3, q3, q4⟩ := tr h2 r2;exact hp1.inj j j' b b' o2 o3 q1 q3 q2 q4 hn
 have hst : Step Z' H (own m ph') Z' H (own m ph2) := ⟨zKK _, rfl, fun _ h => h, fun _ _ _ => rfl, fun b h _ => .inl h, fun b ⟨j, o, h1, h2⟩ _ => by
  by_cases e2 : j = kb
  ·subst e2; rw [zB7] at h1; cases h1; exact ⟨j, ob, zEY, zBP⟩
  ·rw [hold j e2] at h1; exact ⟨j, o, h1, h2⟩⟩
 exact ⟨Z', m, hp', mono (fz.vrl he), fz.step.trans hst, (fz.kr _).trans (hkr _)⟩
def q8H (P : Program) (i c : Nat) (ty : TypeId) (env : List SV) (h : SH) (K : List SV -> SH -> zAN R) : zAN R := match zH env i, qDY P 8 ty with
 | some (.ref kb _ _), some t => (match slk kb h.l with
   | some (.cells _ _ cs) => (match zH cs c with
     | some v => (match q3L P ty t v h with
       | some (x, h') => (match slk kb h'.l with
         | some (.cells e _ cs') => cond (!spec P e) (K env (h'.put kb fun v => .cells e v (xB cs' c (t.sv x)))) .fail
         | _ => .fail)
       | none => .fail)
     | none => .fail)
   | _ => .fail)
 | _, _ => .fail
theorem q4P {c : Nat} {K : List SV -> SH -> zAN R} (ho : OkH P h) (he : okL h env) (e : (q8H P i c ty env h K).run = some r) :
 ∃ env' h', Wk P nm (qB env) (qE h.l) (qB env') (qE h'.l) ∧ j4 P [i] env h env' h' ∧ (K env' h').run = some r := by
 unfold q8H at e;split at e
 case h_2 => cases e
 rename_i kb _ _ t hi ht;split at e
 case h_2 => cases e
 rename_i eb wb cs hkb;split at e
 case h_2 => cases e
 rename_i v hv;split at e
 case h_2 => cases e
 rename_i x h' hd;split at e
 case h_2 => cases e
 rename_i e2 w2 cs2 hkb2;obtain ⟨hc, e1⟩ := qG e;have hvk : v.ok h := eX (ho.cells _ _ _ _ hkb) hv;obtain ⟨y, a1, a2, a3, a4, _⟩ := qBR ho hvk hd;have hsp : spec P e2 = false := by simpa using hc
 have hp2 := aF (k := kb) (f := fun v => .cells e2 v (xB cs2 c (t.sv x))) a4 hkb2 ⟨rfl, xY (a4.cells _ _ _ _ hkb2) (qKF t x)⟩;have hk2 := yY hkb2;have hk1 := yY hkb;have hsub := q39 a1 kb _ hk2
 have hcs : qB cs2 = qB cs := by
  rw [hk1] at hsub;injection hsub with q;injection q with q1 q2 q3;exact q3.symm
 refine ⟨env, h'.put kb fun v => .cells e2 v (xB cs2 c (t.sv x)), ?_, ⟨qL hp2.1 (qL a3 he), hp2.2, a3.trans hp2.1, fun _ _ => rfl, rfl⟩, e1⟩
 have := Wk.zIF (P := P) (nm := nm) (env := qB env) kb c ty hk2 hsp rfl (x := v.enc) (by
  show zH (qB cs2) c = _
  rw [hcs, zK, hv]; rfl) a1 hsub
 refine this.trans ?_
 have he2 : kU kb ⟨(SO.cells e2 w2 cs2).enc.el, false, xB (SO.cells e2 w2 cs2).enc.cs c (rt1 P ty y)⟩ (qE h'.l) = qE ((h'.put kb fun v => .cells e2 v (xB cs2 c (t.sv x))).l) := by
  show _ = qE (sst kb _ h'.l);rw [vM];simp [SO.enc, kE, nI, a2]
 rw [he2];exact .refl _ _
def q8A (i : Nat) (env : List SV) (h : SH) (K : List SV -> SH -> zAN R) : zAN R := match zH env i with
 | some (.d (.list el (.int k)) xs) => .ite (List.isEmpty xs) .fail (K (xB env i (.d (.ol el k) xs)) h)
 | _ => .fail
theorem q25 {K : List SV -> SH -> zAN R} (ho : OkH P h) (he : okL h env) (e : (q8A i env h K).run = some r) :
 ∃ env' h', Wk P nm (qB env) (qE h.l) (qB env') (qE h'.l) ∧ j4 P [i] env h env' h' ∧ (K env' h').run = some r := by
 unfold q8A at e;split at e
 ·rename_i el k xs hi
  rcases run_ite e with ⟨_, e1⟩ | ⟨hx, e1⟩
  ·cases e1
  ·refine ⟨_, h, ?_, ⟨xY he (by simp [SV.ok]), ho, .refl _, fun j hj => rD fun q => hj (by rw [q]; exact zNI j), jJ _ _ _⟩, e1⟩
   have : qB (xB env i (.d (.ol el k) xs)) = qB env := by
    rw [kE]
    have h2 : (SV.d (.ol el k) xs).enc = (SV.d (.list el (.int k)) xs).enc := by
     cases xs with
     | nil => cases hx
     | cons x xs => simp [SV.enc, Ty.fv, fvo, Ty.cells]
    rw [h2, zB]
    have h3 : (qB env)[i]? = some (SV.d (.list el (.int k)) xs).enc := by
     rw [<- qF, zK, hi]; rfl
    obtain ⟨h4, h5⟩ := zKN.1 h3;rw [<- h5, List.set_getElem_self]
   rw [this];exact .refl _ _
 ·cases e
def fzv (P : Program) (nm : Nm) : List (Nat × TypeId) -> List SV -> SH -> (List SV -> SH -> zAN R) -> zAN R
 | [], env, h, K => K env h
 | (i, ty) :: l, env, h, K => cond (Nat.ble 2000000000 ty) ((cond (Nat.ble 4000000000 ty) (cond (Nat.ble 5000000000 ty) (q8A i env h fun env h => fzv P nm l env h K) (q8H P i ((ty - 4000000000) / 100000) ((ty - 4000000000) % 100000) env h fun env h => fzv P nm l env h K)) .fail)) <| cond (Nat.ble 1000000000 ty) (qQQ P nm [(i, ty - 1000000000)] env h fun env h => fzv P nm l env h K) (fzs P [(i, ty)] env h fun env h => fzv P nm l env h K)
theorem q1J : ∀ {l : List (Nat × TypeId)} {env : List SV} {h : SH} {K : List SV -> SH -> zAN R}, OkH P h -> okL h env -> (fzv P nm l env h K).run = some r ->
 ∃ env' h', Wk P nm (qB env) (qE h.l) (qB env') (qE h'.l) ∧ j4 P (l.map (·.1)) env h env' h' ∧ (K env' h').run = some r
 | [], env, h, K, ho, he, e => ⟨env, h, .refl _ _, .refl ho he, e⟩
 | (i, ty) :: l, env, h, K, ho, he, e => by
   unfold fzv at e
   have go : ∀ {zAV h1}, Wk P nm (qB env) (qE h.l) (qB zAV) (qE h1.l) -> j4 P [i] env h zAV h1 -> (fzv P nm l zAV h1 K).run = some r -> ∃ env' h', Wk P nm (qB env) (qE h.l) (qB env') (qE h'.l) ∧ j4 P (((i, ty) :: l).map (·.1)) env h env' h' ∧ (K env' h').run = some r := fun a b e => by
    obtain ⟨env', h', c1, c2, c3⟩ := q1J (l := l) b.2.1 b.1 e;exact ⟨env', h', a.trans c1, b.trans c2, c3⟩
   cases hb2 : Nat.ble 2000000000 ty with
   | true =>
     rw [hb2] at e
     cases hb4 : Nat.ble 4000000000 ty with
     | true =>
       rw [hb4] at e
       cases hb5 : Nat.ble 5000000000 ty with
       | true =>
         rw [hb5] at e;have e : (q8A i env h fun env h => fzv P nm l env h K).run = some r := e;obtain ⟨zAV, h1, a, b, e1⟩ := q25 (nm := nm) ho he e;exact go a b e1
       | false =>
       rw [hb5] at e;have e : (q8H P i ((ty - 4000000000) / 100000) ((ty - 4000000000) % 100000) env h fun env h => fzv P nm l env h K).run = some r := e;obtain ⟨zAV, h1, a, b, e1⟩ := q4P (nm := nm) ho he e;exact go a b e1
     | false =>
       rw [hb4] at e;cases e
   | false =>
   rw [hb2] at e
   cases hb : Nat.ble 1000000000 ty with
   | true =>
     rw [hb] at e;obtain ⟨zAV, h1, a, b, e1⟩ := sG (nm := nm) ho he e;exact go a b e1
   | false =>
     rw [hb] at e;obtain ⟨zAV, h1, a, b, e1⟩ := q0F (nm := nm) ho he e;exact go a b e1
def qIN (P : Program) (nm : Nm) : List (Nat × Nat × TypeId × Nat) -> List SV -> SH -> (List SV -> SH -> zAN R) -> zAN R
 | [], env, h, K => K env h
 | (kb, i, el, k) :: l, env, h, K => match slk kb h.l with
   | some (.cells e _ cs) => (match zH cs i with
     | some v => cond (qEC v) (match szT P el, qDY P 8 el with
       | some (s + 1), some t => cond (Nat.beq t.w (s + 1) && (qC5 nm k env h && (!Nat.beq k kb && !spec P e))) (qIN P nm l env ((h.new k fun v => .list el true v v t []).put kb fun v => .cells e v (xB cs i (.own k h.next 0))) K) .fail
       | _, _ => .fail) (qIN P nm l env h K)
     | none => .fail)
   | _ => .fail
theorem tQ : ∀ {l : List (Nat × Nat × TypeId × Nat)} {env : List SV} {h : SH} {K : List SV -> SH -> zAN R}, OkH P h -> okL h env -> (qIN P nm l env h K).run = some r ->
 ∃ h', Wk P nm (qB env) (qE h.l) (qB env) (qE h'.l) ∧ Keep h h' ∧ OkH P h' ∧ (K env h').run = some r
 | [], env, h, K, ho, he, e => ⟨h, .refl _ _, .refl _, ho, e⟩
 | (kb, i, el, k) :: l, env, h, K, ho, he, e => by
   unfold qIN at e;split at e
   case h_2 => cases e
   rename_i eb wb cs hkb;split at e
   case h_2 => cases e
   rename_i v hv
   cases hn : qEC v with
   | false =>
     rw [hn] at e;exact tQ (l := l) ho he e
   | true =>
     rw [hn] at e;simp only [cond_true] at e;split at e
     case h_2 => cases e
     rename_i s t hs ht;obtain ⟨c, e1⟩ := qG e;simp only [zKI] at c;have hw : t.w = s + 1 := zKJ c.1
     have hne : k ≠ kb := fun q => by
      have := c.2.2.1;rw [q, rO] at this;cases this
     have hsp : spec P eb = false := by simpa using c.2.2.2
     have hn2 := kD (k := k) (f := fun v => .list el true v v t []) ho ⟨rfl, rfl, by rw [hs, hw], by omega⟩;have hok : (SV.own k h.next 0).ok (h.new k fun v => .list el true v v t []) := vR (xs := ([] : List t.sem)) rfl
     have zIH : slk kb (h.new k fun v => .list el true v v t []).l = some (.cells eb wb cs) := by
      rw [show slk kb (h.new k fun v => .list el true v v t []).l = slk kb h.l from yA hne.symm]; exact hkb
     have hcs : okL (h.new k fun v => .list el true v v t []) cs := qL hn2.1 (ho.cells _ _ _ _ hkb);have hp2 := aF (k := kb) (f := fun v => .cells eb v (xB cs i (.own k h.next 0))) hn2.2 zIH ⟨rfl, xY hcs hok⟩
     have hfr : fresh nm k (qB env) (qE h.l) = true := by
      have c2 := c.2.1;unfold qC5 at c2;simp only [zKI] at c2;unfold fresh;rw [c2.1, c2.2.1, vW c2.2.2]; rfl
     obtain ⟨h', b1, b2, b3, b4⟩ := tQ (l := l) hp2.2 (qL hp2.1 (qL hn2.1 he)) e1;refine ⟨h', ?_, hn2.1.trans (hp2.1.trans b2), b3, b4⟩;have hk := yY hkb
     have := Wk.zG1 (P := P) (nm := nm) (env := qB env) kb i k el hk hsp rfl (by
      show zH (qB cs) i = _
      rw [zK, hv, zKU, qDU hn]) hs hfr hne
     refine Wk.trans this ?_
     have he2 : (k, (⟨el, true, []⟩ : PO)) :: kU kb ⟨(SO.cells eb wb cs).enc.el, false, xB (SO.cells eb wb cs).enc.cs i (.own k 0 0 0)⟩ (qE h.l) = qE (((h.new k fun v => .list el true v v t []).put kb fun v => .cells eb v (xB cs i (.own k h.next 0))).l) := by
      show _ = qE (sst kb _ ((k, _) :: h.l));have : (kb == k) = false := by simpa using hne.symm
      show _ = qE (cond (kb == k) _ ((k, _) :: sst kb _ h.l));rw [this];show _ = (k, _) :: qE (sst kb _ h.l);rw [vM];simp [SO.enc, kE, SV.enc]
     rw [he2];exact b1
def qEJ (P : Program) : List Nat -> SH -> SH
 | [], h => h
 | kb :: l, h => match slk kb h.l with
   | some (.cells el _ cs) => (match qDY P 8 el with
     | some t => (match t.zC5 cs with
       | some x => qEJ P l (h.put kb fun v => .cells el v (t.svs x))
       | none => qEJ P l h)
     | none => qEJ P l h)
   | _ => qEJ P l h
theorem mI : ∀ {bs : List Nat} {h : SH}, OkH P h -> Keep h (qEJ P bs h) ∧ OkH P (qEJ P bs h) ∧ ∀ l, qA l (qE (qEJ P bs h).l) = qA l (qE h.l)
 | [], h, ho => ⟨.refl _, ho, fun _ => rfl⟩
 | kb :: bs, h, ho => by
   unfold qEJ;split
   ·rename_i el w cs hk;split
    ·rename_i t ht;split
     ·rename_i x hx;have hp := aF (k := kb) (f := fun v => .cells el v (t.svs x)) ho hk ⟨rfl, qDH t x⟩;obtain ⟨a1, a2, a3⟩ := mI (bs := bs) hp.2;refine ⟨hp.1.trans a1, a2, fun l => (a3 l).trans ?_⟩;show qA l (qE (sst kb _ h.l)) = _;rw [vM, zA];split
      ·rename_i e;rw [e.1, yY hk];show some (⟨el, false, qB (t.svs x)⟩ : PO) = some ⟨el, false, qB cs⟩;rw [gD, nM hx]
      ·rfl
     ·exact mI (bs := bs) ho
    ·exact mI (bs := bs) ho
   ·exact mI (bs := bs) ho
omit [Yl] in
theorem Wk.ext {pe : List PV} {a b : PHp} (h : ∀ l, qA l b = qA l a) : Wk P nm pe a pe b := fun Z H m vs hp hv => by
 have e : own m b = own m a := qCA h;exact ⟨Z, m, by rw [e]; exact hp, by rw [e]; exact hv, by rw [e]; exact .refl _ _ _, by rw [e]; exact .refl _ _⟩
def qTA (P : Program) (nm : Nm) (bs : List Nat) (bv : List (Nat × Nat × TypeId × Nat)) (env : List SV) (h : SH) (K : List SV -> SH -> zAN R) : zAN R := qIN P nm bv env h fun env h => K env (qEJ P bs h)
theorem qJO {bs : List Nat} {l : List (Nat × Nat × TypeId × Nat)} {K : List SV -> SH -> zAN R} (ho : OkH P h) (he : okL h env) (e : (qTA P nm bs l env h K).run = some r) :
 ∃ h', Wk P nm (qB env) (qE h.l) (qB env) (qE h'.l) ∧ Keep h h' ∧ OkH P h' ∧ (K env h').run = some r := by
 obtain ⟨h', a1, a2, a3, a4⟩ := tQ (nm := nm) ho he e;obtain ⟨b1, b2, b3⟩ := mI (bs := bs) a3;exact ⟨_, a1.trans (.ext b3), a2.trans b1, b2, a4⟩
end
end Go.Sv
namespace Go.Sv
open Go.Idl
noncomputable section
variable [Gc]
variable [Yl]
variable {P : Program} {R : Type} {r : R} {nm : Nm}
def q94 : SV -> Option Ty
 | .d t _ => cond t.one (some t) none
 | .c (.int k _) => some (.int k)
 | .c (.bool _) => some .bool
 | .c (.string _) => some .str
 | _ => none
def tyV : SV -> Option Ty
 | .agg l => tyL (l.map q94)
 | v => q94 v
def q85 : List SV -> Option (List Ty)
 | [] => some []
 | v :: l => match tyV v, q85 l with
   | some t, some ts => some (t :: ts)
   | _, _ => none
def q8I (t : Ty) (v : SV) : Option t.sem := cond t.one (t.zEW v) (match v with
 | .agg l => t.zC5 l
 | _ => none)
theorem qO3 {t : Ty} {v : SV} {x : t.sem} (e : q8I t v = some x) : v.enc = t.pv x := by
 unfold q8I at e;unfold Ty.pv
 cases ht : t.one with
 | true => rw [ht] at e; exact (sK e).1
 | false =>
   rw [ht] at e;simp only [cond_false] at e ⊢;split at e
   ·simp only [SV.enc, nM e]
   ·cases e
def qCQ : (ts : List Ty) -> List SV -> Option (TyL ts)
 | [], [] => some ()
 | [t], [v] => q8I t v
 | t :: u :: ts, v :: vs => match q8I t v with
   | some x => (match qCQ (u :: ts) vs with
     | some y => some (x, y)
     | none => none)
   | none => none
 | _, _ => none
theorem oH : ∀ {ts : List Ty} {l : List SV} {s : TyL ts}, qCQ ts l = some s -> qB l = qB (svL ts s)
 | [], [], s, e => by simp [svL]
 | [t], [v], s, e => by
   unfold qCQ at e;simp only [svL, qB, nI, qO3 e]
 | t :: u :: ts, v :: vs, s, e => by
   unfold qCQ at e;split at e
   ·rename_i x hx;split at e
    ·rename_i y hy;cases e;have ih := oH hy;show qB (v :: vs) = qB (t.sv x :: svL (u :: ts) y);simp only [qB, nI, qO3 hx, ih]
    ·cases e
   ·cases e
 | [], _ :: _, _, e => by cases e
 | t :: ts, [], _, e => by cases ts <;> (unfold qCQ at e; cases e)
 | [_], _ :: _ :: _, _, e => by unfold qCQ at e; cases e
def qIM : List Nat -> List SV -> Option (List SV)
 | [], _ => some []
 | i :: is, env => match zH env i, qIM is env with
   | some v, some l => some (v :: l)
   | _, _ => none
def spD : SpO -> Option SV
 | .map es => some (.d .raw es)
 | .iter s pos => some (.agg [.d .str s, .d (.int .i64) (pos : Int)])
 | .mit _ _ _ _ _ => none
def obD : SO -> Option (SV × Bool)
 | .list el gr _ _ u xs => cond (Nat.beq el 1000000001) none (some (.d (.list el u) xs, gr))
 | .spc _ x => (spD x).map fun v => (v, false)
 | .cells _ _ _ => none
def qW3 : List Nat -> SH -> Option (List SV)
 | [], _ => some []
 | k :: ks, h => match slk k h.l, qW3 ks h with
   | some ob, some l => (match obD ob with
     | some p => some (p.1 :: l)
     | none => none)
   | _, _ => none
def q2V : List Nat -> SH -> Option (List (Nat × Bool))
 | [], _ => some []
 | k :: ks, h => match slk k h.l, q2V ks h with
   | some ob, some l => (match obD ob with
     | some p => some ((k, p.2) :: l)
     | none => none)
   | _, _ => none
def qDA (i : Nat) : List Nat -> Bool
 | [] => false
 | j :: l => cond (Nat.beq i j) true (qDA i l)
omit [Yl] in
theorem wJ {i : Nat} : ∀ {l : List Nat}, qDA i l = true ↔ i ∈ l
 | [] => by simp [qDA]
 | j :: l => by
   unfold qDA;rw [zK5]
   cases h : Nat.beq i j with
   | true => simp [zKJ h]
   | false =>
     have : i ≠ j := fun e => by subst e; rw [rO] at h; cases h
     simp only [cond_false, wJ (l := l), this, false_or]
def blank (W : List Nat) : Nat -> List SV -> List SV
 | _, [] => []
 | i, x :: l => cond (qDA i W) .unk x :: blank W (i + 1) l
omit [Yl] in
theorem qAS (W : List Nat) : ∀ (i : Nat) (l : List SV), (blank W i l).length = l.length
 | _, [] => rfl
 | i, x :: l => by simp [blank, qAS W (i + 1) l]
omit [Yl] in
theorem qBQ (W : List Nat) : ∀ (i j : Nat) (l : List SV), zH (blank W i l) j = (zH l j).map fun x => cond (qDA (i + j) W) SV.unk x
 | _, _, [] => rfl
 | i, 0, x :: l => rfl
 | i, j + 1, x :: l => by
   show zH (blank W (i + 1) l) j = (zH l j).map _;rw [qBQ W (i + 1) j l, zMB, zNC 1 j]
omit [Yl] in
theorem qNA {h : SH} {W : List Nat} : ∀ {i : Nat} {l : List SV}, okL h l -> okL h (blank W i l)
 | _, [], _ => by simp [blank, okL]
 | i, x :: l, hl => by
   simp only [okL] at hl;show okL h (cond (qDA i W) .unk x :: blank W (i + 1) l);simp only [okL];refine ⟨?_, qNA hl.2⟩;cases qDA i W
   ·exact hl.1
   ·simp [SV.ok]
def eB : List Nat -> List SV -> List SV -> List SV × List SV
 | [], l, env => (env, l)
 | i :: is, c :: l, env => eB is l (xB env i c)
 | _ :: _, [], env => (env, [])
def q5O (P : Program) (gr : Bool) : SV -> Option (Nat -> SO)
 | .d (.list el u) xs => (match szT P el with
   | some n => cond (Nat.beq n u.w && (Nat.ble 1 n && !Nat.beq el 1000000001)) (some fun v => .list el gr v v u xs) none
   | none => none)
 | .d .raw es => some fun v => .spc v (.map es)
 | .agg [.d .str s, .d (.int .i64) p] => some fun v => .spc v (.iter s (Int.toNat p))
 | _ => none
def q4M (P : Program) : List (Nat × Bool) -> List SV -> SH -> Option SH
 | [], [] => fun h => some h
 | (k, gr) :: ks, c :: l => fun h => (match q5O P gr c with
   | some f => q4M P ks l ((h.del k).new k f)
   | none => none)
 | _, _ => fun _ => none
def mkM : Nat := 1000000000000000
def q0U : List (Nat × Nat) -> SH -> List SV -> Option (List SV)
 | [], _, env => some env
 | (i, k) :: l, h, env => cond (Nat.ble mkM k) (q0U l h (xB env i (.mp (k - mkM)))) (match slk k h.l with
   | some (.list _ _ g _ _ xs) => q0U l h (xB env i (.own k g (List.length xs)))
   | _ => none)
def q7Y (j : Nat) : Bool := Nat.beq j 1000000000
def q8R (k w : Nat) : SV -> Option Bool
 | .ref k' off w' => cond (Nat.beq k k' && (Nat.beq off 0 && Nat.beq w w')) (some true) none
 | .c (.pointer none) => some false
 | .opt b k' off w' => cond (Nat.beq k k' && (Nat.beq off 0 && Nat.beq w w')) (some b) none
 | _ => none
theorem qYJ {k w : Nat} {v : SV} {b : Bool} (e : q8R k w v = some b) : v.enc = (SV.opt b k 0 w).enc := by
 have eqs : ∀ {k' off w' : Nat} {x y : Option Bool}, cond (Nat.beq k k' && (Nat.beq off 0 && Nat.beq w w')) x none = y -> y ≠ none -> k = k' ∧ off = 0 ∧ w = w' ∧ x = y := fun {k' off w' x y} h hy => by
  cases hc : (Nat.beq k k' && (Nat.beq off 0 && Nat.beq w w')) with
  | false => rw [hc] at h; exact absurd h.symm hy
  | true =>
    rw [hc] at h;simp only [zKI] at hc;exact ⟨zKJ hc.1, zKJ hc.2.1, zKJ hc.2.2, h⟩
 unfold q8R at e;split at e
 ·obtain ⟨rfl, rfl, rfl, h⟩ := eqs e (by simp);cases h; simp [SV.enc]
 ·cases e; simp [SV.enc]
 ·obtain ⟨rfl, rfl, rfl, h⟩ := eqs e (by simp);cases h; simp [SV.enc]
 ·cases e
def q1R (k w : Nat) : List (Option Nat) -> List SV -> Option (List SV)
 | [], [] => some []
 | none :: ds, v :: l => (match q1R k w ds l with
   | some r => some (v :: r)
   | none => none)
 | some j :: ds, v :: l => cond (q7Y j) (match q8R k w v, q1R k w ds l with
   | some b, some r => some (.d .bool b :: r)
   | _, _ => none) (q1R k w ds l)
 | _, _ => none
def qK4 (k : Nat) (v : SV) (h : SH) : Bool := match v with
 | .own k' g _ => Nat.beq k' k && (match slk k' h.l with
   | some (.list _ _ g' _ _ _) => Nat.beq g g'
   | _ => false)
 | _ => false
def q3H : List (Option Nat) -> List SV -> SH -> Bool
 | some k :: ds, v :: l, h => cond (q7Y k) true (qK4 k v h) && q3H ds l h
 | none :: ds, _ :: l, h => q3H ds l h
 | _, _, _ => true
def mkB (kb w : Nat) : List (Option Nat) -> List SV -> SH -> Option (List SV × List SV)
 | [], l, _ => some ([], l)
 | none :: ds, c :: l, h => (match mkB kb w ds l h with
   | some p => some (c :: p.1, p.2)
   | none => none)
 | some k :: ds, l, h => cond (q7Y k) (match l with
   | c :: l' => (match asB c, mkB kb w ds l' h with
     | some b, some p => some (.opt b kb 0 w :: p.1, p.2)
     | _, _ => none)
   | [] => none) (match slk k h.l with
   | some (.list _ _ g _ _ xs) => (match mkB kb w ds l h with
     | some p => some (.own k g (List.length xs) :: p.1, p.2)
     | none => none)
   | _ => none)
 | none :: _, [], _ => none
def q5I (h1 : SH) : List (Nat × List (Option Nat)) -> List SV -> SH -> Option SH
 | [], _, h => some h
 | (k, ds) :: bs, l, h => match slk k h1.l with
   | some (.cells el _ _) => (match mkB k (List.length ds) ds l h with
     | some p => q5I h1 bs p.2 ((h.del k).new k fun v => .cells el v p.1)
     | none => none)
   | _ => none
def q0I : List (Nat × List (Option Nat)) -> SH -> Option (List SV)
 | [], _ => some []
 | (k, ds) :: bs, h => match slk k h.l with
   | some (.cells _ _ l) => (match q1R k (List.length ds) ds l, q0I bs h with
     | some a, some b => some (a ++ b)
     | _, _ => none)
   | _ => none
def qGP (L : List Nat) (bs : List (Nat × List (Option Nat))) (h1 h : SH) : Bool := bs.all fun p => qDA p.1 L && ((p.2.all fun x => match x with
 | some k => !qDA k L
 | none => true) && (match slk p.1 h1.l, slk p.1 h.l with
 | some (.cells e1 _ _), some (.cells e2 _ l) => Nat.beq e1 e2 && q3H p.2 l h
 | _, _ => false))
def mkS (P : Program) (W : List Nat) (sh : Sh) (ts : List Ty) (os : List (Nat × Bool)) (env : List SV) (h : SH) (s : TyL ts) : Option (List SV × SH) :=
 match q4M P os ((eB sh.d (svL ts s) (blank W 0 env)).2.take os.length) h with
 | some h2 => (match q5I h sh.b ((eB sh.d (svL ts s) (blank W 0 env)).2.drop os.length) h2 with
   | some h3 => (match q0U sh.s h3 (eB sh.d (svL ts s) (blank W 0 env)).1 with
     | some e2 => some (e2, h3)
     | none => none)
   | none => none)
 | none => none
omit [Yl] in
theorem qGA {l m : List PV} {i : Nat} {x : PV} (h : WkP l m) (hx : zH l i = some x) : WkP l (xB m i x) := by
 rw [zB];rw [qF] at hx
 have hl : l.length = (m.set i x).length := by
  rw [zNK];clear hx
  induction h with
  | nil => rfl
  | same _ ih => simp [ih]
  | any _ ih => simp [ih]
 have hp : ∀ j : Nat, m[j]? = l[j]? ∨ m[j]? = some PV.unk := by
  clear hx hl
  induction h with
  | nil => intro j; exact .inl rfl
  | same _ ih => intro j; cases j with
    | zero => exact .inl rfl
    | succ j => exact ih j
  | any _ ih => intro j; cases j with
    | zero => exact .inr rfl
    | succ j => exact ih j
 refine qVH hl fun j => ?_
 rw [qF, qF, zLD];by_cases e : i = j
 ·subst e;rw [if_pos rfl];split
  ·exact .inl hx.symm
  ·rename_i hlt;have hlt' : i < l.length := (zKN.1 hx).1;rw [hl, zNK] at hlt';exact absurd hlt' hlt
 ·rw [if_neg e];exact hp j
theorem qVO : ∀ {is : List Nat} {env l b m rest : List SV}, qIM is env = some l -> qB (l ++ b) = qB m -> WkP (qB env) (qB rest) -> WkP (qB env) (qB (eB is m rest).1) ∧ qB (eB is m rest).2 = qB b
 | [], env, l, b, m, rest, e, hm, hw => by
   cases e;exact ⟨hw, hm.symm⟩
 | i :: is, env, l, b, m, rest, e, hm, hw => by
   unfold qIM at e;split at e
   ·rename_i v l' hv hl';cases e
    cases m with
    | nil => simp [qB] at hm
    | cons c m =>
      simp only [zMG, qB, zLB] at hm;show WkP (qB env) (qB (eB is m (xB rest i c)).1) ∧ qB (eB is m (xB rest i c)).2 = qB b;refine qVO hl' hm.2 ?_;rw [kE, <- hm.1];exact qGA hw (by rw [zK, hv]; rfl)
   ·cases e
omit [Yl] in
theorem qEU : ∀ (is : List Nat) (l env : List SV), (eB is l env).1.length = env.length
 | [], l, env => rfl
 | i :: is, [], env => rfl
 | i :: is, c :: l, env => by
   show (eB is l (xB env i c)).1.length = _;rw [qEU is l, jJ]
omit [Yl] in
theorem qLH {h : SH} : ∀ {is : List Nat} {l env : List SV}, okL h l -> okL h env -> okL h (eB is l env).1
 | [], l, env, _, he => he
 | i :: is, [], env, _, he => he
 | i :: is, c :: l, env, hl, he => by
   simp only [okL] at hl;show okL h (eB is l (xB env i c)).1;exact qLH hl.2 (xY he hl.1)
omit [Yl] in
theorem qFW : ∀ {is : List Nat} {l env : List SV} {j : Nat}, j ∉ is -> zH (eB is l env).1 j = zH env j
 | [], l, env, j, _ => rfl
 | i :: is, [], env, j, _ => rfl
 | i :: is, c :: l, env, j, hj => by
   rw [zK5, not_or] at hj;show zH (eB is l (xB env i c)).1 j = _;rw [qFW hj.2, zB, qF, qF, zLD, if_neg (fun e => hj.1 e.symm)]
omit [Yl] in
theorem qJ1 {k : Nat} {gr : Bool} {ks : List (Nat × Bool)} {c : SV} {l : List SV} {h h2 : SH} (e : q4M P ((k, gr) :: ks) (c :: l) h = some h2) :
 ∃ f, q5O P gr c = some f ∧ q4M P ks l ((h.del k).new k f) = some h2 := by
 unfold q4M at e;split at e
 ·rename_i f hf; exact ⟨f, hf, e⟩
 ·cases e
omit [Yl] in
theorem qZE {gr : Bool} {c : SV} {f : Nat -> SO} (e : q5O P gr c = some f) (h : SH) (n : Nat) : q6O P h n (f n) := by
 unfold q5O at e;split at e
 ·rename_i el u xs;split at e
  ·rename_i m hm
   cases hc : (Nat.beq m u.w && (Nat.ble 1 m && !Nat.beq el 1000000001)) with
   | false => rw [hc] at e; cases e
   | true =>
     rw [hc] at e;cases e;simp only [zKI] at hc;have hw : m = u.w := zKJ hc.1;have h1 := zKS hc.2.1;exact ⟨rfl, rfl, by rw [hm, hw], by omega⟩
  ·cases e
 ·cases e; rfl
 ·cases e; rfl
 ·cases e
omit [Yl] in
theorem qK6 : ∀ {os : List (Nat × Bool)} {l : List SV} {h h2 : SH}, OkH P h -> q4M P os l h = some h2 -> Keep h h2 ∧ OkH P h2 ∧ ∀ k, k ∉ os.map (·.1) -> slk k h2.l = slk k h.l
 | [], [], h, h2, ho, e => by cases e; exact ⟨.refl _, ho, fun _ _ => rfl⟩
 | (k, gr) :: ks, c :: l, h, h2, ho, e => by
   obtain ⟨f, hf, e1⟩ := qJ1 e;have hd := eG (k := k) ho;have hn2 := kD (h := h.del k) (k := k) (f := f) hd.2 (qZE hf _ _);obtain ⟨a1, a2, a3⟩ := qK6 hn2.2 e1;refine ⟨hd.1.trans (hn2.1.trans a1), a2, fun j hj => ?_⟩;rw [zKZ, zK5, not_or] at hj;rw [a3 j hj.2];show slk j ((k, _) :: (h.del k).l) = _;rw [yA hj.1];exact kZ hj.1 _
 | [], _ :: _, _, _, _, e => by cases e
 | _ :: _, [], _, _, _, e => by cases e
def qYD : List FV -> List (Value × Value)
 | .v k :: .v x :: l => (k, x) :: qYD l
 | _ => []
omit [Yl] in
theorem qEP : ∀ (es : List (Value × Value)), qYD (dD es) = es
 | [] => rfl
 | p :: es => by
   show (p.1, p.2) :: qYD (dD es) = _;rw [qEP es]
def obE (gr : Bool) : PV -> Option PO
 | .f (.l el _ cs) => cond (Nat.beq el 1000000001) (some (SpO.map (qYD cs)).enc) (some ⟨el, gr, cs.map .f⟩)
 | .agg [.f (.v (.string s)), .f (.v (.int _ p))] => some (SpO.iter s p.toNat).enc
 | _ => none
theorem q53 {gr : Bool} {c : SV} {f : Nat -> SO} (e : q5O P gr c = some f) (n : Nat) : obE gr c.enc = some (f n).enc := by
 unfold q5O at e;split at e
 ·rename_i el u xs;split at e
  ·rename_i m hm
   cases hc : (Nat.beq m u.w && (Nat.ble 1 m && !Nat.beq el 1000000001)) with
   | false => rw [hc] at e; cases e
   | true =>
     rw [hc] at e;cases e;simp only [zKI, zK7] at hc;simp only [SV.enc, Ty.fv, obE, hc.2.2, cond_false];rfl
  ·cases e
 ·rename_i es;cases e;simp only [SV.enc, Ty.fv, obE];show cond (Nat.beq 1000000001 1000000001) _ _ = _;rw [qEP]; rfl
 ·cases e;simp only [SV.enc, qB, Ty.fv, obE];rfl
 ·cases e
theorem q9G {ob : SO} {p : SV × Bool} (e : obD ob = some p) : obE p.2 p.1.enc = some ob.enc := by
 unfold obD at e;split at e
 ·rename_i el gr g w u xs
  cases hc : Nat.beq el 1000000001 with
  | true => rw [hc] at e; cases e
  | false =>
    rw [hc] at e;cases e;simp only [SV.enc, Ty.fv, obE, hc, cond_false];rfl
 ·rename_i w x
  cases x with
  | map es =>
    cases e;simp only [SV.enc, Ty.fv, obE];show cond (Nat.beq 1000000001 1000000001) _ _ = _;rw [qEP]; rfl
  | iter s pos =>
    cases e;simp only [SV.enc, qB, Ty.fv, obE];rfl
  | mit t j si la seen => cases e
 ·cases e
theorem qND {q : PHp} {B : Nat -> Prop} : ∀ {os : List (Nat × Bool)} {l : List SV} {h h2 : SH}, q4M P os l h = some h2 -> (∀ k o, ¬ B k -> k ∉ os.map (·.1) -> slk k h.l = some o -> qA k q = some o.enc) ->
 (∀ (i : Nat) k gr c, os[i]? = some (k, gr) -> l[i]? = some c -> qA k q = obE gr c.enc) -> ∀ k o, ¬ B k -> slk k h2.l = some o -> qA k q = some o.enc
 | [], [], h, h2, e, h0, _, k, o, hB, hk => by
   cases e;exact h0 k o hB (by simp) hk
 | (j, gr) :: ks, c :: l, h, h2, e, h0, h1, k, o, hB, hk => by
   obtain ⟨f, hf, e1⟩ := qJ1 e;refine qND (q := q) (B := B) e1 (fun k2 o2 hB2 hk2 ho2 => ?_) (fun i k2 gr2 c2 a1 a2 => h1 (i + 1) k2 gr2 c2 (by simpa using a1) (by simpa using a2)) k o hB hk;by_cases hj : k2 = j
   ·subst hj;rw [show slk k2 ((h.del k2).new k2 f).l = some (f (h.del k2).next) from vN] at ho2;cases ho2;rw [h1 0 k2 gr c rfl rfl];exact q53 hf _
   ·rw [show slk k2 ((h.del j).new j f).l = slk k2 (h.del j).l from yA hj, show slk k2 (h.del j).l = slk k2 h.l from kZ hj _] at ho2;exact h0 k2 o2 hB2 (by rw [zKZ, zK5, not_or]; exact ⟨hj, hk2⟩) ho2
 | [], _ :: _, _, _, e, _, _, _, _, _, _ => by cases e
 | _ :: _, [], _, _, e, _, _, _, _, _, _ => by cases e
omit [Yl] in
theorem qBM {h : SH} : ∀ {is : List Nat} {l env : List SV}, okL h l -> okL h (eB is l env).2
 | [], l, env, hl => hl
 | i :: is, [], env, _ => by simp [eB, okL]
 | i :: is, c :: l, env, hl => by
   simp only [okL] at hl;show okL h (eB is l (xB env i c)).2;exact qBM hl.2
omit [Yl] in
theorem qNY {h : SH} {l : List SV} (n : Nat) (hl : okL h l) : okL h (l.drop n) := yC.2 fun x hx => yC.1 hl x (zM8 hx)
theorem qV5 (l : List SV) (n : Nat) : qB (l.take n) = (qB l).take n := by rw [qY, qY, zMX]
theorem qV6 (l : List SV) (n : Nat) : qB (l.drop n) = (qB l).drop n := by rw [qY, qY, zMW]
omit [Yl] in
theorem qM6 {h : SH} (ho : OkH P h) : ∀ {l : List (Nat × Nat)} {env e2 : List SV}, okL h env -> q0U l h env = some e2 -> okL h e2 ∧ e2.length = env.length ∧ ∀ j, j ∉ l.map (·.1) -> zH e2 j = zH env j
 | [], env, e2, he, e => by cases e; exact ⟨he, rfl, fun _ _ => rfl⟩
 | (i, k) :: l, env, e2, he, e => by
   unfold q0U at e
   cases hmk : Nat.ble mkM k with
   | true =>
     rw [hmk] at e;simp only [cond_true] at e;obtain ⟨a1, a2, a3⟩ := qM6 ho (xY (t := i) he (v := .mp (k - mkM)) (by simp [SV.ok])) e;refine ⟨a1, a2.trans (jJ _ _ _), fun j hj => ?_⟩;rw [zKZ, zK5, not_or] at hj;rw [a3 j hj.2, zB, qF, qF, zLD, if_neg (fun e => hj.1 e.symm)]
   | false =>
   rw [hmk] at e;simp only [cond_false] at e;split at e
   ·rename_i el gr g w u xs hk;have hg := (ho.list _ _ _ _ _ _ _ hk).1
    have hok : (SV.own k g (List.length xs)).ok h := by
     simp only [SV.ok];exact ⟨hg, fun el2 gr2 w2 t2 xs2 hk2 => by rw [hk] at hk2; cases hk2; rfl⟩
    obtain ⟨a1, a2, a3⟩ := qM6 ho (xY (t := i) he hok) e;refine ⟨a1, a2.trans (jJ _ _ _), fun j hj => ?_⟩;rw [zKZ, zK5, not_or] at hj;rw [a3 j hj.2, zB, qF, qF, zLD, if_neg (fun e => hj.1 e.symm)]
   ·cases e
omit [Yl] in
theorem qI9 {kb w : Nat} {h : SH} (ho : OkH P h) : ∀ {ds : List (Option Nat)} {l : List SV} {p : List SV × List SV}, okL h l -> mkB kb w ds l h = some p -> okL h p.1 ∧ okL h p.2
 | [], l, p, hl, e => by cases e; exact ⟨by simp [okL], hl⟩
 | none :: ds, c :: l, p, hl, e => by
   unfold mkB at e;simp only [okL] at hl;split at e
   ·rename_i q hq;cases e;have ih := qI9 ho hl.2 hq;exact ⟨by simp only [okL]; exact ⟨hl.1, ih.1⟩, ih.2⟩
   ·cases e
 | some k :: ds, l, p, hl, e => by
   unfold mkB at e
   cases hm : q7Y k with
   | true =>
     rw [hm] at e;simp only [cond_true] at e;split at e
     ·simp only [okL] at hl;split at e
      ·rename_i b q hb hq;cases e;have ih := qI9 ho hl.2 hq;exact ⟨by simp only [okL]; exact ⟨by simp [SV.ok], ih.1⟩, ih.2⟩
      ·cases e
     ·cases e
   | false =>
   rw [hm] at e;simp only [cond_false] at e;split at e
   ·rename_i el gr g w u xs hk;split at e
    ·rename_i q hq;cases e;have ih := qI9 ho hl hq;have hg := (ho.list _ _ _ _ _ _ _ hk).1;refine ⟨?_, ih.2⟩;simp only [okL, SV.ok];exact ⟨⟨hg, fun el2 gr2 w2 t2 xs2 hk2 => by rw [hk] at hk2; cases hk2; rfl⟩, ih.1⟩
    ·cases e
   ·cases e
 | none :: _, [], _, _, e => by cases e
omit [Yl] in
theorem qMQ {h1 : SH} : ∀ {bs : List (Nat × List (Option Nat))} {l : List SV} {h h2 : SH}, OkH P h -> okL h l -> q5I h1 bs l h = some h2 -> Keep h h2 ∧ OkH P h2 ∧ ∀ k, k ∉ bs.map (·.1) -> slk k h2.l = slk k h.l
 | [], l, h, h2, ho, hl, e => by cases e; exact ⟨.refl _, ho, fun _ _ => rfl⟩
 | (k, ds) :: bs, l, h, h2, ho, hl, e => by
   unfold q5I at e;split at e
   ·rename_i el w0 l0 hk0;split at e
    ·rename_i p hp;obtain ⟨m1, m2⟩ := qI9 ho hl hp;have hd := eG (k := k) ho;have hn2 := kD (h := h.del k) (k := k) (f := fun v => .cells el v p.1) hd.2 ⟨rfl, qL hd.1 m1⟩;obtain ⟨a1, a2, a3⟩ := qMQ hn2.2 (qL hn2.1 (qL hd.1 m2)) e;refine ⟨hd.1.trans (hn2.1.trans a1), a2, fun j hj => ?_⟩;rw [zKZ, zK5, not_or] at hj;rw [a3 j hj.2];show slk j ((k, _) :: (h.del k).l) = _;rw [yA hj.1];exact kZ hj.1 _
    ·cases e
   ·cases e
theorem qML {h h2 : SH} (ho : OkH P h) (ho2 : OkH P h2) {k : Nat} {v : SV} {el : TypeId} {gr : Bool} {g w : Nat} {u : Ty} {xs : List u.sem} (hv : v.ok h) (c : qK4 k v h = true) (hk : slk k h2.l = some (.list el gr g w u xs)) (h1 : qA k (qE h.l) = some (SO.list el gr g w u xs).enc) :
 v.enc = (SV.own k g xs.length).enc := by
 unfold qK4 at c;split at c
 ·rename_i k' g' n';rw [zKI] at c;have hkk : k' = k := zKJ c.1;subst hkk;have c2 := c.2;split at c2
  ·rename_i el3 gr3 g3 w3 u3 xs3 hk3;have hg : g' = g3 := zKJ c2;subst hg;simp only [SV.ok] at hv;have hn := hv.2 _ _ _ _ _ hk3;rw [yY hk3] at h1;have h1 := zLK h1;have e1 : el3 = el := congrArg PO.el h1
   have e2' : xs3.length * u3.w = xs.length * u.w := by
    have := congrArg (fun o : PO => o.cs.length) h1;simp only [qV] at this;exact this
   have l1 := ho.list _ _ _ _ _ _ _ hk3;have l2 := ho2.list _ _ _ _ _ _ _ hk
   have hww : u3.w = u.w := by
    have a1 := l1.2.1;have a2 := l2.2.1;rw [e1, a2] at a1;exact (zLK a1).symm
   have hlen : xs3.length = xs.length := by
    rw [hww] at e2';exact Nat.eq_of_mul_eq_mul_right l2.2.2 e2'
   simp only [SV.enc, hn, hlen]
  ·cases c2
 ·cases c
theorem qFG {kb w : Nat} {hn h : SH} (hon : OkH P hn) (ho : OkH P h) : ∀ {ds : List (Option Nat)} {l ln dl rest : List SV} {p : List SV × List SV}, mkB kb w ds l h = some p -> q1R kb w ds ln = some dl -> q3H ds ln hn = true -> qB (dl ++ rest) = qB l -> okL hn ln ->
 (∀ k o, some k ∈ ds -> slk k h.l = some o -> qA k (qE hn.l) = some o.enc) -> qB p.1 = qB ln ∧ qB p.2 = qB rest
 | [], l, ln, dl, rest, p, e, ec, eo, hl, hok, hq => by
   cases e
   cases ln with
   | nil => cases ec; exact ⟨rfl, hl.symm⟩
   | cons _ _ => cases ec
 | none :: ds, c :: l, ln, dl, rest, p, e, ec, eo, hl, hok, hq => by
   unfold mkB at e;split at e
   ·rename_i q hm;cases e
    cases ln with
    | nil => cases ec
    | cons v ln =>
      unfold q1R at ec;split at ec
      ·rename_i r hr;cases ec;simp only [zMG, qB, zLB] at hl;simp only [okL] at hok;obtain ⟨a1, a2⟩ := qFG hon ho hm hr (by unfold q3H at eo; exact eo) hl.2 hok.2 fun k o hk ho => hq k o (zKQ _ hk) ho
       exact ⟨by simp only [qB, a1, hl.1], a2⟩
      ·cases ec
   ·cases e
 | some k :: ds, l, ln, dl, rest, p, e, ec, eo, hl, hok, hq => by
   unfold mkB at e
   cases hmk : q7Y k with
   | true =>
     rw [hmk] at e;simp only [cond_true] at e;split at e
     case h_2 => cases e
     rename_i c l';split at e
     case h_2 => cases e
     rename_i b q hb hm;cases e
     cases ln with
     | nil => cases ec
     | cons v ln =>
       unfold q1R at ec;rw [hmk] at ec;simp only [cond_true] at ec;split at ec
       case h_2 => cases ec
       rename_i b2 r hb2 hr;cases ec;simp only [okL] at hok;unfold q3H at eo;rw [zKI] at eo;simp only [zMG, qB, zLB] at hl;obtain ⟨a1, a2⟩ := qFG hon ho hm hr eo.2 hl.2 hok.2 fun k o hk ho => hq k o (zKQ _ hk) ho
       refine ⟨?_, a2⟩
       have hbb : b2 = b := by
        have := hl.1;rw [o7 hb] at this;simp only [SV.enc, Ty.fv, fvv] at this;injection this with this;injection this with this;injection this
       simp only [qB, a1, qYJ hb2, hbb]
   | false =>
   rw [hmk] at e;simp only [cond_false] at e;split at e
   ·rename_i el gr g w u xs hk;split at e
    ·rename_i q hm;cases e
     cases ln with
     | nil => cases ec
     | cons v ln =>
       unfold q1R at ec;rw [hmk] at ec;simp only [cond_false] at ec;simp only [okL] at hok;unfold q3H at eo;rw [hmk, zKI] at eo;simp only [cond_false] at eo;obtain ⟨a1, a2⟩ := qFG hon ho hm ec eo.2 hl hok.2 fun k o hk ho => hq k o (zKQ _ hk) ho
       refine ⟨?_, a2⟩;simp only [qB, a1];rw [qML hon ho hok.1 eo.1 hk (hq k _ zKW hk)]
    ·cases e
   ·cases e
 | none :: _, [], _, _, _, _, e, _, _, _, _, _ => by cases e
theorem qOE {hn h1 : SH} {L : List Nat} (hon : OkH P hn) : ∀ {bs : List (Nat × List (Option Nat))} {l c rest : List SV} {h h2 : SH}, OkH P h -> okL h l -> q5I h1 bs l h = some h2 -> q0I bs hn = some c -> qB (c ++ rest) = qB l -> qGP L bs h1 hn = true ->
 (∀ k o, slk k h.l = some o -> k ∉ bs.map (·.1) -> qA k (qE hn.l) = some o.enc) -> (∀ k o, slk k h.l = some o -> k ∉ L -> qA k (qE hn.l) = some o.enc) -> ∀ k o, slk k h2.l = some o -> qA k (qE hn.l) = some o.enc
 | [], l, c, rest, h, h2, ho, hl, e, ec, hc, hb, hq, _, k, o, hk => by
   cases e;exact hq k o hk (by simp)
 | (j, ds) :: bs, l, c, rest, h, h2, ho, hl, e, ec, hc, hb, hq, hqL, k, o, hk => by
   unfold qGP at hb;rw [zLO, zKI, zKI, zKI] at hb;obtain ⟨⟨b0, b1, b2⟩, b3⟩ := hb;unfold q5I at e;split at e
   case h_2 => cases e
   rename_i el w0 l0 hk0;split at e
   case h_2 => cases e
   rename_i p hp;rw [hk0] at b2;simp only at b2;unfold q0I at ec;split at ec
   case h_2 => cases ec
   rename_i el2 w2 ln hkn;rw [hkn] at b2;simp only [zKI] at b2;split at ec
   case h_2 => cases ec
   rename_i a b ha hb2;cases ec;have hel : el = el2 := zKJ b2.1;subst hel;obtain ⟨m1, m2⟩ := qI9 ho hl hp
   obtain ⟨q1, q2⟩ := qFG hon ho hp ha b2.2 (rest := b ++ rest) (by rw [<- zLG]; exact hc) (hon.cells _ _ _ _ hkn) (fun k o hk ho2 => hqL k o ho2 fun hm => by
    have := zKL.1 b1 (some k) hk;simp only [wJ.2 hm] at this
    cases this)
   have hd := eG (k := j) ho;have hn2 := kD (h := h.del j) (k := j) (f := fun v => .cells el v p.1) hd.2 ⟨rfl, qL hd.1 m1⟩
   have look : ∀ i, i ≠ j -> slk i ((h.del j).new j fun v => .cells el v p.1).l = slk i h.l := fun i hi => by
    show slk i ((j, _) :: (h.del j).l) = _;rw [yA hi];exact kZ hi _
   have zFF : slk j ((h.del j).new j fun v => .cells el v p.1).l = some (.cells el (h.del j).next p.1) := vN
   have zB7 : qA j (qE hn.l) = some (SO.cells el (h.del j).next p.1).enc := by
    rw [yY hkn];simp [SO.enc, q1]
   refine qOE hon (bs := bs) (c := b) (rest := rest) hn2.2 (qL hn2.1 (qL hd.1 m2)) e hb2 q2.symm b3 (fun i o2 hi hni => ?_) (fun i o2 hi hni => ?_) k o hk
   ·by_cases hij : i = j
    ·subst hij;rw [zFF] at hi; cases hi; exact zB7
    ·rw [look i hij] at hi;exact hq i o2 hi (by rw [zKZ, zK5, not_or]; exact ⟨hij, hni⟩)
   ·by_cases hij : i = j
    ·subst hij;rw [zFF] at hi; cases hi; exact zB7
    ·rw [look i hij] at hi;exact hqL i o2 hi hni
end
end Go.Sv
namespace Go.Sv
open Go.Idl
noncomputable section
variable [Gc]
variable [Yl]
variable {P : Program} {R : Type} {r : R} {nm : Nm}
def q0S (os : List (Nat × Bool)) (h : SH) : Bool := os.all fun p => match slk p.1 h.l with
 | some ob => (match obD ob with
   | some q => q.2 == p.2
   | none => false)
 | none => false
def qMT (l : List (Nat × Nat)) (env : List SV) (h : SH) : Bool := l.all fun p => cond (Nat.ble mkM p.2) (match zH env p.1 with
 | some (.mp k) => Nat.beq k (p.2 - mkM)
 | _ => false) (match zH env p.1 with
 | some (.own k g _) => Nat.beq k p.2 && (match slk k h.l with
   | some (.list _ _ g' _ _ _) => Nat.beq g g'
   | _ => false)
 | _ => false)
def mW (ls : List Nat) (hh h : SH) : Bool := hh.l.all fun p => qDA p.1 ls || (match slk p.1 h.l with
 | some o => Nat.beq o.w p.2.w
 | none => false)
omit [Yl] in
theorem qMS {k : Nat} {o : SO} : ∀ {l : List (Nat × SO)}, slk k l = some o -> (k, o) ∈ l
 | (j, p) :: l, h => by
   have h1 : cond (k == j) (some p) (slk k l) = some o := h;clear h
   cases hj : k == j with
   | true =>
     rw [hj] at h1;have h2 : p = o := zLK h1;have : k = j := by simpa using hj
     rw [this, h2];exact zKW
   | false =>
     rw [hj] at h1;exact zKQ _ (qMS (l := l) h1)
omit [Yl] in
theorem qFZ : ∀ {ks : List Nat} {h : SH} {os : List (Nat × Bool)}, q2V ks h = some os -> os.map (·.1) = ks
 | [], h, os, e => by cases e; rfl
 | k :: ks, h, os, e => by
   unfold q2V at e;split at e
   ·rename_i hk hl;split at e
    ·cases e;rw [zKZ, qFZ hl]
    ·cases e
   ·cases e
omit [Yl] in
theorem qLY : ∀ {ks : List Nat} {h : SH} {os : List (Nat × Bool)}, q2V ks h = some os -> q0S os h = true
 | [], h, os, e => by cases e; rfl
 | k :: ks, h, os, e => by
   unfold q2V at e;split at e
   ·rename_i ob os' hk hl;split at e
    ·rename_i p hp;cases e;have ih := qLY hl;unfold q0S at ih ⊢;rw [zLO, ih];simp only [hk, hp];simp
    ·cases e
   ·cases e
omit [Yl] in
theorem qWL : ∀ {ks : List Nat} {h : SH} {b : List SV}, qW3 ks h = some b -> ∀ (i : Nat) k, ks[i]? = some k -> ∃ ob p, slk k h.l = some ob ∧ obD ob = some p ∧ b[i]? = some p.1
 | [], h, b, e, i, k, hk => by simp at hk
 | j :: ks, h, b, e, i, k, hk => by
   unfold qW3 at e;split at e
   ·rename_i ob l hj hl;split at e
    ·rename_i p hp;cases e
     cases i with
     | zero =>
       simp at hk;subst hk;exact ⟨ob, p, hj, hp, rfl⟩
     | succ i => exact qWL hl i k (by simpa using hk)
    ·cases e
   ·cases e
omit [Yl] in
theorem qO1 : ∀ {ks : List Nat} {h : SH} {b : List SV}, qW3 ks h = some b -> b.length = ks.length
 | [], h, b, e => by cases e; rfl
 | k :: ks, h, b, e => by
   unfold qW3 at e;split at e
   ·rename_i hk hl;split at e
    ·cases e;simp only [zK1, qO1 hl]
    ·cases e
   ·cases e
theorem qLJ {h h2 : SH} {env : List SV} (ho : OkH P h) (ho2 : OkH P h2) (hs : ∀ k o, slk k h2.l = some o -> qA k (qE h.l) = some o.enc) (hen : okL h env) : ∀ {l : List (Nat × Nat)} {m e2 : List SV}, qMT l env h = true -> q0U l h2 m = some e2 -> WkP (qB env) (qB m) -> WkP (qB env) (qB e2)
 | [], m, e2, _, e, hw => by cases e; exact hw
 | (i, k) :: l, m, e2, hc, e, hw => by
   unfold qMT at hc;rw [zLO, zKI] at hc;unfold q0U at e;have c0 := hc.1;simp only at c0
   cases hmk : Nat.ble mkM k with
   | true =>
     rw [hmk] at e c0;simp only [cond_true] at e c0;refine qLJ ho ho2 hs hen hc.2 e ?_;split at c0
     ·rename_i k' hi;have hkk := zKJ c0;rw [kE];refine qGA hw ?_;rw [zK, hi, hkk];rfl
     ·cases c0
   | false =>
   rw [hmk] at e c0;simp only [cond_false] at e c0;split at e
   ·rename_i el gr g w u xs hk;refine qLJ ho ho2 hs hen hc.2 e ?_;have c1 := c0;split at c1
    ·rename_i k' g' n' hi;have c3 : qK4 k (.own k' g' n') h = true := c1;rw [kE];refine qGA hw ?_;rw [zK, hi];show some (SV.own k' g' n').enc = _;rw [qML ho ho2 (eX hen hi) c3 hk (hs k _ hk)]
    ·cases c1
   ·cases e
theorem qUC {W : List Nat} {sh : Sh} {ts : List Ty} {os : List (Nat × Bool)} {zAV e2 b c : List SV} {h1 h h2 : SH} {s : TyL ts} (ho : OkH P h) (ho1 : OkH P h1)
 (hb : qW3 sh.o h = some b) (hcB : q0I sh.b h = some c) (w2 : qB (eB sh.d (svL ts s) (blank W 0 zAV)).2 = qB (b ++ c)) (hm : mkS P W sh ts os zAV h1 s = some (e2, h2)) (hos : os.map (·.1) = sh.o) (hgr : q0S os h = true) (hbx : qGP (sh.b.map (·.1)) sh.b h1 h = true)
 (hkept : ∀ k o, k ∉ sh.o -> k ∉ sh.b.map (·.1) -> slk k h1.l = some o -> qA k (qE h.l) = some o.enc) :
 OkH P h2 ∧ q0U sh.s h2 (eB sh.d (svL ts s) (blank W 0 zAV)).1 = some e2 ∧ ∀ k o, slk k h2.l = some o -> qA k (qE h.l) = some o.enc := by
 unfold mkS at hm;split at hm
 case h_2 => cases hm
 rename_i h3 hso;split at hm
 case h_2 => cases hm
 rename_i h4 hsb;split at hm
 case h_2 => cases hm
 rename_i e3 hss;cases hm;have hlen : os.length = b.length := by rw [qO1 hb, <- hos, zK2]
 have t1 : qB ((eB sh.d (svL ts s) (blank W 0 zAV)).2.take os.length) = qB b := by
  rw [qV5, w2, qY, qY, zLQ, hlen, <- zK2 (as := b) (f := SV.enc), List.take_left]
 have t2 : qB ((eB sh.d (svL ts s) (blank W 0 zAV)).2.drop os.length) = qB c := by
  rw [qV6, w2, qY, qY, zLQ, hlen, <- zK2 (as := b) (f := SV.enc), List.drop_left]
 have zFG : ∀ k o, ¬ k ∈ sh.b.map (·.1) -> slk k h3.l = some o -> qA k (qE h.l) = some o.enc := by
  refine qND (B := fun k => k ∈ sh.b.map (·.1)) hso (fun k o hB hk hk2 => hkept k o (by rw [<- hos]; exact hk) hB hk2) ?_;intro i k gr x hi hx;have hki : sh.o[i]? = some k := by rw [<- hos, zKX, hi]; rfl
  obtain ⟨ob, p, q1, q0, q2⟩ := qWL hb i k hki
  have hce : x.enc = p.1.enc := by
   have e1 : (qB b)[i]? = some p.1.enc := by rw [qY, zKX, q2]; rfl
   rw [<- t1, qY, zKX, hx] at e1;exact zLK e1
  have hg : p.2 = gr := by
   unfold q0S at hgr;have := zKL.1 hgr (k, gr) (zLH hi);simp only [q1, q0] at this;simpa using this
  rw [hce, yY q1, <- hg, q9G q0]
 obtain ⟨k3, ho3, _⟩ := qK6 ho1 hso;have hrest : okL h3 ((eB sh.d (svL ts s) (blank W 0 zAV)).2.drop os.length) := qNY _ (qBM (qBE ts s));have hsub := qOE (L := sh.b.map (·.1)) ho (c := c) (rest := []) ho3 hrest hsb hcB (by rw [zL6]; exact t2.symm) hbx (fun k o hk hn => zFG k o hn hk) (fun k o hk hn => zFG k o hn hk);obtain ⟨_, ho4, _⟩ := qMQ ho3 hrest hsb;exact ⟨ho4, hss, hsub⟩
theorem qF0 {h h2 : SH} (hsub : ∀ k o, slk k h2.l = some o -> qA k (qE h.l) = some o.enc) : oQ (qE h2.l) (qE h.l) := fun k ob hk => by
 rw [uV] at hk;obtain ⟨o, h1, h2⟩ := zKR.1 hk;rw [hsub k o h1, h2]
theorem q7I {W : List Nat} {sh : Sh} {ts : List Ty} {os : List (Nat × Bool)} {zAV env e2 a b c : List SV} {h1 h h2 : SH} {s : TyL ts} (ho : OkH P h) (ho1 : OkH P h1) (hen : okL h env)
 (ha : qIM sh.d env = some a) (hb : qW3 sh.o h = some b) (hcB : q0I sh.b h = some c) (hd : qCQ ts (a ++ (b ++ c)) = some s) (hm : mkS P W sh ts os zAV h1 s = some (e2, h2)) (hos : os.map (·.1) = sh.o) (hgr : q0S os h = true) (hown : qMT sh.s env h = true) (hbx : qGP (sh.b.map (·.1)) sh.b h1 h = true)
 (hkept : ∀ k o, k ∉ sh.o -> k ∉ sh.b.map (·.1) -> slk k h1.l = some o -> qA k (qE h.l) = some o.enc) (hbl : WkP (qB env) (qB (blank W 0 zAV))) :
 WkP (qB env) (qB e2) ∧ oQ (qE h2.l) (qE h.l) := by
 have hde := oH hd;obtain ⟨w1, w2⟩ := qVO (m := svL ts s) ha hde hbl;obtain ⟨ho4, hss, hsub⟩ := qUC ho ho1 hb hcB w2 hm hos hgr hbx hkept;exact ⟨qLJ ho ho4 hsub hen hown hss w1, qF0 hsub⟩
theorem eZ {W : List Nat} {sh : Sh} {ts : List Ty} {os : List (Nat × Bool)} {zAV e2 : List SV} {h1 h2 : SH} {s : TyL ts} (ho1 : OkH P h1) (he1 : okL h1 zAV) (hm : mkS P W sh ts os zAV h1 s = some (e2, h2)) :
 Keep h1 h2 ∧ OkH P h2 ∧ okL h2 e2 ∧ e2.length = zAV.length ∧ (∀ j, j ∉ W -> j ∉ sh.d -> j ∉ sh.s.map (·.1) -> zH (qB e2) j = zH (qB zAV) j) ∧ ∀ k, k ∉ os.map (·.1) -> k ∉ sh.b.map (·.1) -> slk k h2.l = slk k h1.l := by
 unfold mkS at hm;split at hm
 case h_2 => cases hm
 rename_i h3 hso;split at hm
 case h_2 => cases hm
 rename_i h4 hsb;split at hm
 case h_2 => cases hm
 rename_i e3 hss;cases hm;obtain ⟨a1, a2, a3⟩ := qK6 ho1 hso;have hrest : okL h3 ((eB sh.d (svL ts s) (blank W 0 zAV)).2.drop os.length) := qNY _ (qBM (qBE ts s));obtain ⟨c1, c2, c3⟩ := qMQ a2 hrest hsb;have hok : okL h2 (eB sh.d (svL ts s) (blank W 0 zAV)).1 := qLH (qBE ts s) (qNA (qL c1 (qL a1 he1)));obtain ⟨b1, b2, b3⟩ := qM6 c2 hok hss;refine ⟨a1.trans c1, c2, b1, by rw [b2, qEU, qAS], fun j hj hjd hjs => ?_, fun k hk hk2 => (c3 k hk2).trans (a3 k hk)⟩;rw [zK, zK, b3 j hjs, qFW hjd, qBQ]
 have : qDA (0 + j) W = false := by
  cases hq : qDA (0 + j) W with
  | false => rfl
  | true => rw [zLA] at hq; exact absurd (wJ.1 hq) hj
 rw [this];cases zH zAV j <;> rfl
theorem qNX {W : List Nat} {env zAV : List SV} (hl : env.length = zAV.length) (h : ∀ i, i ∉ W -> zH (qB env) i = zH (qB zAV) i) : WkP (qB env) (qB (blank W 0 zAV)) := by
 refine qVH (by rw [qW, qW, qAS, hl]) fun i => ?_
 rw [zK (blank W 0 zAV), qBQ, zLA]
 cases hq : qDA i W with
 | true =>
   cases hx : zH zAV i with
   | none =>
     left
     have : zH env i = none := by
      rw [qF] at hx ⊢;rw [zM6] at hx ⊢;omega
     rw [zK, this]; rfl
   | some x => right; simp [SV.enc]
 | false =>
   left
   have hni : i ∉ W := fun hm => by
    rw [wJ.2 hm] at hq;cases hq
   rw [h i hni, zK zAV];cases zH zAV i <;> rfl
end
end Go.Sv
namespace Go.Sv
open Go.Idl
noncomputable section
abbrev uY (Γ : Option Type) (R : Type) := zBN -> GV Γ -> List SV -> SH -> zAN R
def zAN.sum {R : Type} {α β : Type} (x : α ⊕ β) (f : α -> zAN R) (g : β -> zAN R) : zAN R := Sum.rec f g x
variable [Gc]
variable [Yl]
variable {P : Program} {Γ : Option Type} {R : Type} {r : R} {nm : Nm} {G : Nat -> Bool} {rd : Bool} {N : Nat} {rs : List Ty} {wd : Wld (GV Γ)}
def EQ (P : Program) (N : Nat) (w : List Nat) (env : List SV) (h : SH) (K : uY Γ R) (r : R) : YQ (GV Γ) := fun e g pe ph =>
 ∃ env' h', pe = qB env' ∧ ph = qE h'.l ∧ okL h' env' ∧ OkH P h' ∧ env'.length = N ∧ Keep h h' ∧ (e ≠ .ret -> j4 P w env h env' h') ∧ (K e g env' h').run = some r
def q9O (id : Nat) (K : uY Γ R) : uY Γ R := fun e g env h => match e with
 | .exit i => cond (Nat.beq i id) (K .normal g env h) (K (.exit i) g env h)
 | e => K e g env h
def q41 : List Nat -> Nat -> (Nat -> zAN R) -> zAN R
 | [], _, _ => .fail
 | a :: l, j, K => .ite (Nat.beq j a) (K a) (q41 l j K)
omit [Yl] in
theorem qOZ : ∀ {l : List Nat} {j : Nat} {K : Nat -> zAN R}, (q41 l j K).run = some r -> (K j).run = some r
 | [], j, K, e => by cases e
 | a :: l, j, K, e => by
   rcases run_ite e with ⟨z, e1⟩ | ⟨z, e1⟩
   ·rw [zKJ z]; exact e1
   ·exact qOZ e1
def bk (sh : Sh) (os : List (Nat × Bool)) (ts : List Ty) (mk : TyL ts -> Option (List SV × SH)) (h1 hh : SH) (env : List SV) (h : SH) : Option (TyL ts) := match qIM sh.d env, qW3 sh.o h, q0I sh.b h with
 | some a, some b, some c => (match qCQ ts (a ++ (b ++ c)) with
   | some s => cond (q0S os h && (qMT sh.s env h && (qGP (sh.b.map (·.1)) sh.b h1 h && (mW (sh.o ++ sh.b.map (·.1)) hh h && (mk s).isSome)))) (some s) none
   | none => none)
 | _, _, _ => none
def mkL : Nat := 2000000000000000
def lbL (y : Nat) : Nat := y - mkL
def oU : List (Nat × TypeId) -> List SV -> SH -> List SV -> List SV
 | [], _, _, e => e
 | (i, y) :: l, e0, h, e => cond (Nat.ble mkL y) (match slk (lbL y) h.l, zH e0 i with
   | some (.list _ _ g _ _ xs), some (.sl _ _ _ o m) => oU l e0 h (xB e i (.sl (lbL y) g (List.length xs) o m))
   | _, _ => oU l e0 h e) (oU l e0 h e)
def slG : List (Nat × TypeId) -> List SV -> SH -> Bool
 | [], _, _ => true
 | (i, y) :: l, e0, h => cond (slG l e0 h) (cond (Nat.ble mkL y) (match slk (lbL y) h.l, zH e0 i with
   | some (.list _ _ _ _ _ xs), some (.sl _ _ _ o m) => Nat.ble (o + m) (List.length xs)
   | _, _ => false) true) false
def q91 (k : Nat) (v : SV) (h : SH) : Bool := match v with
 | .sl k' g n _ _ => qK4 k (.own k' g n) h
 | _ => false
def q1O (l : List (Nat × TypeId)) (env : List SV) (h : SH) : Bool := l.all fun p => cond (Nat.ble mkL p.2) (match zH env p.1 with
 | some v => q91 (lbL p.2) v h
 | none => false) true
def slW (wb : List Nat) (l : List (Nat × TypeId)) : Bool := l.all fun p => cond (Nat.ble mkL p.2) (!qDA p.1 wb) true
def isP (k o m : Nat) (x : Option SV) : Prop := ∃ g n, x = some (.sl k g n o m)
omit [Yl] in
theorem qOT {k o m j g0 n0 k0 : Nat} {e0 : List SV} {h : SH} (h0 : zH e0 j = some (.sl k0 g0 n0 o m)) : ∀ {l : List (Nat × TypeId)} {e : List SV}, (∀ y, (j, y) ∈ l -> Nat.ble mkL y = true -> lbL y = k) -> isP k o m (zH e j) -> isP k o m (zH (oU l e0 h e) j)
 | [], e, _, he => he
 | (i, y) :: l, e, hy, he => by
   have ih := fun {e : List SV} => qOT (k := k) (h := h) h0 (l := l) (e := e) fun y hm => hy y (zKQ _ hm)
   unfold oU
   cases hb : Nat.ble mkL y with
   | false => exact ih he
   | true =>
     simp only [cond_true];split
     ·rename_i hk hi;refine ih ?_;by_cases hij : i = j
      ·subst hij;rw [h0] at hi;cases hi;rw [hy y zKW hb];obtain ⟨g, n, h2⟩ := he
       have hlt : i < e.length := by
        rw [qF] at h2;exact (zKN.1 h2).1
       exact ⟨_, _, by rw [zB, qF, List.getElem?_set_self hlt]⟩
      ·rw [zB, qF, List.getElem?_set_ne hij, <- qF]; exact he
     ·exact ih he
omit [Yl] in
theorem qOL {k o m j y0 g0 n0 k0 : Nat} {e0 : List SV} {h : SH} (h0 : zH e0 j = some (.sl k0 g0 n0 o m)) : ∀ {l : List (Nat × TypeId)} {e : List SV}, (∀ y, (j, y) ∈ l -> Nat.ble mkL y = true -> lbL y = k) -> (j, y0) ∈ l -> Nat.ble mkL y0 = true -> slG l e0 h = true -> j < e.length -> isP k o m (zH (oU l e0 h e) j)
 | (i, y) :: l, e, hy, hm, hy0, hg, hlt => by
   have hy' : ∀ y, (j, y) ∈ l -> Nat.ble mkL y = true -> lbL y = k := fun y hm => hy y (zKQ _ hm)
   unfold slG at hg
   cases hgl : slG l e0 h with
   | false => rw [hgl] at hg; cases hg
   | true =>
   rw [hgl, cond_true] at hg;have len : ∀ {x : SV}, j < (xB e i x).length := fun {x} => by rw [jJ]; exact hlt
   rcases zK5.1 hm with hq | hq
   ·cases hq;unfold oU;rw [hy0, cond_true] at hg ⊢;split at hg
    ·rename_i el gr g w t xs k2 g2 n2 o2 m2 hk hi;rw [h0] at hi;cases hi;refine qOT h0 hy' ?_;rw [hy y0 zKW hy0];exact ⟨_, _, by rw [zB, qF, List.getElem?_set_self hlt]⟩
    ·cases hg
   ·unfold oU
    cases hb : Nat.ble mkL y with
    | false => exact qOL h0 hy' hq hy0 hgl hlt
    | true =>
      simp only [cond_true];split
      ·exact qOL h0 hy' hq hy0 hgl len
      ·exact qOL h0 hy' hq hy0 hgl hlt
omit [Yl] in
theorem qJ2 {j : Nat} {e0 : List SV} {h : SH} : ∀ {l : List (Nat × TypeId)} {e : List SV}, j ∉ l.map (·.1) -> zH (oU l e0 h e) j = zH e j
 | [], e, _ => rfl
 | (i, y) :: l, e, hj => by
   rw [zKZ, zK5, not_or] at hj;unfold oU
   cases Nat.ble mkL y with
   | false => exact qJ2 hj.2
   | true =>
     simp only [cond_true];split
     ·rw [qJ2 hj.2, zB, qF, List.getElem?_set_ne (fun q => hj.1 q.symm), <- qF]
     ·exact qJ2 hj.2
omit [Yl] in
theorem qVK {e0 : List SV} {h : SH} (ho : OkH P h) : ∀ {l : List (Nat × TypeId)} {e : List SV}, okL h e -> slG l e0 h = true -> okL h (oU l e0 h e) ∧ (oU l e0 h e).length = e.length
 | [], e, he, _ => ⟨he, rfl⟩
 | (i, y) :: l, e, he, hg => by
   unfold slG at hg
   cases hgl : slG l e0 h with
   | false => rw [hgl] at hg; cases hg
   | true =>
   rw [hgl, cond_true] at hg;unfold oU
   cases hb : Nat.ble mkL y with
   | false => exact qVK ho he hgl
   | true =>
     rw [hb, cond_true] at hg;simp only [cond_true];split at hg
     ·rename_i el gr g w t xs k' g' n' o m hk hi
      have hv : (SV.sl (lbL y) g (List.length xs) o m).ok h := by
       simp only [SV.ok];refine ⟨⟨(ho.list _ _ _ _ _ _ _ hk).1, fun el2 gr2 w2 t2 xs2 h2 => ?_⟩, zKS hg⟩;rw [hk] at h2;cases h2;rfl
      obtain ⟨a1, a2⟩ := qVK ho (xY (t := i) he hv) hgl;exact ⟨a1, a2.trans (jJ _ _ _)⟩
     ·cases hg
theorem qSU {h h3 : SH} {env e0 : List SV} (ho : OkH P h) (ho3 : OkH P h3) (hs : oQ (qE h3.l) (qE h.l)) (hen : okL h env) : ∀ {l : List (Nat × TypeId)} {m : List SV}, q1O l env h = true ->
 (∀ i y k g n o q, (i, y) ∈ l -> Nat.ble mkL y = true -> zH e0 i = some (.sl k g n o q) -> ∃ k' g' n', zH env i = some (.sl k' g' n' o q)) -> WkP (qB env) (qB m) -> WkP (qB env) (qB (oU l e0 h3 m))
 | [], m, _, _, hw => hw
 | (i, y) :: l, m, hc, hom, hw => by
   unfold q1O at hc;rw [zLO, zKI] at hc;have zII := fun i y k g n o q hm => hom i y k g n o q (zKQ _ hm)
   have ih := fun {m : List SV} => qSU ho ho3 hs hen (l := l) (m := m) hc.2 zII
   unfold oU
   cases hb : Nat.ble mkL y with
   | false => exact ih hw
   | true =>
     have c0 := hc.1;simp only [hb, cond_true] at c0 ⊢;split
     ·rename_i el gr g w t xs k0 g0 n0 o q hk hi;refine ih ?_;obtain ⟨k', g', n', hi2⟩ := hom i y _ _ _ _ _ zKW hb hi;rw [hi2] at c0;have c3 : qK4 (lbL y) (.own k' g' n') h = true := c0
      have hv : (SV.own k' g' n').ok h := by
       have := eX hen hi2;simp only [SV.ok] at this ⊢;exact this.1
      have he := qML ho ho3 hv c3 hk (hs _ _ (yY hk));rw [kE];refine qGA hw ?_;rw [zK, hi2, zKU];simp only [SV.enc, PV.own.injEq] at he ⊢;obtain ⟨e1, e2, _, _⟩ := he;rw [e1, e2]
     ·exact ih hw
theorem qUK {l : List (Nat × TypeId)} {env : List SV} {h : SH} (hc : q1O l env h = true) {i y : Nat} (hm : (i, y) ∈ l) (hb : Nat.ble mkL y = true) : ∃ g n o q, zH env i = some (.sl (lbL y) g n o q) := by
 unfold q1O at hc;have := zKL.1 hc (i, y) hm;simp only [hb, cond_true] at this;split at this
 ·rename_i v hv;unfold q91 at this;split at this
  ·rename_i k g n o q;unfold qK4 at this;simp only [zKI] at this;have hk := zKJ this.1;rw [hk] at hv;exact ⟨g, n, o, q, hv⟩
  ·exact absurd this zM2
 ·exact absurd this zM2
def qVQ (rdv : List SV -> SH -> Option (TyL rs)) (id : Nat) (sh : Sh) (os : List (Nat × Bool)) (ts : List Ty) (mk : TyL ts -> Option (List SV × SH)) (h1 hh : SH) : uY Γ (GS Γ (TyL ts) ⊕ (GS Γ (TyL ts) ⊕ (GS Γ (TyL rs) ⊕ GS Γ (Nat × TyL ts)))) := fun e g env h => match e with
 | .normal => cond (q1O sh.v env h) (match bk sh os ts mk h1 hh env h with
   | some s => .ret (.inl (gj g s))
   | none => .fail) .fail
 | .exit j => cond (q1O sh.v env h) (match bk sh os ts mk h1 hh env h with
   | some s => .ret (.inr (cond (Nat.beq j id) (.inl (gj g s)) (.inr (.inr (gj g (j, s))))))
   | none => .fail) .fail
 | .ret => (match rdv env h with
   | some v => .ret (.inr (.inr (.inl (gj g v))))
   | none => .fail)
 | .goto _ => .fail
def goS {α : Type} (o : Option (α × SH)) (K : α -> SH -> zAN R) : zAN R := match o with
 | some p => K p.1 p.2
 | none => .fail
omit [Yl] in
theorem tO {α : Type} {o : Option (α × SH)} {K : α -> SH -> zAN R} (e : (goS o K).run = some r) : ∃ a h, o = some (a, h) ∧ (K a h).run = some r := by
 unfold goS at e;split at e
 ·exact ⟨_, _, rfl, e⟩
 ·cases e
def q7S (P : Program) (nm : Nm) (wb w : List Nat) (rdv : List SV -> SH -> Option (TyL rs)) (en : TyL rs -> List SV) (hb : SH) (sh : Sh) (id : Nat) (body : ∀ {R' : Type}, GV Γ -> List SV -> SH -> uY Γ R' -> zAN R') (g : GV Γ) (env : List SV) (h : SH) (K : uY Γ R) : zAN R :=
 qQQ P nm sh.v env h fun zAV h0 => qTA P nm (sh.b.map (·.1)) sh.bv zAV h0 fun zAV h1 => match qIM sh.d zAV, qW3 sh.o h1, q0I sh.b h1, q2V sh.o h1 with
  | some a, some b, some c, some os => (match q85 (a ++ (b ++ c)) with
    | some ts => (match qCQ ts (a ++ (b ++ c)) with
      | some s0 => cond ((qMT sh.s zAV h1 && qGP (sh.b.map (·.1)) sh.b h1 h1) && (q1O sh.v zAV h1 && slW wb sh.v))
         (.loop (fun s => goS (mkS P w sh ts os zAV h1 (g2 s)) fun e hh => .ite (slG sh.v zAV hh) (body (g1 s) (oU sh.v zAV hh e) hh (qVQ rdv id sh os ts (mkS P w sh ts os zAV h1) h1 hh)) .fail) (gj g s0)
           fun q => zAN.sum q (fun s => goS (mkS P w sh ts os zAV h1 (g2 s)) fun e hh => .ite (slG sh.v zAV hh) (K .normal (g1 s) (oU sh.v zAV hh e) hh) .fail)
            fun q2 => zAN.sum q2 (fun v => K .ret (g1 v) (en (g2 v)) ⟨h.next, hb.l⟩)
             fun p => q41 sh.ex (g2 p).1 fun j => goS (mkS P w sh ts os zAV h1 (g2 p).2) fun e hh => .ite (slG sh.v zAV hh) (K (.exit j) (g1 p) (oU sh.v zAV hh e) hh) .fail) .fail
      | none => .fail)
    | none => .fail)
  | _, _, _, _ => .fail
def lpW (w : List Nat) (sh : Sh) : List Nat := sh.v.map (·.1) ++ (w ++ (sh.d ++ sh.s.map (·.1)))
structure zDK (P : Program) (nm : Nm) (N : Nat) (hb : SH) (rdv : List SV -> SH -> Option (TyL rs)) (en : TyL rs -> List SV) : Prop where
 ob : OkH P hb
 wk : ∀ env h v, OkH P h -> okL h env -> env.length = N -> Keep hb h -> rdv env h = some v -> Wk P nm (qB env) (qE h.l) (qB (en v)) (qE hb.l)
 kept : ∀ env h v, OkH P h -> okL h env -> Keep hb h -> rdv env h = some v -> ∀ k o, slk k hb.l = some o -> slk k h.l = some o
 len : ∀ v, (en v).length = N
 ok : ∀ v h, okL h (en v)
omit [Yl] in
theorem q6W {h : SH} (a : OkH P h) {n : Nat} (hn : h.next <= n) : OkH P ⟨n, h.l⟩ := by
 have hk : ∀ {x : SV}, x.ok h -> x.ok ⟨n, h.l⟩ := fun {x} hx => SV.ok.keep (h := h) (h' := ⟨n, h.l⟩) ⟨hn, fun k ob hh _ => hh, fun k el gr g w t xs hh _ => ⟨w, xs, hh, rfl⟩⟩ hx
 exact ⟨fun k ob hh => zKO (a.ver k ob hh) hn, fun k el w l hh => yC.2 fun x hx => hk (yC.1 (a.cells k el w l hh) x hx), fun k el gr g w t xs hh => by
  have := a.list k el gr g w t xs hh
  exact ⟨zKO this.1 hn, this.2⟩⟩
omit [Yl] in
theorem qB7 : OkH P ⟨0, []⟩ := ⟨fun k ob h => (by cases h), fun k el w l h => (by cases h), fun k el gr g w t xs h => (by cases h)⟩
omit [Yl] in
theorem qP9 {σ ρ : Type} {f : σ -> Option (σ ⊕ ρ)} {s : σ} {q : ρ} (h : zS f s = some q) : ∃ y, f s = some y := by
 rw [vK] at h
 cases hf : f s with
 | none => rw [hf] at h; cases h
 | some y => exact ⟨y, rfl⟩
omit [Yl] in
theorem qPS {ls : List Nat} {hh h : SH} {k : Nat} {o : SO} (ho : OkH P hh) (hk : Keep hh h) (e : mW ls hh h = true) (h1 : k ∉ ls) (h2 : slk k hh.l = some o) : slk k h.l = some o := by
 unfold mW at e;have := zKL.1 e (k, o) (qMS h2);rw [zLP] at this;rcases this with q | q
 ·exact absurd (wJ.1 q) h1
 ·simp only at q;split at q
  ·rename_i o' ho';have hw : o'.w = o.w := zKJ q;have := hk.same k o' ho' (by rw [hw]; exact ho.ver k o h2);rw [this] at h2;cases h2;exact ho'
  ·cases q
theorem qBW {ls : List Nat} {hh h : SH} {k : Nat} {o : SO} (ho : OkH P hh) (hk : Keep hh h) (e : mW ls hh h = true) (h1 : k ∉ ls) (h2 : slk k hh.l = some o) : qA k (qE h.l) = some o.enc := yY (qPS ho hk e h1 h2)
theorem qZT {w : List Nat} {rdv : List SV -> SH -> Option (TyL rs)} {en : TyL rs -> List SV} {hb : SH} (hrd : zDK P nm N hb rdv en) {sh : Sh} {id : Nat} {y : Code} {body : ∀ {R' : Type}, GV Γ -> List SV -> SH -> uY Γ R' -> zAN R'} {wb : List Nat} (hwb : w = lpW wb sh)
 (hbody : ∀ {R' : Type} {g : GV Γ} {env : List SV} {h : SH} {K : uY Γ R'} {r : R'}, OkH P h -> okL h env -> env.length = N -> Keep hb h -> (body g env h K).run = some r -> qQ P G rd nm wd y g (qB env) (qE h.l) (EQ P N wb env h K r))
 {g : GV Γ} {env : List SV} {h : SH} {K : uY Γ R} (ho : OkH P h) (he : okL h env) (hl : env.length = N) (hbh : Keep hb h) (e : (q7S P nm wb w rdv en hb sh id body g env h K).run = some r) :
 qQ P G rd nm wd (.block id (.loop y)) g (qB env) (qE h.l) (EQ P N w env h K r) := by
 obtain ⟨zAV, h0, wk1, zCN, e⟩ := sG (nm := nm) ho he e;obtain ⟨h1, wk2, kp2, ho1, e⟩ := qJO (nm := nm) zCN.2.1 zCN.1 e
 have zCG : j4 P (sh.v.map (·.1)) env h zAV h1 := ⟨qL kp2 zCN.1, ho1, zCN.2.2.1.trans kp2, zCN.2.2.2.1, zCN.2.2.2.2⟩
 split at e
 case h_2 => cases e
 rename_i a b c os ha hb1 hc1 hos;split at e
 case h_2 => cases e
 rename_i ts hts;split at e
 case h_2 => cases e
 rename_i s0 hs0;obtain ⟨hown, e1⟩ := qG e;rw [zKI, zKI, zKI] at hown;obtain ⟨hown, hsl⟩ := hown;obtain ⟨q, hq, hafter⟩ := qZZ e1;have he1 := zCG.1;have zDL := qFZ hos;have hl1 : zAV.length = N := zCG.2.2.2.2.trans hl;have zG2 : Keep hb h1 := hbh.trans zCG.2.2.1
 let E : GS Γ (TyL ts) -> List PV := fun s => match mkS P w sh ts os zAV h1 (g2 s) with
  | some p => qB (oU sh.v zAV p.2 p.1)
  | none => []
 let Ph : GS Γ (TyL ts) -> PHp := fun s => match mkS P w sh ts os zAV h1 (g2 s) with
  | some p => qE p.2.l
  | none => []
 have hE : ∀ {s e2 h2}, mkS P w sh ts os zAV h1 (g2 s) = some (e2, h2) -> E s = qB (oU sh.v zAV h2 e2) ∧ Ph s = qE h2.l := fun hm => by
  simp only [E, Ph, hm, and_self]
 obtain ⟨y0, hy0⟩ := qP9 hq;obtain ⟨e0, hh0, hm0, _⟩ := tO hy0;obtain ⟨wp0, sp0⟩ := q7I ho1 ho1 he1 ha hb1 hc1 hs0 (by rw [q1L] at hm0; exact hm0) zDL (qLY hos) hown.1 hown.2 (fun k o _ _ hk => yY hk) (qNX rfl fun _ _ => rfl);have wp0 := qSU ho1 (eZ ho1 he1 hm0).2.1 sp0 he1 hsl.1 (fun i y k g n o q _ _ hi => ⟨k, g, n, hi⟩) wp0
 have fin : ∀ {s e2 h2}, mkS P w sh ts os zAV h1 s = some (e2, h2) -> slG sh.v zAV h2 = true -> okL h2 (oU sh.v zAV h2 e2) ∧ OkH P h2 ∧ (oU sh.v zAV h2 e2).length = N ∧ j4 P w env h (oU sh.v zAV h2 e2) h2 ∧ Keep h1 h2 := fun {s e2 h2} hm hg => by
  obtain ⟨a1, a2, a3, a4, a5, _⟩ := eZ ho1 he1 hm;obtain ⟨b1, b2⟩ := qVK a2 a3 hg;refine ⟨b1, a2, (b2.trans a4).trans hl1, ⟨b1, a2, zCG.2.2.1.trans a1, fun i hi => ?_, (b2.trans a4).trans zCG.2.2.2.2⟩, a1⟩;have hi2 : i ∉ lpW wb sh := by rw [<- hwb]; exact hi
  unfold lpW at hi2;simp only [zLY, not_or] at hi2;rw [zK, qJ2 hi2.1, <- zK, a5 i hi hi2.2.2.1 hi2.2.2.2, zCG.2.2.2.1 i hi2.1]
 refine qQ.post (qQ.pre' (wk1.trans wk2) ?_);refine qQ.loop E Ph g1 hq (by rw [(hE hm0).1]; exact wp0) (by rw [(hE hm0).2]; exact sp0) q3O.symm ?_;intro s yy hstep;obtain ⟨e2, hh, hm, hb2⟩ := tO hstep
 rcases run_ite hb2 with ⟨hgd, hb2⟩ | ⟨_, hb2⟩
 rotate_left 1
 ·cases hb2
 obtain ⟨f1, f2, f3, f4, f5⟩ := fin hm hgd;rw [(hE hm).1, (hE hm).2];refine (hbody f2 f1 f3 (zG2.trans f5) hb2).mono ?_;rintro ex g' pe ph ⟨env', h', rfl, rfl, k1, k2, k3, k0, k4, k5⟩;obtain ⟨_, _, _, m4, m5, m6⟩ := eZ ho1 he1 hm
 have back : ∀ {s'}, ex ≠ .ret -> q1O sh.v env' h' = true -> bk sh os ts (mkS P w sh ts os zAV h1) h1 hh env' h' = some s' -> ∃ e3 h3, mkS P w sh ts os zAV h1 s' = some (e3, h3) ∧ WkP (qB env') (qB (oU sh.v zAV h3 e3)) ∧ oQ (qE h3.l) (qE h'.l) := by
  intro s' hne zDM hbk;unfold bk at hbk;split at hbk
  case h_2 => cases hbk
  rename_i a' b' c' ha' hb' hc';split at hbk
  case h_2 => cases hbk
  rename_i s2 hs2
  cases hc : (q0S os h' && (qMT sh.s env' h' && (qGP (sh.b.map (·.1)) sh.b h1 h' && (mW (sh.o ++ sh.b.map (·.1)) hh h' && (mkS P w sh ts os zAV h1 s2).isSome)))) with
  | false => rw [hc] at hbk; cases hbk
  | true =>
    rw [hc] at hbk;cases hbk;simp only [zKI] at hc;obtain ⟨⟨e3, h3⟩, hm3⟩ := zLJ.1 hc.2.2.2.2;have zEA := k4 hne
    have hboth : WkP (qB env') (qB e3) ∧ oQ (qE h3.l) (qE h'.l) := by
     refine q7I k2 ho1 k1 ha' hb' hc' hs2 hm3 zDL hc.1 hc.2.1 hc.2.2.1 (fun k o hk hkb hk2 => qBW f2 zEA.2.2.1 hc.2.2.2.1 (by rw [zLY, not_or]; exact ⟨hk, hkb⟩) ?_) (qNX ?_ ?_)
     ·rw [m6 k (by rw [zDL]; exact hk) hkb]; exact hk2
     ·rw [k3, hl1]
     ·intro i hi;have hi2 : i ∉ lpW wb sh := by rw [<- hwb]; exact hi
      unfold lpW at hi2;simp only [zLY, not_or] at hi2;rw [zEA.2.2.2.1 i hi2.2.1, zK, qJ2 hi2.1, <- zK, m5 i hi hi2.2.2.1 hi2.2.2.2]
    refine ⟨e3, h3, hm3, qSU k2 (eZ ho1 he1 hm3).2.1 hboth.2 k1 zDM (fun i y k g n o q hmem hb hi => ?_) hboth.1, hboth.2⟩;obtain ⟨g2, n2, o2, q2, hi3⟩ := qUK zDM hmem hb
    have hlab : ∀ y', (i, y') ∈ sh.v -> Nat.ble mkL y' = true -> lbL y' = lbL y := fun y' hm' hb' => by
     obtain ⟨_, _, _, _, p1⟩ := qUK hsl.1 hm' hb';obtain ⟨_, _, _, _, p2⟩ := qUK hsl.1 hmem hb;have p3 := zLK (p1.symm.trans p2);simp only [SV.sl.injEq] at p3;exact p3.1
    obtain ⟨g3, n3, h5⟩ := qOL (h := hh) (e := e2) hi hlab hmem hb hgd (by
     rw [m4];rw [qF] at hi
     exact (zKN.1 hi).1)
    have hnb : i ∉ wb := fun hib => by
     have h6 := hsl.2;unfold slW at h6;have h7 := zKL.1 h6 (i, y) hmem;simp only [hb, cond_true, wJ.2 hib] at h7;cases h7
    have h8 := zEA.2.2.2.1 i hnb;rw [zK, zK, hi3, h5] at h8;simp only [zKU, SV.enc, zKP, PV.own.injEq] at h8;obtain ⟨_, _, e1, e2⟩ := h8;exact ⟨_, _, _, by rw [hi3, e1, e2]⟩
 have out : ∀ {x s' e3 h3}, mkS P w sh ts os zAV h1 s' = some (e3, h3) -> WkP (qB env') (qB (oU sh.v zAV h3 e3)) -> oQ (qE h3.l) (qE h'.l) -> (zAN.ite (slG sh.v zAV h3) (K x g' (oU sh.v zAV h3 e3) h3) .fail).run = some r -> ∃ pe' ph', Wk P nm (qB env') (qE h'.l) pe' ph' ∧ EQ P N w env h K r x g' pe' ph' := fun {x s' e3 h3} hm3 w1 w2 hk => by
  rcases run_ite hk with ⟨zIJ, hk⟩ | ⟨_, hk⟩
  rotate_left 1
  ·cases hk
  obtain ⟨g1, g2, g3, g4, g5⟩ := fin hm3 zIJ;exact ⟨_, _, Wk.drop w1 w2, oU sh.v zAV h3 e3, h3, rfl, rfl, g1, g2, g3, g4.2.2.1, fun _ => g4, hk⟩
 cases ex with
 | normal =>
   simp only [qVQ] at k5;obtain ⟨zDM, k5⟩ := qG k5;split at k5
   case h_2 => cases k5
   rename_i s' hs';cases k5;obtain ⟨e3, h3, hm3, w1, w2⟩ := back (fun h => by cases h) zDM hs';have hm3 : mkS P w sh ts os zAV h1 (g2 (gj g' s')) = some (e3, h3) := by rw [q1L]; exact hm3
   show zBN.normal = .normal ∧ WkP (qB env') (E (gj g' s')) ∧ oQ (Ph (gj g' s')) (qE h'.l) ∧ g' = g1 (gj g' s');rw [(hE hm3).1, (hE hm3).2, q3O];exact ⟨rfl, w1, w2, rfl⟩
 | exit j =>
   simp only [qVQ] at k5;obtain ⟨zDM, k5⟩ := qG k5;split at k5
   case h_2 => cases k5
   rename_i s' hs';obtain ⟨e3, h3, hm3, w1, w2⟩ := back (fun h => by cases h) zDM hs';cases k5;intro hqe;refine ⟨fun h => by (cases h), ?_⟩
   cases hj : Nat.beq j id with
   | true =>
     rw [hj] at hqe;subst hqe;have hjj : j = id := zKJ hj;subst hjj;have hafter : (goS (mkS P w sh ts os zAV h1 (g2 (gj g' s'))) fun e hh => zAN.ite (slG sh.v zAV hh) (K .normal (g1 (gj g' s')) (oU sh.v zAV hh e) hh) .fail).run = some r := hafter;obtain ⟨e4, h4, hm4, hk⟩ := tO hafter;rw [q1L, hm3] at hm4;cases hm4;rw [q3O] at hk;exact BQY.on (out hm3 w1 w2 hk)
   | false =>
     rw [hj] at hqe;subst hqe;have hjj : j ≠ id := fun h => by rw [h, rO] at hj; cases hj
     obtain ⟨e4, h4, hm4, hk⟩ := tO (qOZ hafter);rw [q1L, hm3] at hm4;cases hm4;rw [q3O, q1L] at hk;exact BQY.ex hjj (out hm3 w1 w2 hk)
 | ret =>
   simp only [qVQ] at k5;split at k5
   case h_2 => cases k5
   rename_i v hv;cases k5;intro hqe;subst hqe;have hbr : Keep hb h' := (zG2.trans f5).trans k0;have hkp := hrd.kept _ _ _ k2 k1 hbr hv
   have hkh : ∀ k o, slk k hb.l = some o -> slk k h.l = some o := fun k o hk => by
    have h2 := hkp k o hk;have hw : o.w < h.next := zKO (hrd.ob.ver k o hk) hbh.next;have zEZ : Keep h h' := (zCG.2.2.1.trans f5).trans k0;exact zEZ.same k o h2 hw
   have hkeep : Keep h ⟨h.next, hb.l⟩ := ⟨zKK _, fun k ob hk _ => hkh k ob hk, fun k el gr g w t xs hk _ => ⟨w, xs, hkh k _ hk, rfl⟩⟩
   have hafter : (K .ret (g1 (gj g' v)) (en (g2 (gj g' v))) ⟨h.next, hb.l⟩).run = some r := hafter;rw [q3O, q1L] at hafter;refine ⟨fun h => by (cases h), BQY.rt ⟨_, _, hrd.wk _ _ _ k2 k1 k3 hbr hv, en v, ⟨h.next, hb.l⟩, rfl, rfl, hrd.ok v _, q6W hrd.ob hbh.next, hrd.len v, hkeep, fun h => absurd rfl h, hafter⟩⟩
 | goto l => simp only [qVQ] at k5; cases k5
end
end Go.Sv
namespace Go.Sv
open Go.Idl
noncomputable section
variable [Gc]
variable [Yl]
variable {P : Program} {Γ : Option Type} {R : Type} {r : R} {nm : Nm} {G : Nat -> Bool} {rd : Bool} {N : Nat} {rs : List Ty} {tab : uL} {nat : y8} {good : FuncId -> Bool} {wd : Wld (GV Γ)}
omit [Yl] in
theorem qB6 : ∀ {ts : List Ty} {x : TyL ts} {y : PV}, y ∈ pvL ts x -> ∃ (t : Ty) (z : t.sem), y = t.pv z
 | [], _, _, h => by cases h
 | [t], x, y, h => ⟨t, x, by simpa [pvL] using h⟩
 | t :: u :: ts, x, y, h => by
   have h : y ∈ t.pv x.1 :: pvL (u :: ts) x.2 := h;rcases zK5.1 h with q | q
   ·exact ⟨t, x.1, q⟩
   ·exact qB6 q
omit [Yl] in
theorem qUN (t : Ty) (x : t.sem) : qHM (t.pv x) = true := by
 unfold Ty.pv
 cases t.one with
 | true => rfl
 | false =>
   show ((t.cells x).map PV.f).all qRM = true;rw [zKL];intro y hy;obtain ⟨c, _, rfl⟩ := zLC.1 hy;rfl
omit [Yl] in
theorem q3R {Z : Nat -> Prop} {H : IH} {M M' : Nat -> Option (Nat × PO)} {ts : List Ty} {x : TyL ts} {vs : List Value} (h : VRL P Z H M (pvL ts x) vs) : VRL P Z H M' (pvL ts x) vs := ⟨h.len, fun i y v a b => by
 obtain ⟨t, z, rfl⟩ := qB6 (zLH a)
 exact cK (h.val i _ v a b) (qUN t z)⟩
omit [Yl] in
theorem qE0 : ∀ (ts : List Ty) (x : TyL ts), (svL ts x).length = ts.length
 | [], _ => rfl
 | [_], _ => rfl
 | t :: u :: ts, x => by
   show (t.sv x.1 :: svL (u :: ts) x.2).length = _;simp only [zK1, qE0 (u :: ts)]
def qZW (t : Ty) (x : t.sem) : PV := .lp (t.cells x) 0
def q2A : (ts : List Ty) -> TyL ts -> List PV
 | [], _ => []
 | [t], x => [qZW t x]
 | t :: u :: ts, x => qZW t x.1 :: q2A (u :: ts) x.2
def qK5 : (ts : List Ty) -> TyL ts -> List SV
 | [], _ => []
 | [t], x => [.lp t [x] 0 0]
 | t :: u :: ts, x => .lp t [x.1] 0 0 :: qK5 (u :: ts) x.2
theorem qG5 : ∀ (ts : List Ty) (x : TyL ts), qB (qK5 ts x) = q2A ts x
 | [], _ => by simp [qK5, q2A, qB]
 | [t], x => by simp [qK5, q2A, qB, SV.enc, qZW]
 | t :: u :: ts, x => by
   show qB (.lp t [x.1] 0 0 :: qK5 (u :: ts) x.2) = qZW t x.1 :: q2A (u :: ts) x.2;simp only [qB, qG5 (u :: ts)];simp [SV.enc, qZW]
omit [Yl] in
theorem qVN {h : SH} : ∀ (ts : List Ty) (x : TyL ts), okL h (qK5 ts x)
 | [], _ => by simp [qK5, okL]
 | [t], x => by simp [qK5, okL, SV.ok]
 | t :: u :: ts, x => by
   show okL h (.lp t [x.1] 0 0 :: qK5 (u :: ts) x.2);simp only [okL, SV.ok, true_and];exact qVN (u :: ts) x.2
omit [Yl] in
theorem qFL : ∀ (ts : List Ty) (x : TyL ts), (qK5 ts x).length = ts.length
 | [], _ => rfl
 | [_], _ => rfl
 | t :: u :: ts, x => by
   show (SV.lp t [x.1] 0 0 :: qK5 (u :: ts) x.2).length = _;simp only [zK1, qFL (u :: ts)]
def qCC (P : Program) (t : Ty) (v : SV) (h : SH) : Option (t.sem × SH) := match v with
 | .ref k off w => (match slk k h.l with
   | some (.cells el _ l) => cond (!spec P el && (Nat.beq off 0 && Nat.beq w l.length)) (match t.zDJ P (vH P 8 el) l (h.del k) with
     | some (x, _, [], h') => some (x, h')
     | _ => none) none
   | _ => none)
 | _ => none
def aP (P : Program) : (ts : List Ty) -> List SV -> SH -> Option (TyL ts × SH)
 | [], [], h => some ((), h)
 | [t], [v], h => qCC P t v h
 | t :: u :: ts, v :: vs, h => match qCC P t v h with
   | some (x, h1) => (match aP P (u :: ts) vs h1 with
     | some (y, h2) => some ((x, y), h2)
     | none => none)
   | none => none
 | _, _, _ => none
theorem qCE {t : Ty} {v : SV} {h : SH} {x : t.sem} {h' : SH} (ho : OkH P h) (e : qCC P t v h = some (x, h')) :
 Keep h h' ∧ OkH P h' ∧ ∀ (Z : Nat -> Prop) (H : IH) (m : Nat -> Nat) (u : Value), Hp P Z H (own m (qE h.l)) -> VR P Z H (own m (qE h.l)) v.enc u -> ∃ Z', Fz P Z H m (qE h.l) Z' (qE h'.l) ∧ VR P Z' H (fun _ => none) (qZW t x) u := by
 unfold qCC at e;split at e
 case h_2 => cases e
 rename_i k off w;split at e
 case h_2 => cases e
 rename_i el w0 l hk
 cases hc : (!spec P el && (Nat.beq off 0 && Nat.beq w l.length)) with
 | false => rw [hc] at e; cases e
 | true =>
   rw [hc] at e;simp only [cond_true] at e;rw [zKI, zK7] at hc;obtain ⟨hsp, hc⟩ := hc;rw [zKI] at hc;have h1 : off = 0 := zKJ hc.1;have h2 : w = l.length := zKJ hc.2;subst h1 h2;split at e
   case h_2 => cases e
   rename_i y zA4 h2 hd;cases e;have hd0 := eG (k := k) ho;obtain ⟨a1, a2, a3, ys, a4, a5⟩ := qAE hd0.2 (qL hd0.1 (ho.cells _ _ _ _ hk)) hd;refine ⟨hd0.1.trans a2, a3, fun Z H m u hp hv => ?_⟩;have hkp := yY hk;have zBP : real (SO.cells el w0 l).enc := fun q => by cases q.1
   obtain ⟨w1, w2, w3, vs, q1, q2, q3⟩ := hp.real hkp zBP hsp;have hcut := Fz.del hp hkp zBP;have hfz := a4 [] (qE h'.l) (by simp [qB, qDK]);rw [zL6] at hfz;rw [show qE (h.del k).l = tF k (qE h.l) from nQ k _] at hfz;obtain ⟨Z2, c2, r2⟩ := qFC (fun a b c => qN9 4 a b c) hcut.hp (hcut.vrl q2) hfz;refine ⟨Z2, hcut.trans c2, ?_⟩;simp only [SV.enc] at hv
   cases hv with
   | ref g1 g2 =>
     obtain ⟨_, g3⟩ := g2 _ _ (qN hkp);obtain ⟨rfl, _⟩ := g3 (by simp [SO.enc, qW]);have hrt := qEE (P := P) (M := fun _ => none) (f := rtC P) (ts := vH P 8 el) (fun t x v h => q1G h) (r2.map (P := P) (M := fun _ => none));have h5 := (a5 []).1;rw [zL6] at h5;rw [h5] at hrt
     have hrt : VRL P Z2 H (fun _ => none) ((t.cells x).map .f) vs := by
      cases zA4 <;> simpa [rtL] using hrt
     have hlen : (t.cells x).length = vs.length := by have := hrt.len; simpa using this
     refine .lp (o := 0) (vs := vs) (c2.zle _ (.inr rfl)) w1 ?_ ?_
     ·rw [hlen];exact jM q1 (by omega) (by simp)
     ·intro i y v hy hvv;have := hrt.val i (.f y) v (by rw [zKX, hy]; rfl) hvv
      cases this with
      | f h => exact h
theorem qEG : ∀ {ts : List Ty} {vs : List SV} {h : SH} {x : TyL ts} {h' : SH}, OkH P h -> aP P ts vs h = some (x, h') ->
 Keep h h' ∧ OkH P h' ∧ ∀ (Z : Nat -> Prop) (H : IH) (m : Nat -> Nat) (us : List Value), Hp P Z H (own m (qE h.l)) -> VRL P Z H (own m (qE h.l)) (qB vs) us -> ∃ Z', Fz P Z H m (qE h.l) Z' (qE h'.l) ∧ VRL P Z' H (fun _ => none) (q2A ts x) us
 | [], [], h, x, h', ho, e => by
   unfold aP at e;cases e;refine ⟨.refl _, ho, fun Z H m us hp hv => ⟨Z, .refl hp, ?_⟩⟩;simp only [qB] at hv;rw [hv.zAT];exact .nil
 | [t], [v], h, x, h', ho, e => by
   unfold aP at e;obtain ⟨a1, a2, a3⟩ := qCE ho e;refine ⟨a1, a2, fun Z H m us hp hv => ?_⟩;simp only [qB] at hv;obtain ⟨u, us', rfl, b1, b2⟩ := hv.zAQ;obtain ⟨Z', c1, c2⟩ := a3 Z H m u hp b1;rw [b2.zAT];exact ⟨Z', c1, .cons c2 .nil⟩
 | t :: u :: ts, v :: vs, h, x, h', ho, e => by
   unfold aP at e;split at e
   case h_2 => cases e
   rename_i x1 h1 hd;split at e
   case h_2 => cases e
   rename_i y h2 hd2;cases e;obtain ⟨a1, a2, a3⟩ := qCE ho hd;obtain ⟨b1, b2, b3⟩ := qEG a2 hd2;refine ⟨a1.trans b1, b2, fun Z H m us hp hv => ?_⟩;simp only [qB] at hv;obtain ⟨w, us', rfl, d1, d2⟩ := hv.zAQ;obtain ⟨Z1, c1, c2⟩ := a3 Z H m w hp d1;obtain ⟨Z2, f1, f2⟩ := b3 Z1 H m us' c1.hp (c1.vrl d2);exact ⟨Z2, c1.trans f1, .cons (c2.mono (p := fun _ => false) f1.zle (zKK _) (fun _ _ _ => rfl) (.refl _ _) fun j hj => by cases hj) f2⟩
 | [], _ :: _, _, _, _, _, e => by cases e
 | t :: ts, [], _, _, _, _, e => by cases ts <;> (unfold aP at e; cases e)
 | [_], _ :: _ :: _, _, _, _, _, e => by unfold aP at e; cases e
def q0O (P : Program) (G : Nat -> Bool) (f : FuncId) (ent : zBB) : Prop := entered P f = true ∧ ∀ (x : TyL ent.as) (γ : Type) (stp : γ -> TyL ent.ys -> Option (γ × Bool)) (g0 g1 : γ), ent.F x γ stp g0 = some g1 -> ∀ (w : Wld γ) (l : Nat),
 (∀ g y g' b, stp g y = some (g', b) -> qH4 P G w l g (pvL ent.ys y) g' b) -> ∀ (Z : Nat -> Prop) (H : IH) (D : Nat -> Prop) (us : List Value), (∀ b, Z b -> b < H.size) -> H.base <= H.size -> q0V Z H -> w.W g0 Z H D -> VRL P Z H (fun _ => none) (q2A ent.as x) us ->
 uS P G f (.func (.yield l) #[] #[] :: us) H fun r => ∃ Z' D', (∀ b, Z' b -> b < r.2.size) ∧ w.W g1 Z' r.2 D' ∧ StW Z H D Z' r.2 D'
def q3C (P : Program) (G : Nat -> Bool) (IT : List (FuncId × zBB)) : Prop := ∀ f ent, slI f IT = some ent -> q0O P G f ent
def qCS : List Nat -> List SV -> List SV -> List SV
 | i :: is, v :: vs, env => qCS is vs (xB env i v)
 | _, _, env => env
def noSh (sh : Sh) : Bool := sh.d.isEmpty && (sh.s.isEmpty && sh.v.isEmpty)
def qZM (sh : Sh) (os : List (Nat × Bool)) (ts : List Ty) (mk : TyL ts -> Option (List SV × SH)) (h1 hh : SH) : uY Γ (GS Γ (TyL ts) × Bool) := fun e g env h => match e with
 | .normal => (match bk sh os ts mk h1 hh env h with
   | some s => .ret (gj g s, true)
   | none => .fail)
 | _ => .fail
def q89 {R : Type} (k : GV Γ -> List SV -> SH -> zAN R) : uY Γ R := fun e g env h => match e with
 | .normal => k g env h
 | _ => .fail
def rgN (nm : Nm) (l : List Nat) : Nm := ⟨nm.b, fun k => nm.p k && !qDA k l⟩
def q0K (P : Program) (G : Nat -> Bool) (IT : List (FuncId × zBB)) (nm : Nm) (sh : Sh) (v : Operand) (ps : Array Tmp) (bx bY : Code) (x y : ∀ {R' : Type}, Nm -> GV Γ -> List SV -> SH -> uY Γ R' -> zAN R') (g : GV Γ) (env : List SV) (h : SH) (K : uY Γ R) : zAN R :=
 qTA P nm (sh.b.map (·.1)) sh.bv env h fun env h1 => match xM env v with
  | .fn f [] caps => (match slI f IT with
    | some ent => (match aP P ent.as caps h1 with
      | some (z, h2) => (match qW3 sh.o h2, q0I sh.b h2, q2V sh.o h2 with
        | some b, some c, some os => (match q85 (b ++ c) with
          | some ts => (match qCQ ts (b ++ c) with
            | some s0 => cond (noSh sh && (qGP (sh.b.map (·.1)) sh.b h2 h2 && (Nat.beq ps.size ent.ys.length && (jI G v && (codeOk G true bx && codeOk G true bY)))))
               (goS (mkS P [] sh ts os env h2 s0) fun _ _ => .bind (ent.F z (GS Γ (TyL ts)) (fun s w => (goS (mkS P [] sh ts os env h2 (g2 s)) fun e hh => x (rgN nm (h2.l.map (·.1) ++ (os.map (·.1) ++ sh.b.map (·.1)))) (g1 s) (qCS ps.toList (svL ent.ys w) e) hh
                 (q89 fun g3 e3 h3 => y (rgN nm (h2.l.map (·.1) ++ (os.map (·.1) ++ sh.b.map (·.1)))) g3 e3 h3 (qZM sh os ts (mkS P [] sh ts os env h2) h2 hh))).run) (gj g s0))
                 fun q => goS (mkS P [] sh ts os env h2 (g2 q)) fun e hh => K .normal (g1 q) e hh) .fail
            | none => .fail)
          | none => .fail)
        | _, _, _ => .fail)
      | none => .fail)
    | none => .fail)
  | _ => .fail
omit [Yl] in
theorem qJ9 : ∀ (i : Nat) (l : List SV), blank [] i l = l
 | _, [] => rfl
 | i, x :: l => by simp [blank, qDA, qJ9 (i + 1) l]
omit [Yl] in
theorem qFT {sh : Sh} {ts : List Ty} {os : List (Nat × Bool)} {env e2 : List SV} {h1 h2 : SH} {s : TyL ts} (hn : noSh sh = true) (hm : mkS P [] sh ts os env h1 s = some (e2, h2)) : e2 = env := by
 unfold noSh at hn;simp only [zKI, List.isEmpty_iff] at hn;unfold mkS at hm;rw [hn.1, hn.2.1] at hm;split at hm
 ·split at hm
  ·split at hm
   ·rename_i e3 hss;cases hm;have : some (blank [] 0 env) = some e2 := hss;rw [qJ9] at this;exact (zLK this).symm
   ·cases hm
  ·cases hm
 ·cases hm
omit [Yl] in
theorem qKA : ∀ (ps : List Nat) (vs env : List SV), (qCS ps vs env).length = env.length
 | [], vs, env => rfl
 | i :: is, [], env => rfl
 | i :: is, v :: vs, env => by
   show (qCS is vs (xB env i v)).length = _;rw [qKA is, jJ]
omit [Yl] in
theorem qN8 {h : SH} : ∀ {ps : List Nat} {vs env : List SV}, okL h vs -> okL h env -> okL h (qCS ps vs env)
 | [], vs, env, _, he => he
 | i :: is, [], env, _, he => he
 | i :: is, v :: vs, env, hv, he => by
   simp only [okL] at hv;exact qN8 (ps := is) hv.2 (xY he hv.1)
theorem qKM {Z : Nat -> Prop} {H : IH} {M : Nat -> Option (Nat × PO)} : ∀ {ps : List Nat} {vs env : List SV} {ws zAO : List Value}, VRL P Z H M (qB vs) ws -> VRL P Z H M (qB env) zAO -> VRL P Z H M (qB (qCS ps vs env)) ((ps.zip ws).foldl (fun e p => xB e p.1 p.2) zAO)
 | [], vs, env, ws, zAO, _, he => he
 | i :: is, [], env, ws, zAO, hv, he => by
   simp only [qB] at hv;rw [hv.zAT];exact he
 | i :: is, v :: vs, env, ws, zAO, hv, he => by
   simp only [qB] at hv;obtain ⟨w, ws', rfl, a1, a2⟩ := hv.zAQ;show VRL P Z H M (qB (qCS is vs (xB env i v))) ((is.zip ws').foldl (fun e p => xB e p.1 p.2) (xB zAO i w));refine qKM a2 ?_;rw [kE, zB, zB];exact he.set a1 i
def rgW (P : Program) (wd : Wld (GV Γ)) (env : List SV) (h0 : SH) (zAO : Env) (H0 : IH) (m0 : Nat -> Nat) (D0 : Nat -> Prop) (lp : Loop) {S : Type} (mk : S -> Option (List SV × SH)) : Wld (GS Γ S) where
 W q Z H D := ∃ e hh m Dg, mk (g2 q) = some (e, hh) ∧ St P wd (g1 q) (qB env) (qE hh.l) Z H m zAO Dg ∧ H.get H0.size = some (.loop lp) ∧ H0.size < H.size ∧ ¬ bJ (own m (qE hh.l)) H0.size ∧ ¬ Dg H0.size ∧ ¬ Z H0.size ∧
  (∀ b, D b ↔ bJ (own m (qE hh.l)) b ∨ Dg b ∨ b = H0.size) ∧ KR (fun _ => false) (own m0 (qE h0.l)) (own m (qE hh.l)) ∧ (∀ b, bJ (own m (qE hh.l)) b -> b < H0.size -> bJ (own m0 (qE h0.l)) b) ∧ (∀ b, Dg b -> b < H0.size -> D0 b) ∧ H.base = H0.base
 lt := by
  rintro g Z H D ⟨e, hh, m, Dg, a1, a2, a3, a4, a5, a6, a7, a8, _⟩ b hb;rcases (a8 b).1 hb with q | q | q
  ·exact (aN a2.hp q).1
  ·exact wd.lt a2.wd b q
  ·rw [q]; exact a4
 nz := by
  rintro g Z H D ⟨e, hh, m, Dg, a1, a2, a3, a4, a5, a6, a7, a8, _⟩ b hb;rcases (a8 b).1 hb with q | q | q
  ·exact (aN a2.hp q).2
  ·exact wd.nz a2.wd b q
  ·rw [q]; exact a7
 keep := by
  rintro g Z H D Z' H' ⟨e, hh, m, Dg, a1, a2, a3, a4, a5, a6, a7, a8, a9, a10, a11, a12⟩ hz hl hs hb hg hn;refine ⟨e, hh, m, Dg, a1, a2.other hz hl hs hb (fun b h1 h2 => hg b h1 ?_) (fun b h => hn b ((a8 b).2 ?_)), ?_, zKO a4 hs, a5, a6, hn _ ((a8 _).2 (.inr (.inr rfl))), a8, a9, a10, a11, hb.trans a12⟩
  ·rcases h2 with q | q | q
   ·exact .inl ((a8 b).2 (.inl q))
   ·exact .inl ((a8 b).2 (.inr (.inl q)))
   ·exact .inr q
  ·rcases h with q | q
   ·exact .inl q
   ·exact .inr (.inl q)
  ·rw [hg _ a4 (.inl ((a8 _).2 (.inr (.inr rfl))))]; exact a3
omit [Yl] in
theorem q4D {R : Type} {k : GV Γ -> List SV -> SH -> zAN R} {e : zBN} {g : GV Γ} {env : List SV} {h : SH} {r : R} (q : (q89 k e g env h).run = some r) : e = .normal ∧ (k g env h).run = some r := by
 cases e with
 | normal => exact ⟨rfl, q⟩
 | _ => cases q
omit [Yl] in
theorem qYN {sh : Sh} {os : List (Nat × Bool)} {ts : List Ty} {mk : TyL ts -> Option (List SV × SH)} {h1 hh : SH} {e : zBN} {g : GV Γ} {env : List SV} {h : SH} {r : GS Γ (TyL ts) × Bool} (q : (qZM sh os ts mk h1 hh e g env h).run = some r) :
 e = .normal ∧ ∃ s, bk sh os ts mk h1 hh env h = some s ∧ r = (gj g s, true) := by
 cases e with
 | normal =>
   simp only [qZM] at q;split at q
   ·rename_i s hs;cases q;exact ⟨rfl, s, hs, rfl⟩
   ·cases q
 | _ => cases q
theorem qXT {sh : Sh} {ts : List Ty} {os : List (Nat × Bool)} {env : List SV} {h2 : SH} {zAO : Env} {H0 : IH} {m0 : Nat -> Nat} {D0 : Nat -> Prop} {lp : Loop} {bx bY : Code} {x y : ∀ {R' : Type}, Nm -> GV Γ -> List SV -> SH -> uY Γ R' -> zAN R'} {wx wy : List Nat} {ent : zBB} {ks : List Nat} {hb : SH}
 (hx : ∀ {R' : Type} {nm : Nm} {g : GV Γ} {env : List SV} {h : SH} {K : uY Γ R'} {r : R'}, OkH P h -> okL h env -> env.length = N -> Keep hb h -> (x nm g env h K).run = some r -> qQ P G true nm wd bx g (qB env) (qE h.l) (EQ P N wx env h K r))
 (hy : ∀ {R' : Type} {nm : Nm} {g : GV Γ} {env : List SV} {h : SH} {K : uY Γ R'} {r : R'}, OkH P h -> okL h env -> env.length = N -> Keep hb h -> (y nm g env h K).run = some r -> qQ P G true nm wd bY g (qB env) (qE h.l) (EQ P N wy env h K r))
 (ho2 : OkH P h2) (he2 : okL h2 env) (hbh : Keep hb h2) (hl : env.length = N) (hn : noSh sh = true) (hos : os.map (·.1) = sh.o) (hks : ∀ k, k ∉ ks -> k ∉ os.map (·.1) ∧ k ∉ sh.b.map (·.1) ∧ slk k h2.l = none)
 (hr1 : lp.state = .ready) (hr2 : lp.pending = none) (hr3 : lp.tmps.toList = zAO) (hr5 : lp.assign = bx) (hr6 : lp.body = bY) (hps : lp.params.size = ent.ys.length)
 {q q' : GS Γ (TyL ts)} {w : TyL ent.ys} {b : Bool} (e : (goS (mkS P [] sh ts os env h2 (g2 q)) fun e hh => x (rgN nm ks) (g1 q) (qCS lp.params.toList (svL ent.ys w) e) hh (q89 fun g3 e3 h3 => y (rgN nm ks) g3 e3 h3 (qZM sh os ts (mkS P [] sh ts os env h2) h2 hh))).run = some (q', b)) :
 qH4 P G (rgW P wd env h2 zAO H0 m0 D0 lp (mkS P [] sh ts os env h2)) H0.size q (pvL ent.ys w) q' b := by
 obtain ⟨e2, hh, hm, hb2⟩ := tO e;have he := qFT hn hm;subst he;intro Z H D ivs hz hbs hW hv;obtain ⟨e', hh', m, Dg, a1, a2, a3, a4, a5, a6, a7, a8, a9, a10, a11, a12⟩ := hW;rw [hm] at a1;cases a1;obtain ⟨m1, m2, m3, m4, m5, m6⟩ := eZ ho2 he2 hm;have hlen : ivs.length = lp.params.size := by rw [<- hv.len, <- qB2, qW, qE0, hps]
 have zIK : okL hh (qCS lp.params.toList (svL ent.ys w) e2) := qN8 (qBE _ _) m3;refine qS9 a3 hr1 hlen ?_;rw [hr5, hr3]
 have hs0 : St P wd (g1 q) (qB (qCS lp.params.toList (svL ent.ys w) e2)) (qE hh.l) Z H m ((lp.params.toList.zip ivs).foldl (fun e p => xB e p.1 p.2) zAO) Dg := by
  refine ⟨a2.hp, qKM ?_ a2.vrl, a2.wd, a2.dis⟩;rw [qB2];exact q3R hv
 refine (hx m2 zIK (by rw [qKA, m4, hl]) (hbh.trans m1) hb2 Z H m _ Dg hs0 hbs).mono ?_;rintro o ⟨Z2, m2', pe3, ph3, g3, D3, st3, sd3, kr3, e3, h3, rfl, rfl, k1, k2, k3, k0, k4, k5⟩;obtain ⟨hoe, k5⟩ := q4D k5;have hl3 : ¬ bJ (own m2' (qE h3.l)) H0.size := fun h => a5 (sd3.onew _ h a4)
 have hD3 : ¬ D3 H0.size := fun h => a6 (sd3.zB5 _ h a4)
 have hZ3 : ¬ Z2 H0.size := fun h => by
  rcases sd3.zBM _ h a4 with q | q | q
  ·exact a7 q
  ·exact a5 q
  ·exact a6 q
 have hg3 : o.H.get H0.size = some (.loop lp) := (sd3.keep _ a4 a5 a6).trans a3;refine ⟨hoe, lp, hg3, hr1, ?_⟩;subst hr6;have hlt3 : H0.size < o.H.size := zKO a4 sd3.size
 have st4 : St P wd g3 (qB e3) (qE h3.l) Z2 (o.H.put H0.size (.loop { lp with state := .busy })) m2' o.env D3 := by
  refine st3.other (fun _ h => h) st3.hp.zlt (zKK _) rfl (fun b hb h => xI fun e => ?_) (fun b h => ?_)
  ·subst e;rcases h with h | h | h
   ·exact hl3 h
   ·exact hD3 h
   ·exact hZ3 h
  ·rcases h with h | h
   ·exact (aN st3.hp h).2
   ·exact wd.nz st3.wd b h
 have hb4 : (o.H.put H0.size (.loop { lp with state := .busy })).base <= (o.H.put H0.size (.loop { lp with state := .busy })).size := by
  show o.H.base <= o.H.size;rw [sd3.base]; exact zK3 hbs sd3.size
 refine (hy k2 k1 k3 ((hbh.trans m1).trans k0) k5 Z2 _ m2' o.env D3 st4 hb4).mono ?_;rintro s ⟨Z5, m5', pe5, ph5, g5, D5, st5, sd5, kr5, e5, h5, rfl, rfl, l1, l2, l3, l0, l4, l5⟩;obtain ⟨hse, s', hbk, hqe⟩ := qYN l5;cases hqe;have zEB : H0.size < (o.H.put H0.size (.loop { lp with state := .busy })).size := hlt3;have hg5 : s.H.get H0.size = some (.loop { lp with state := .busy }) := (sd5.keep _ zEB hl3 hD3).trans (bE);have hl5 : ¬ bJ (own m5' (qE h5.l)) H0.size := fun h => hl3 (sd5.onew _ h zEB)
 have hD5 : ¬ D5 H0.size := fun h => hD3 (sd5.zB5 _ h zEB)
 have hZ5 : ¬ Z5 H0.size := fun h => by
  rcases sd5.zBM _ h zEB with q | q | q
  ·exact hZ3 q
  ·exact hl3 q
  ·exact hD3 q
 have zIL : H0.size < s.H.size := zKO zEB sd5.size;refine ⟨_, hg5, ?_, ?_⟩
 ·rw [hse]; rfl
 have hlp : ({ ({ lp with state := LoopState.busy } : Loop) with state := if (yQ s.e).isNone then LoopState.ready else LoopState.done, pending := yQ s.e } : Loop) = lp := by
  rw [hse];cases lp;simp only at hr1 hr2;subst hr1 hr2;rfl
 show ∃ Z' D', (∀ b, Z' b -> b < (s.H.put H0.size (.loop { ({ lp with state := LoopState.busy } : Loop) with state := if (yQ s.e).isNone then LoopState.ready else LoopState.done, pending := yQ s.e })).size) ∧ (rgW P wd e2 h2 zAO H0 m0 D0 lp (mkS P [] sh ts os e2 h2)).W (gj g5 s') Z' (s.H.put H0.size (.loop { ({ lp with state := LoopState.busy } : Loop) with state := if (yQ s.e).isNone then LoopState.ready else LoopState.done, pending := yQ s.e })) D' ∧ StW Z H D Z' (s.H.put H0.size (.loop { ({ lp with state := LoopState.busy } : Loop) with state := if (yQ s.e).isNone then LoopState.ready else LoopState.done, pending := yQ s.e })) D';rw [hlp];unfold bk at hbk;split at hbk
 case h_2 => cases hbk
 rename_i a' b' c' ha' hb' hc';split at hbk
 case h_2 => cases hbk
 rename_i s2 hs2
 cases hc : (q0S os h5 && (qMT sh.s e5 h5 && (qGP (sh.b.map (·.1)) sh.b h2 h5 && (mW (sh.o ++ sh.b.map (·.1)) hh h5 && (mkS P [] sh ts os e2 h2 s2).isSome)))) with
 | false => rw [hc] at hbk; cases hbk
 | true =>
   rw [hc] at hbk;cases hbk;simp only [zKI] at hc;obtain ⟨⟨e6, h6⟩, hm6⟩ := zLJ.1 hc.2.2.2.2;have he6 := qFT hn hm6;subst he6
   have hsd : sh.d = [] := by
    unfold noSh at hn;simp only [zKI, List.isEmpty_iff] at hn;exact hn.1
   have hw2 : qB (eB sh.d (svL ts s') (blank [] 0 e6)).2 = qB (b' ++ c') := by
    rw [hsd] at ha' ⊢;cases ha';exact (oH hs2).symm
   obtain ⟨ho6, _, hsub⟩ := qUC l2 ho2 hb' hc' hw2 hm6 hos hc.1 hc.2.2.1 (fun k o hk hkb hk2 => qBW m2 (k0.trans l0) hc.2.2.2.1 (by rw [zLY, not_or]; exact ⟨hk, hkb⟩) (by rw [m6 k (by rw [hos]; exact hk) hkb]; exact hk2));obtain ⟨_, _, _, _, _, n6⟩ := eZ ho2 he2 hm6;have hfz := Fz.drop st5.hp (qF0 hsub)
   have keep : ∀ b, b < H.size -> ¬ bJ (own m (qE hh.l)) b -> ¬ Dg b -> b ≠ H0.size -> s.H.get b = H.get b := fun b h1 h2 h3 h4 => by
    have g1 := sd3.keep b h1 h2 h3;have hb3 : b < o.H.size := zKO h1 sd3.size;have g2 : (o.H.put H0.size (.loop { lp with state := .busy })).get b = o.H.get b := xI h4;exact (sd5.keep b hb3 (fun h => h2 (sd3.onew b h h1)) fun h => h3 (sd3.zB5 b h h1)).trans (g2.trans g1)
   have hzk : ∀ b, Z b -> b < H.size -> s.H.get b = H.get b := fun b h1 h2 => keep b h2 (fun h => (aN a2.hp h).2 h1) (fun h => wd.nz a2.wd b h h1) fun e => a7 (e ▸ h1)
   have hz5 : ∀ b, Z b -> Z5 b := fun b h => sd5.zle b (sd3.zle b h)
   have hsz : H.size <= s.H.size := zK3 sd3.size sd5.size;have hbase : s.H.base = H.base := sd5.base.trans sd3.base
   have hkr : KR (fun _ => false) (own m (qE hh.l)) (own m5' (qE h6.l)) := by
    refine KR.none ((kr3.trans kr5).trans (hfz.kr _)) fun k o hk => ?_
    rw [uV] at hk;obtain ⟨o', q1, _⟩ := zKR.1 hk;show (nm.p k && !qDA k ks) = false
    cases hmm : qDA k ks with
    | true => simp
    | false =>
      exfalso;obtain ⟨r1, r2, r3⟩ := hks k fun hm => by rw [wJ.2 hm] at hmm; cases hmm
      rw [n6 k r1 r2, r3] at q1;cases q1
   have zDD : ∀ b, bJ (own m5' (qE h6.l)) b -> bJ (own m5' (qE h5.l)) b := fun b ⟨k, ob, h1, h2⟩ => ⟨k, ob, hfz.zCY h1, h2⟩
   have zEC : ∀ b, bJ (own m5' (qE h6.l)) b -> b < H.size -> bJ (own m (qE hh.l)) b := fun b h1 h2 => sd3.onew b (sd5.onew b (zDD b h1) (zKO h2 sd3.size)) h2
   have zFH : ∀ b, D5 b -> b < H.size -> Dg b := fun b h1 h2 => sd3.zB5 b (sd5.zB5 b h1 (zKO h2 sd3.size)) h2
   have st6 : St P wd g5 (qB e6) (qE h6.l) Z5 s.H m5' zAO D5 := ⟨hfz.hp, a2.vrl.mono (p := fun _ => false) hz5 hsz hzk hkr (fun j hj => by cases hj), st5.wd, fun b h1 h2 => st5.dis b h1 (zDD b h2)⟩
   have st7 : St P wd g5 (qB e6) (qE h6.l) Z5 (s.H.put H0.size (.loop lp)) m5' zAO D5 := by
    refine st6.other (fun _ h => h) st6.hp.zlt (zKK _) rfl (fun b hb h => xI fun e => ?_) (fun b h => ?_)
    ·subst e;rcases h with h | h | h
     ·exact hl5 (zDD _ h)
     ·exact hD5 h
     ·exact hZ5 h
    ·rcases h with h | h
     ·exact (aN st6.hp h).2
     ·exact wd.nz st6.wd b h
   refine ⟨Z5, fun b => bJ (own m5' (qE h6.l)) b ∨ D5 b ∨ b = H0.size, st6.hp.zlt, ⟨e6, h6, m5', D5, by rw [q1L]; exact hm6, by rw [q3O]; exact st7, bE, zIL, fun h => hl5 (zDD _ h), hD5, hZ5, fun b => Iff.rfl, a9.trans hkr, fun b h1 h2 => a10 b (zEC b h1 (Nat.lt_trans h2 a4)) h2, fun b h1 h2 => a11 b (zFH b h1 (Nat.lt_trans h2 a4)) h2, hbase.trans a12⟩, ?_⟩;refine ⟨hsz, hbase, hz5, fun b h1 _ h3 => ?_, fun b h1 h2 => ?_, fun b h1 _ => absurd h1 (qCZ b), fun b h1 h2 => ?_⟩
   ·have hb : b ≠ H0.size := fun e => h3 ((a8 b).2 (.inr (.inr e)))
    exact (xI hb).trans (keep b h1 (fun h => h3 ((a8 b).2 (.inl h))) (fun h => h3 ((a8 b).2 (.inr (.inl h)))) hb)
   ·rcases sd5.zBM b h1 (zKO h2 sd3.size) with h | h | h
    ·rcases sd3.zBM b h h2 with h | h | h
     ·exact .inl h
     ·exact .inr (.inr ((a8 b).2 (.inl h)))
     ·exact .inr (.inr ((a8 b).2 (.inr (.inl h))))
    ·exact .inr (.inr ((a8 b).2 (.inl (sd3.onew b h h2))))
    ·exact .inr (.inr ((a8 b).2 (.inr (.inl (sd3.zB5 b h h2)))))
   ·rcases h1 with h | h | h
    ·exact (a8 b).2 (.inl (zEC b h h2))
    ·exact (a8 b).2 (.inr (.inl (zFH b h h2)))
    ·exact (a8 b).2 (.inr (.inr h))
theorem qVW {IT : List (FuncId × zBB)} (s : zBH P good nat G tab) (hit : q3C P G IT) {sh : Sh} {v : Operand} {ps : Array Tmp} {bx bY : Code} {x y : ∀ {R' : Type}, Nm -> GV Γ -> List SV -> SH -> uY Γ R' -> zAN R'} {wx wy : List Nat} {hb : SH}
 (hx : ∀ {R' : Type} {nm : Nm} {g : GV Γ} {env : List SV} {h : SH} {K : uY Γ R'} {r : R'}, OkH P h -> okL h env -> env.length = N -> Keep hb h -> (x nm g env h K).run = some r -> qQ P G true nm wd bx g (qB env) (qE h.l) (EQ P N wx env h K r))
 (hy : ∀ {R' : Type} {nm : Nm} {g : GV Γ} {env : List SV} {h : SH} {K : uY Γ R'} {r : R'}, OkH P h -> okL h env -> env.length = N -> Keep hb h -> (y nm g env h K).run = some r -> qQ P G true nm wd bY g (qB env) (qE h.l) (EQ P N wy env h K r))
 {g : GV Γ} {env : List SV} {h : SH} {K : uY Γ R} (ho : OkH P h) (he : okL h env) (hl : env.length = N) (hbh : Keep hb h) (e : (q0K P G IT nm sh v ps bx bY x y g env h K).run = some r) :
 qQ P G false nm wd (.rangeFunc v ps bx bY) g (qB env) (qE h.l) (EQ P N [] env h K r) := by
 obtain ⟨h1, wk1, kp1, ho1, e⟩ := qJO (nm := nm) ho he e;refine qQ.pre' wk1 ?_;split at e
 case h_2 => cases e
 rename_i f caps hval;split at e
 case h_2 => cases e
 rename_i ent hent;split at e
 case h_2 => cases e
 rename_i z h2 hdc;split at e
 case h_2 => cases e
 rename_i b c os hbO hcB hos;split at e
 case h_2 => cases e
 rename_i ts hts;split at e
 case h_2 => cases e
 rename_i s0 hs0;obtain ⟨hck, e⟩ := qG e;simp only [zKI] at hck;obtain ⟨hn, hbx, hps, hv, hcx, hcy⟩ := hck;obtain ⟨_, hh0, hm0, e⟩ := tO e;obtain ⟨q1, hF, e⟩ := run_bind e;obtain ⟨eq, hq, hmq, eK⟩ := tO e;have he0 := qFT hn hm0;have heq := qFT hn hmq;subst he0;subst heq;obtain ⟨kp2, ho2, hfr⟩ := qEG ho1 hdc;have he2 : okL h2 eq := qL (kp1.trans kp2) he;have zDL := qFZ hos;obtain ⟨zG3, hIt⟩ := hit f ent hent;intro Z H m zAO D hs hbs;have hpv := qK hs.vrl v;rw [qM, hval] at hpv;simp only [SV.enc, qB] at hpv;generalize hiv : zAO.val v = iv at hpv
 cases hpv with
 | fn hf hc hfc hcc =>
 rename_i fs cs
 have hfs : fs = #[] := by
  have : fs.size = 0 := by simpa using hf.symm
  exact zL4 this
 subst hfs;obtain ⟨Z1, c1, r1⟩ := hfr Z H m cs.toList hs.hp ⟨by simpa using hc, fun i x v a b => hcc i x v a (by simpa using b)⟩;have hs2 : St P wd g (qB eq) (qE h2.l) Z1 H m zAO D := hs.step c1.hp (c1.vrl hs.vrl) c1.step
 have hw0 : qB (eB sh.d (svL ts s0) (blank [] 0 eq)).2 = qB (b ++ c) := by
  have hsd : sh.d = [] := by
   unfold noSh at hn;simp only [zKI, List.isEmpty_iff] at hn;exact hn.1
  rw [hsd];exact (oH hs0).symm
 obtain ⟨ho0, _, zG4⟩ := qUC ho2 ho2 hbO hcB hw0 hm0 zDL (qLY hos) hbx (fun k o _ _ hk => yY hk);have zC6 := Fz.drop hs2.hp (qF0 zG4);refine s.s.zFT hv hcx hcy hiv zG3 fun lp p1 p2 p3 p4 p5 p6 => ?_
 have hHL : ∀ b, b < H.size -> (H.push (.loop lp)).get b = H.get b := fun b hb => jN hb
 have hown0 : ∀ b, bJ (own m (qE hh0.l)) b -> bJ (own m (qE h2.l)) b := fun b ⟨k, ob, h1, h2⟩ => ⟨k, ob, zC6.zCY h1, h2⟩
 have hlo : ¬ bJ (own m (qE hh0.l)) H.size := fun h => zNT _ (aN zC6.hp h).1
 have hlD : ¬ D H.size := fun h => zNT _ (wd.lt hs2.wd _ h)
 have hlZ : ¬ Z1 H.size := fun h => zNT _ (c1.hp.zlt _ h)
 have st0 : St P wd g (qB eq) (qE hh0.l) Z1 H m zAO D := hs2.step zC6.hp (zC6.vrl hs2.vrl) zC6.step
 have st1 : St P wd g (qB eq) (qE hh0.l) Z1 (H.push (.loop lp)) m zAO D := by
  refine st0.other (fun _ h => h) (fun b h => zL8 (c1.hp.zlt b h)) (zN6 _) rfl (fun b hb _ => hHL b hb) fun b h => ?_
  rcases h with h | h
  ·exact (aN zC6.hp h).2
  ·exact wd.nz hs2.wd b h
 have hWi : (rgW P wd eq h2 zAO H m D lp (mkS P [] sh ts os eq h2)).W (gj g s0) Z1 (H.push (.loop lp)) fun b => bJ (own m (qE hh0.l)) b ∨ D b ∨ b = H.size :=
  ⟨eq, hh0, m, D, by rw [q1L]; exact hm0, by rw [q3O]; exact st1, gZ, zLI _, hlo, hlD, hlZ, fun b => Iff.rfl, zC6.kr _, fun b h _ => hown0 b h, fun b h _ => h, rfl⟩
 have hcall := hIt z (GS Γ (TyL ts)) _ _ _ hF (rgW P wd eq h2 zAO H m D lp (mkS P [] sh ts os eq h2)) H.size (fun q w q' bb hstp => by
  refine qXT (Γ := Γ) (ent := ent) hx hy ho2 he2 (hbh.trans (kp1.trans kp2)) hl hn zDL (ks := h2.l.map (·.1) ++ (os.map (·.1) ++ sh.b.map (·.1))) (fun k hk => ?_) p1 p2 p3 p5 p6 ?_ (by rw [p4]; exact hstp)
  ·simp only [zLY, not_or] at hk;refine ⟨hk.2.1, hk.2.2, ?_⟩
   cases hq : slk k h2.l with
   | none => rfl
   | some o => exact absurd (zLC.2 ⟨(k, o), qMS hq, rfl⟩) hk.1
  ·rw [p4]; exact zKJ hps) Z1 (H.push (.loop lp)) _ cs.toList (fun b h => zL8 (c1.hp.zlt b h)) (zK3 hbs (zN6 _)) (c1.hp.gl.mono c1.hp.zlt (fun _ h => h) fun b _ hb => hHL b hb) hWi (r1.none (fun _ h => h) (zN6 _) (fun b hz hb => hHL b hb) fun _ => rfl)
 refine ⟨_, hcall, ?_⟩;rintro ⟨rv, H'⟩ ⟨Z', D', b1, ⟨e5, h5, m5, Dg, a1, a2, a3, a4, a5, a6, a7, a8, a9, a10, a11, a12⟩, sw⟩;rw [hmq] at a1;cases a1;refine qX3 a3 p1 p2 fun lp' => ?_
 obtain ⟨n1, n2, n3, n4, n5, n6⟩ := eZ ho2 he2 hmq;have zEZ : Keep h hq := (kp1.trans kp2).trans n1
 have stf : St P wd (Go.Sv.g1 q1) (qB eq) (qE hq.l) Z' (H'.put H.size (.loop lp')) m5 zAO Dg := by
  refine a2.other (fun _ h => h) b1 (zKK _) rfl (fun b hb h => xI fun e => ?_) (fun b h => ?_)
  ·subst e;rcases h with h | h | h
   ·exact a5 h
   ·exact a6 h
   ·exact a7 h
  ·rcases h with h | h
   ·exact (aN a2.hp h).2
   ·exact wd.nz a2.wd b h
 have hsz : H.size <= H'.size := zK3 (zN6 _) sw.size;refine ⟨Z', m5, qB eq, qE hq.l, Go.Sv.g1 q1, Dg, stf, ⟨hsz, a12, fun b h => sw.zle b (c1.zle b h), fun b h1 h2 h3 => ?_, fun b h1 h2 => ?_, fun b h1 h2 => ?_, fun b h1 h2 => a11 b h1 h2⟩, ((c1.kr _).trans a9).up (fun k h => by cases h), eq, hq, rfl, rfl, n3, n2, hl, zEZ, fun _ => ⟨n3, n2, zEZ, fun _ _ => rfl, rfl⟩, eK⟩
 ·have hb : b ≠ H.size := Nat.ne_of_lt h1;refine (xI hb).trans ((sw.keep b (zL8 h1) (qCZ b) ?_).trans (hHL b h1));rintro (q | q | q)
  ·obtain ⟨k, ob, w1, w2⟩ := hown0 b q;exact h2 ⟨k, ob, c1.zCY w1, w2⟩
  ·exact h3 q
  ·exact hb q
 ·rcases sw.zBM b h1 (zL8 h2) with q | q | q
  ·rcases c1.zBM b q with q | q
   ·exact .inl q
   ·exact .inr (.inl q)
  ·exact absurd q (qCZ b)
  ·rcases q with q | q | q
   ·obtain ⟨k, ob, w1, w2⟩ := hown0 b q;exact .inr (.inl ⟨k, ob, c1.zCY w1, w2⟩)
   ·exact .inr (.inr q)
   ·exact absurd q (Nat.ne_of_lt h2)
 ·obtain ⟨k, ob, w1, w2⟩ := a10 b h1 h2;exact ⟨k, ob, c1.zCY w1, w2⟩
end
end Go.Sv
namespace Go.Sv
open Go.Idl
noncomputable section
variable [Gc]
variable [Frs]
variable [Yl]
variable {P : Program} {Γ : Option Type} {R : Type} {r : R} {nm : Nm} {G : Nat -> Bool} {N : Nat} {rs : List Ty} {tab : uL} {nat : y8} {good : FuncId -> Bool} {wd : Wld (GV Γ)}
def q90 (an : An) (id : Nat) : List (Nat × TypeId) := match lkA id an.fz with
 | some l => l
 | none => []
def wr (an : An) : Code -> List Nat
 | .region id ops _ => (q90 an id).map (·.1) ++ ops.toList.filterMap (·.dst)
 | .seq a b => wr an a ++ wr an b
 | .cond _ a b => wr an a ++ wr an b
 | .block id x => match lkA id an.lp with
   | some sh => lpW (wr an x) sh
   | none => wr an x
 | .loop x => wr an x
 | .scope x => wr an x
 | _ => []
def nx2 : List Oper -> Option (Operand × Nat × Nat)
 | [⟨some d1, .next x false, _, _, _, none⟩, ⟨some d2, .extract (.tmp e1) 0, _, _, _, none⟩] => cond (Nat.beq d1 e1) (some (x, d1, d2)) none
 | _ => none
def q7Z (id : Nat) (body : ∀ {R' : Type}, GV Γ -> List SV -> SH -> uY Γ R' -> zAN R') (K : uY Γ R) : Nat -> GV Γ -> List SV -> SH -> zAN R
 | 0, _, _, _ => .fail
 | n + 1, g, env, h => body g env h fun e g env h => match e with
   | .normal => q7Z id body K n g env h
   | .exit i => cond (Nat.beq i id) (K .normal g env h) (K (.exit i) g env h)
   | .ret => K .ret g env h
   | .goto _ => .fail
def zAH (y : GV Γ -> List SV -> SH -> uY Γ R -> zAN R) (K : uY Γ R) : uY Γ R := fun e g env h => match e with
 | .normal => y g env h K
 | e => K e g env h
def zAB (K : uY Γ R) : uY Γ R := fun e g env h => match e with
 | .goto _ => .fail
 | e => K e g env h
def q8O : Operand -> Nat
 | .tmp t => t
 | _ => 0
section
variable (P : Program) (G : Nat -> Bool) (T : jF) (IT : List (FuncId × zBB)) (CI : CIT) (Y : YI (GV Γ)) (an : An) (rdv : List SV -> SH -> Option (TyL rs)) (en : TyL rs -> List SV) (hb : SH)
def ev : Code -> {R : Type} -> Bool -> Nm -> GV Γ -> List SV -> SH -> uY Γ R -> zAN R
 | .skip, _, _, _, g, env, h, K => K .normal g env h
 | .label _, _, _, _, g, env, h, K => K .normal g env h
 | .ret, _, _, _, g, env, h, K => K .ret g env h
 | .exit id, _, _, _, g, env, h, K => K (.exit id) g env h
 | .seq a b, _, rd, nm, g, env, h, K => ev a rd nm g env h (zAH (ev b rd nm) K)
 | .cond v a b, _, rd, nm, g, env, h, K => cond (jI G v) (match asB (xM env v) with
   | some t => .ite t (ev a rd nm g env h K) (ev b rd nm g env h K)
   | none => (match xM env v with
     | .bq => .both (ev a rd nm g env h K) (ev b rd nm g env h K)
     | _ => .fail)) .fail
 | .region id ops d, _, rd, nm, g, env, h, K => fzv P nm (q90 an id) env h fun env h => q9H P G T CI Y nm ops d g env h fun g env h => K .normal g env h
 | .block id (.loop y), _, rd, nm, g, env, h, K => (match lkA id an.lp with
   | some sh => (match lkA id an.ab with
     | none => q7S P nm (wr an y) (lpW (wr an y) sh) rdv en hb sh id (fun {_} => ev y rd nm) g env h K
     | some _ => .fail)
   | none => q7Z id (fun {_} => ev y rd nm) K 24 g env h)
 | .block id x, _, rd, nm, g, env, h, K => (match lkA id an.lp with
   | some _ => .fail
   | none => ev x rd nm g env h (q9O id K))
 | .scope x, _, rd, nm, g, env, h, K => ev x rd nm g env h (zAB K)
 | .rangeFunc v ps x y, _, rd, nm, g, env, h, K => (match lkA (q8O v) an.rg with
   | some sh => cond rd .fail (q0K P G IT nm sh v ps x y (fun {_} => ev x true) (fun {_} => ev y true) g env h K)
   | none => .fail)
 | _, _, _, _, _, _, _, _ => .fail
end
theorem EQ.go {w w2 : List Nat} {env zAV : List SV} {h h1 : SH} {K : uY Γ R} {e : zBN} {g : GV Γ} {pe : List PV} {ph : PHp} (a : j4 P w env h zAV h1) (b : EQ P N w2 zAV h1 K r e g pe ph) : EQ P N (w ++ w2) env h K r e g pe ph := by
 obtain ⟨env', h', b1, b2, b3, b4, b5, b0, b6, b7⟩ := b;exact ⟨env', h', b1, b2, b3, b4, b5, a.2.2.1.trans b0, fun hne => a.trans (b6 hne), b7⟩
theorem EQ.up {w w2 : List Nat} {env : List SV} {h : SH} {K : uY Γ R} {e : zBN} {g : GV Γ} {pe : List PV} {ph : PHp} (hw : ∀ i ∈ w, i ∈ w2) (b : EQ P N w env h K r e g pe ph) : EQ P N w2 env h K r e g pe ph := by
 obtain ⟨env', h', b1, b2, b3, b4, b5, b0, b6, b7⟩ := b;exact ⟨env', h', b1, b2, b3, b4, b5, b0, fun hne => (b6 hne).up hw, b7⟩
theorem EQ.now {w : List Nat} {env : List SV} {h : SH} {K : uY Γ R} {e : zBN} {g : GV Γ} (ho : OkH P h) (he : okL h env) (hl : env.length = N) (hk : (K e g env h).run = some r) : EQ P N w env h K r e g (qB env) (qE h.l) :=
 ⟨env, h, rfl, rfl, he, ho, hl, .refl _, fun _ => (j4.refl ho he).up fun i hi => by (cases hi), hk⟩
theorem q9K {id : Nat} {w : List Nat} {env : List SV} {h : SH} {K : uY Γ R} {e : zBN} {g : GV Γ} {pe : List PV} {ph : PHp} (b : EQ P N w env h (q9O id K) r e g pe ph) : BQY id (EQ P N w env h K r) e g pe ph := by
 obtain ⟨env', h', b1, b2, b3, b4, b5, b0, b6, b7⟩ := b
 cases e with
 | normal => exact BQY.go ⟨env', h', b1, b2, b3, b4, b5, b0, b6, b7⟩
 | ret => exact BQY.rt ⟨env', h', b1, b2, b3, b4, b5, b0, b6, b7⟩
 | goto l => exact ⟨env', h', b1, b2, b3, b4, b5, b0, b6, b7⟩
 | exit i =>
   have b8 : (cond (Nat.beq i id) (K .normal g env' h') (K (.exit i) g env' h')).run = some r := b7
   cases hi : Nat.beq i id with
   | true =>
     rw [hi] at b8;have := zKJ hi;subst this;exact BQY.on ⟨env', h', b1, b2, b3, b4, b5, b0, fun _ => b6 fun h => by (cases h), b8⟩
   | false =>
     rw [hi] at b8;exact BQY.ex (fun h => by rw [h, rO] at hi; cases hi) ⟨env', h', b1, b2, b3, b4, b5, b0, b6, b8⟩
omit [Yl] in
theorem qXR {ops : List Oper} {i : Nat} (h : i ∉ ops.filterMap (·.dst)) : some i ∉ ops.map (·.dst) := fun hm => by
 obtain ⟨o, h1, h2⟩ := zLC.1 hm;exact h (zMR.2 ⟨o, h1, h2⟩)
def q68 (P : Program) (G : Nat -> Bool) (T : jF) (IT : List (FuncId × zBB)) (CI : CIT) (Y : YI (GV Γ)) (an : An) (rdv : List SV -> SH -> Option (TyL rs)) (en : TyL rs -> List SV) (hb : SH) (N : Nat) (wd : Wld (GV Γ)) (rd : Bool) (nm : Nm) (c : Code) : Prop :=
 ∀ {R : Type} {g : GV Γ} {env : List SV} {h : SH} {K : uY Γ R} {r : R}, OkH P h -> okL h env -> env.length = N -> Keep hb h -> (ev P G T IT CI Y an rdv en hb c rd nm g env h K).run = some r -> qQ P G rd nm wd c g (qB env) (qE h.l) (EQ P N (wr an c) env h K r)
theorem q2L {w : List Nat} {id : Nat} {y : Code} {hb : SH} {body : ∀ {R' : Type}, GV Γ -> List SV -> SH -> uY Γ R' -> zAN R'} {rd : Bool}
 (hbody : ∀ {R' : Type} {g : GV Γ} {env : List SV} {h : SH} {K : uY Γ R'} {r : R'}, OkH P h -> okL h env -> env.length = N -> Keep hb h -> (body g env h K).run = some r -> qQ P G rd nm wd y g (qB env) (qE h.l) (EQ P N w env h K r))
 {g : GV Γ} {env : List SV} {h : SH} {K : uY Γ R} {n : Nat} (ho : OkH P h) (he : okL h env) (hl : env.length = N) (hbh : Keep hb h) (e : (q7Z id (fun {_} => body) K n g env h).run = some r) :
 qQ P G rd nm wd (.block id (.loop y)) g (qB env) (qE h.l) (EQ P N w env h K r) := by
 refine qQ.zGV (fun n g1 pe ph => ∃ zAV h1, pe = qB zAV ∧ ph = qE h1.l ∧ okL h1 zAV ∧ OkH P h1 ∧ zAV.length = N ∧ Keep h h1 ∧ j4 P w env h zAV h1 ∧ (q7Z id (fun {_} => body) K n g1 zAV h1).run = some r) ?_ (n := n) ⟨env, h, rfl, rfl, he, ho, hl, .refl _, (j4.refl ho he).up fun i hi => by (cases hi), e⟩;rintro n1 g1 pe ph ⟨zAV, h1, rfl, rfl, b3, b4, b5, b6, b7, b8⟩
 cases n1 with
 | zero => cases b8
 | succ n1 =>
   unfold q7Z at b8;refine (hbody b4 b3 b5 (hbh.trans b6) b8).mono ?_;rintro x g2 pe ph ⟨env', h', rfl, rfl, c3, c4, c5, c0, c6, c7⟩
   have up : x ≠ .ret -> j4 P w env h env' h' := fun hne => (b7.trans (c6 hne)).up fun i hi => by
    rcases zLY.1 hi with q | q <;> exact q
   cases x with
   | normal => exact ⟨n1, zLI _, env', h', rfl, rfl, c3, c4, c5, b6.trans c0, up fun h => by (cases h), c7⟩
   | ret => exact BQY.rt ⟨env', h', rfl, rfl, c3, c4, c5, b6.trans c0, fun hne => absurd rfl hne, c7⟩
   | goto l => cases c7
   | exit i =>
     have c8 : (cond (Nat.beq i id) (K .normal g2 env' h') (K (.exit i) g2 env' h')).run = some r := c7
     cases hi : Nat.beq i id with
     | true =>
       rw [hi] at c8;have := zKJ hi;subst this;exact BQY.on ⟨env', h', rfl, rfl, c3, c4, c5, b6.trans c0, fun _ => up fun h => by (cases h), c8⟩
     | false =>
       rw [hi] at c8;exact BQY.ex (fun h => by rw [h, rO] at hi; cases hi) ⟨env', h', rfl, rfl, c3, c4, c5, b6.trans c0, fun _ => up fun h => by (cases h), c8⟩
theorem qTO {T : jF} {IT : List (FuncId × zBB)} {CI : CIT} {Y : YI (GV Γ)} {an : An} {rdv : List SV -> SH -> Option (TyL rs)} {en : TyL rs -> List SV} {hb : SH} {rd : Bool} {id : Nat} {y : Code} (s : zBH P good nat G tab) (hrd : zDK P nm N hb rdv en)
 (hY : q68 P G T IT CI Y an rdv en hb N wd rd nm y) (hZ : ∀ rid ops t j z, y = .seq (.region rid ops false) (.seq (.cond (.tmp t) .skip (.exit j)) z) -> q68 P G T IT CI Y an rdv en hb N wd rd nm z)
 {g : GV Γ} {env : List SV} {h : SH} {K : uY Γ R} (ho : OkH P h) (he : okL h env) (hl : env.length = N) (hbh : Keep hb h) (e : (ev P G T IT CI Y an rdv en hb (.block id (.loop y)) rd nm g env h K).run = some r) :
 qQ P G rd nm wd (.block id (.loop y)) g (qB env) (qE h.l) (EQ P N (wr an (.block id (.loop y))) env h K r) := by
 have e1 := e;unfold ev at e1;split at e1
 ·rename_i sh hsh;have hw : wr an (.block id (.loop y)) = lpW (wr an y) sh := by simp only [wr, hsh]
  rw [hw];split at e1
  ·exact qZT hrd rfl hY ho he hl hbh e1
  ·cases e1
 ·rename_i hn;have hw : wr an (.block id (.loop y)) = wr an y := by simp only [wr, hn]
  rw [hw];exact q2L hY ho he hl hbh e1
theorem vX [zBD P G] {T : jF} {IT : List (FuncId × zBB)} {CI : CIT} {Y : YI (GV Γ)} {an : An} {rdv : List SV -> SH -> Option (TyL rs)} {en : TyL rs -> List SV} {hb : SH} (s : zBH P good nat G tab) (ht : qRH tab T) (hit : q3C P G IT) (hci : q1C P G CI) (hy : YOk P G wd Y) (hrd : ∀ nm, zDK P nm N hb rdv en) :
 ∀ (c : Code), (∀ rd nm, q68 P G T IT CI Y an rdv en hb N wd rd nm c) ∧ ∀ a b, c = .seq a b -> (∀ rd nm, q68 P G T IT CI Y an rdv en hb N wd rd nm b) ∧ ∀ a' b', b = .seq a' b' -> ∀ rd nm, q68 P G T IT CI Y an rdv en hb N wd rd nm b'
 | .skip => ⟨fun rd nm {_ g env h K r} ho he hl hbh e => .skip (.now ho he hl e), fun a b h => by cases h⟩
 | .label _ => ⟨fun rd nm {_ g env h K r} ho he hl hbh e => .label (.now ho he hl e), fun a b h => by cases h⟩
 | .ret => ⟨fun rd nm {_ g env h K r} ho he hl hbh e => .ret (.now ho he hl e), fun a b h => by cases h⟩
 | .exit id => ⟨fun rd nm {_ g env h K r} ho he hl hbh e => .exit (.now ho he hl e), fun a b h => by cases h⟩
 | .seq a b => by
   refine ⟨fun rd nm {_ g env h K r} ho he hl hbh e => ?_, fun a' b' hh => by
    cases hh
    exact ⟨(vX s ht hit hci hy hrd b).1, fun a2 b2 h2 => ((vX s ht hit hci hy hrd b).2 a2 b2 h2).1⟩⟩
   refine .seq (((vX s ht hit hci hy hrd a).1 _ _ ho he hl hbh e).mono fun x g' pe ph hq => ?_);obtain ⟨env', h', b1, b2, b3, b4, b5, b0, b6, b7⟩ := hq
   cases x with
   | normal =>
     have b7 : (ev P G T IT CI Y an rdv en hb b rd nm g' env' h' K).run = some r := b7;subst b1 b2;show qQ P G rd nm wd b g' _ _ _;refine ((vX s ht hit hci hy hrd b).1 _ _ b4 b3 b5 (hbh.trans b0) b7).mono fun x g' pe ph hq => ?_
     exact EQ.go (b6 fun h => by (cases h)) hq
   | exit i => exact ⟨env', h', b1, b2, b3, b4, b5, b0, fun hne => (b6 hne).up fun i hi => zL5 _ hi, b7⟩
   | ret => exact ⟨env', h', b1, b2, b3, b4, b5, b0, fun hne => absurd rfl hne, b7⟩
   | goto l => exact ⟨env', h', b1, b2, b3, b4, b5, b0, fun hne => (b6 hne).up fun i hi => zL5 _ hi, b7⟩
 | .cond v a b => by
   refine ⟨fun rd nm {_ g env h K r} ho he hl hbh e => ?_, fun a b h => by cases h⟩;obtain ⟨c1, e1⟩ := qG e;split at e1
   ·rename_i t hv;have hpv : qJ (qB env) v = fvv (.bool t) := by rw [qM]; exact o7 hv
    rcases run_ite e1 with ⟨z, e2⟩ | ⟨z, e2⟩
    ·exact .cond c1 hpv (fun _ => ((vX s ht hit hci hy hrd a).1 _ _ ho he hl hbh e2).mono fun x g pe ph hq => hq.up fun i hi => zL5 _ hi) (fun hf => by rw [z] at hf; cases hf)
    ·exact .cond c1 hpv (fun hf => by rw [z] at hf; cases hf) (fun _ => ((vX s ht hit hci hy hrd b).1 _ _ ho he hl hbh e2).mono fun x g pe ph hq => hq.up fun i hi => zMD _ hi)
   ·split at e1
    case h_2 => cases e1
    rename_i hv;have hpv : qJ (qB env) v = .bq := by rw [qM, hv]; simp [SV.enc]
    obtain ⟨e2, e3⟩ := q0A e1;exact .zGU c1 hpv (((vX s ht hit hci hy hrd a).1 _ _ ho he hl hbh e2).mono fun x g pe ph hq => hq.up fun i hi => zL5 _ hi) (((vX s ht hit hci hy hrd b).1 _ _ ho he hl hbh e3).mono fun x g pe ph hq => hq.up fun i hi => zMD _ hi)
 | .region id ops d => by
   refine ⟨fun rd nm {_ g env h K r} ho he hl hbh e => ?_, fun a b h => by cases h⟩;obtain ⟨zAV, h1, w1, q1, e1⟩ := q1J (nm := nm) ho he e;refine qQ.pre' w1 ((q3P s ht hci hy q1.2.1 q1.1 e1).mono ?_);rintro x g' pe ph ⟨rfl, env', h', b1, b2, b3, b4⟩;refine EQ.go q1 ⟨env', h', b1, b2, b3.1, b3.2.1, by rw [b3.2.2.2.2, q1.2.2.2.2, hl], b3.2.2.1, fun _ => ⟨b3.1, b3.2.1, b3.2.2.1, fun i hi => b3.2.2.2.1 i (qXR hi), b3.2.2.2.2⟩, b4⟩
 | .block id x => by
   refine ⟨fun rd nm {_ g env h K r} ho he hl hbh e => ?_, fun a b h => by cases h⟩
   cases x with
   | loop y =>
     exact qTO s (hrd nm) ((vX s ht hit hci hy hrd y).1 _ _) (fun rid ops t j z hz => ((vX s ht hit hci hy hrd y).2 _ _ hz).2 _ _ rfl _ _) ho he hl hbh e
   | _ =>
     all_goals
      have e1 := e;unfold ev at e1;split at e1
      ·cases e1
      ·rename_i hn;simp only [wr, hn];exact .block (((vX s ht hit hci hy hrd _).1 _ _ ho he hl hbh e1).mono fun x g pe ph hq => q9K hq)
 | .loop _ => ⟨fun rd nm {_ _ _ _ _ _} _ _ _ _ e => (by cases e), fun a b h => by cases h⟩
 | .rangeFunc v ps x y => by
   refine ⟨fun rd nm {_ g env h K r} ho he hl hbh e => ?_, fun a b h => by cases h⟩;unfold ev at e;split at e
   ·rename_i sh hsh
    cases rd with
    | true => cases e
    | false => exact qVW s hit (fun ho he hl hbh e => (vX s ht hit hci hy hrd x).1 _ _ ho he hl hbh e) (fun ho he hl hbh e => (vX s ht hit hci hy hrd y).1 _ _ ho he hl hbh e) ho he hl hbh e
   ·cases e
 | .scope x => by
   refine ⟨fun rd nm {_ g env h K r} ho he hl hbh e => ?_, fun a b h => by cases h⟩;refine .scope (((vX s ht hit hci hy hrd x).1 _ _ ho he hl hbh e).mono fun ex g' pe ph hq => ?_);obtain ⟨env', h', b1, b2, b3, b4, b5, b0, b6, b7⟩ := hq
   cases ex with
   | goto l => cases b7
   | normal => exact ⟨fun _ h => by (cases h), env', h', b1, b2, b3, b4, b5, b0, b6, b7⟩
   | ret => exact ⟨fun _ h => by (cases h), env', h', b1, b2, b3, b4, b5, b0, b6, b7⟩
   | exit i => exact ⟨fun _ h => by (cases h), env', h', b1, b2, b3, b4, b5, b0, b6, b7⟩
 | .goto _ => ⟨fun rd nm {_ _ _ _ _ _} _ _ _ _ e => (by cases e), fun a b h => by cases h⟩
 | .refuse _ => ⟨fun rd nm {_ _ _ _ _ _} _ _ _ _ e => (by cases e), fun a b h => by cases h⟩
theorem q2Q [zBD P G] {T : jF} {IT : List (FuncId × zBB)} {CI : CIT} {Y : YI (GV Γ)} {an : An} {rdv : List SV -> SH -> Option (TyL rs)} {en : TyL rs -> List SV} {hb : SH} (s : zBH P good nat G tab) (ht : qRH tab T) (hit : q3C P G IT) (hci : q1C P G CI) (hy : YOk P G wd Y) (hrd : ∀ nm, zDK P nm N hb rdv en) :
 ∀ (c : Code) {R : Type} {rd : Bool} {nm : Nm} {g : GV Γ} {env : List SV} {h : SH} {K : uY Γ R} {r : R}, OkH P h -> okL h env -> env.length = N -> Keep hb h -> (ev P G T IT CI Y an rdv en hb c rd nm g env h K).run = some r -> qQ P G rd nm wd c g (qB env) (qE h.l) (EQ P N (wr an c) env h K r) :=
 fun c {R rd nm g env h K r} ho he hl hbh e => (vX s ht hit hci hy hrd c).1 rd nm ho he hl hbh e
end
end Go.Sv
namespace Go.Sv
open Go.Idl
noncomputable section
variable [Gc]
variable [Frs]
variable [Yl]
variable {P : Program} {R : Type} {r : R} {nm : Nm} {G : Nat -> Bool} {N : Nat} {tab : uL} {good : FuncId -> Bool}
def uF (P : Program) (ty : TypeId) (t : Ty) : Bool := match qMB P ty with
 | some true => !t.one && (match szT P ty with
   | some n => Nat.beq n t.w
   | none => false)
 | some false => t.one
 | none => false
omit [Yl] in
theorem qQY {ty : TypeId} {t : Ty} {x : t.sem} {ph : PHp} (e : uF P ty t = true) : dF P ty (qZW t x) ph = some (t.pv x) := by
 unfold uF at e;show qLP P ty (t.cells x) 0 = _;unfold qLP Ty.pv;split at e
 ·rename_i h1;rw [h1];simp only;split at e
  ·rename_i n hn;rw [hn];rw [zKI] at e;have h2 : n = t.w := zKJ e.2;have h3 : t.one = false := by simpa using e.1
   subst h2;have h4 : Nat.ble (0 + t.w) (t.cells x).length = true := zK4 (by rw [t.zAX]; omega);simp only [h4, cond_true, h3, cond_false, zM0];rw [zLN (by rw [t.zAX]; exact zKK _)]
  ·rw [zKI] at e; cases e.2
 ·rename_i h1;rw [h1];simp only [e, cond_true];rw [Ty.cells_one e];rfl
 ·cases e
def qWW : ResultVar -> Nat
 | .tmp t => t
 | .cell a _ => a
def qRQ : ResultVar -> Option TypeId
 | .tmp _ => none
 | .cell _ ty => some ty
def q6H (ty : TypeId) (v : SV) (h : SH) : Bool := match v with
 | .ref k _ _ => (match slk k h.l with
   | some (.cells el _ _) => Nat.beq el ty
   | _ => false)
 | _ => false
theorem qS1 {ty : TypeId} {t : Ty} {v : SV} {h : SH} {x : t.sem} {h' : SH} (ho : OkH P h) (e : qCC P t v h = some (x, h')) (hel : q6H ty v h = true) (h1 : t.one = false) : rt1 P ty (t.pv x) = t.pv x := by
 unfold qCC at e;unfold q6H at hel;split at e
 case h_2 => cases e
 rename_i k off w;split at e
 case h_2 => cases e
 rename_i el w0 l hk;simp only [hk] at hel;have hel : el = ty := zKJ hel;subst hel
 cases hc : (!spec P el && (Nat.beq off 0 && Nat.beq w l.length)) with
 | false => rw [hc] at e; cases e
 | true =>
   rw [hc] at e;simp only [cond_true] at e;split at e
   case h_2 => cases e
   rename_i y zA4 h2 hd;cases e;have hd0 := eG (k := k) ho;obtain ⟨a1, a2, a3, ys, a4, a5⟩ := qAE hd0.2 (qL hd0.1 (ho.cells _ _ _ _ hk)) hd;unfold Ty.pv;rw [h1];show PV.agg (rtL (rtC P) (vH P 8 el) ((t.cells x).map .f)) = _;have := (a5 []).2;rw [zL6] at this;rw [this];cases zA4 <;> simp [rtL]
def olL : List TypeId -> Ty -> Option (List TypeId)
 | tys, .pair a b => (match olL tys a with
   | some r => olL r b
   | none => none)
 | ty :: tys, .ol _ _ => cond (Gc.ol ty) (some tys) none
 | [], .ol _ _ => none
 | tys, t => cond t.nol (some (tys.drop t.w)) none
def q8D (t : Ty) (v : SV) : Option t.sem := match v with
 | .lp t' [x] 0 0 => if e : t' = t then some (e ▸ x) else none
 | _ => none
omit [Yl] in
theorem qW9 {t : Ty} {v : SV} {x : t.sem} (e : q8D t v = some x) : v = .lp t [x] 0 0 := by
 unfold q8D at e;split at e
 ·rename_i t' y;split at e
  ·rename_i h;subst h;cases e;rfl
  ·cases e
 ·cases e
def qY8 (P : Program) (c : Option TypeId) (ty : TypeId) (t : Ty) (v : SV) (h : SH) : Option (t.sem × SH) := match c with
 | none => q3L P ty t v h
 | some ty2 => match q8D t v with
   | some x => cond (uF P ty2 t && (t.nol || (!t.one && (olL (vH P 8 ty) t).isSome))) (some (x, h)) none
   | none => cond (uF P ty2 t && (t.nol || (!t.one && q6H ty v h))) (qCC P t v h) none
def qHA (c : Option TypeId) (t : Ty) (x : t.sem) : SV := match c with
 | none => t.sv x
 | some _ => .lp t [x] 0 0
def qJY (P : Program) : List (Option TypeId) -> List TypeId -> (ts : List Ty) -> List SV -> SH -> Option (TyL ts × SH)
 | [], _, [], [], h => some ((), h)
 | c :: cs, ty :: _, [t], v :: vs, h => (match cs, vs with
   | [], [] => qY8 P c ty t v h
   | _, _ => none)
 | c :: cs, ty :: tys, t :: u :: ts, v :: vs, h => match qY8 P c ty t v h with
   | some (x, h1) => (match qJY P cs tys (u :: ts) vs h1 with
     | some (y, h2) => some ((x, y), h2)
     | none => none)
   | none => none
 | _, _, _, _, _ => none
def svM : List (Option TypeId) -> (ts : List Ty) -> TyL ts -> List SV
 | _, [], _ => []
 | c :: _, [t], x => [qHA c t x]
 | [], [t], x => [t.sv x]
 | c :: cs, t :: u :: ts, x => qHA c t x.1 :: svM cs (u :: ts) x.2
 | [], t :: u :: ts, x => t.sv x.1 :: svM [] (u :: ts) x.2
omit [Yl] in
theorem qVS {h : SH} (c : Option TypeId) (t : Ty) (x : t.sem) : (qHA c t x).ok h := by
 cases c with
 | none => exact qKF t x
 | some _ => simp [qHA, SV.ok]
omit [Yl] in
theorem qVC {h : SH} : ∀ (cs : List (Option TypeId)) (ts : List Ty) (x : TyL ts), okL h (svM cs ts x)
 | _, [], _ => by simp [svM, okL]
 | c :: _, [t], x => by simp only [svM, okL]; exact ⟨qVS c t x, trivial⟩
 | [], [t], x => by simp only [svM, okL]; exact ⟨qKF t x, trivial⟩
 | c :: cs, t :: u :: ts, x => by
   show okL h (qHA c t x.1 :: svM cs (u :: ts) x.2);simp only [okL];exact ⟨qVS c t x.1, qVC cs (u :: ts) x.2⟩
 | [], t :: u :: ts, x => by
   show okL h (t.sv x.1 :: svM [] (u :: ts) x.2);simp only [okL];exact ⟨qKF t x.1, qVC [] (u :: ts) x.2⟩
omit [Yl] in
theorem qKS : ∀ (cs : List (Option TypeId)) (ts : List Ty) (x : TyL ts), (svM cs ts x).length = ts.length
 | _, [], _ => by simp [svM]
 | c :: _, [t], x => rfl
 | [], [t], x => rfl
 | c :: cs, t :: u :: ts, x => by
   show (qHA c t x.1 :: svM cs (u :: ts) x.2).length = _;simp only [zK1, qKS cs (u :: ts)]
 | [], t :: u :: ts, x => by
   show (t.sv x.1 :: svM [] (u :: ts) x.2).length = _;simp only [zK1, qKS [] (u :: ts)]
theorem qNC (c : Option TypeId) (t : Ty) (x : t.sem) (Z : Nat -> Prop) (H : IH) (M M' : Nat -> Option (Nat × PO)) (v : Value) (h : VR P Z H M (qHA c t x).enc v) : VR P Z H M' (qHA c t x).enc v := by
 cases c with
 | none =>
   simp only [qHA, nI] at h ⊢;exact cK h (qUN t x)
 | some _ =>
   simp only [qHA, SV.enc] at h ⊢
   cases h with
   | lp a b c d => exact .lp a b c d
omit [Yl] in
theorem sD {ty : TypeId} : ∀ (t : Ty) (x : t.sem) (c : FV), t.nol = true -> c ∈ t.cells x -> rt0 P ty (.f c) = .f c
 | .int _, x, c, _, h => by simp only [Ty.cells, zMP] at h; subst h; rfl
 | .bool, x, c, _, h => by simp only [Ty.cells, zMP] at h; subst h; rfl
 | .str, x, c, _, h => by simp only [Ty.cells, zMP] at h; subst h; rfl
 | .raw, x, c, _, h => by simp only [Ty.cells, zMP] at h; subst h; rfl
 | .nif, x, c, _, h => by simp only [Ty.cells, zMP] at h; subst h; rfl
 | .list _ _, x, c, _, h => by simp only [Ty.cells, zMP] at h; subst h; rfl
 | .unit, x, c, _, h => by cases h
 | .pair a b, x, c, hn, h => by
   have h : c ∈ a.cells x.1 ++ b.cells x.2 := h;have hn : (a.nol && b.nol) = true := hn;rw [zKI] at hn;rcases zLY.1 h with q | q
   ·exact sD a _ _ hn.1 q
   ·exact sD b _ _ hn.2 q
omit [Yl] in
theorem q1N {f : TypeId -> PV -> PV} : ∀ {ts : List TypeId} {xs : List PV}, (∀ t x, x ∈ xs -> f t x = x) -> rtL f ts xs = xs
 | [], xs, _ => by cases xs <;> rfl
 | t :: ts, [], _ => rfl
 | t :: ts, x :: xs, h => by
   show f t x :: rtL f ts xs = _;rw [h t x zKW, q1N fun t y hy => h t y (zKQ _ hy)]
omit [Yl] in
theorem q1M {ty : TypeId} (t : Ty) (x : t.sem) (hn : t.nol = true) : rt1 P ty (t.pv x) = t.pv x := by
 unfold Ty.pv
 cases ht : t.one with
 | true => exact tZ (by rw [ht, hn]; rfl)
 | false =>
   show PV.agg (rtL (rtC P) (vH P 8 ty) ((t.cells x).map .f)) = _;rw [q1N]
   ·rfl
   ·intro ty2 y hy;obtain ⟨c, hc, rfl⟩ := zLC.1 hy;unfold rtC;rw [sD t x c hn hc];cases Gc.ol ty2 <;> rfl
omit [Yl] in
theorem qUZ {f : TypeId -> PV -> PV} : ∀ {ts : List TypeId} {xs rest : List PV}, (∀ t x, x ∈ xs -> f t x = x) -> rtL f ts (xs ++ rest) = xs ++ rtL f (ts.drop xs.length) rest
 | ts, [], rest, _ => by simp
 | [], x :: xs, rest, _ => by simp [rtL]
 | t :: ts, x :: xs, rest, h => by
   show f t x :: rtL f ts (xs ++ rest) = _;rw [h t x zKW, qUZ fun t y hy => h t y (zKQ _ hy)];rfl
omit [Yl] in
theorem gU (t : Ty) (hn : t.nol = true) {tys zA4 : List TypeId} (h : olL tys t = cond t.nol (some (tys.drop t.w)) none) (e : olL tys t = some zA4) (x : t.sem) (rest : List PV) : rtL (rtC P) tys ((t.cells x).map .f ++ rest) = (t.cells x).map .f ++ rtL (rtC P) zA4 rest := by
 have hd : zA4 = tys.drop t.w := by
  rw [h, hn] at e;cases e; rfl
 rw [qUZ, hd, zK2, t.zAX];intro ty2 y hy;obtain ⟨c, hc, rfl⟩ := zLC.1 hy;unfold rtC;rw [sD t x c hn hc];cases Gc.ol ty2 <;> rfl
omit [Yl] in
theorem qR0 : ∀ (t : Ty) {tys zA4 : List TypeId}, olL tys t = some zA4 -> ∀ (x : t.sem) (rest : List PV), rtL (rtC P) tys ((t.cells x).map .f ++ rest) = (t.cells x).map .f ++ rtL (rtC P) zA4 rest
 | .pair a b, tys, zA4, e, x, rest => by
   unfold olL at e;split at e
   ·rename_i r hr;show rtL (rtC P) tys ((a.cells x.1 ++ b.cells x.2).map .f ++ rest) = (a.cells x.1 ++ b.cells x.2).map .f ++ _;rw [zLQ, zLG, qR0 a hr, qR0 b e, zLG]
   ·cases e
 | .ol el k, tys, zA4, e, x, rest => by
   cases tys with
   | nil => cases e
   | cons ty tys =>
     have e : cond (Gc.ol ty) (some tys) none = some zA4 := e
     cases ho : Gc.ol ty with
     | false => rw [ho] at e; cases e
     | true =>
       rw [ho] at e;cases e;show rtC P ty (.f (fvo el k x)) :: rtL (rtC P) _ rest = .f (fvo el k x) :: _;unfold rtC;rw [ho]; rfl
 | .int k, tys, zA4, e, x, rest => gU (.int k) rfl (by cases tys <;> rfl) e x rest
 | .bool, tys, zA4, e, x, rest => gU .bool rfl (by cases tys <;> rfl) e x rest
 | .str, tys, zA4, e, x, rest => gU .str rfl (by cases tys <;> rfl) e x rest
 | .raw, tys, zA4, e, x, rest => gU .raw rfl (by cases tys <;> rfl) e x rest
 | .nif, tys, zA4, e, x, rest => gU .nif rfl (by cases tys <;> rfl) e x rest
 | .list el u, tys, zA4, e, x, rest => gU (.list el u) rfl (by cases tys <;> rfl) e x rest
 | .unit, tys, zA4, e, x, rest => gU .unit rfl (by cases tys <;> rfl) e x rest
theorem qNN {c : Option TypeId} {ty : TypeId} {t : Ty} {v : SV} {h : SH} {x : t.sem} {h' : SH} (ho : OkH P h) (hv : v.ok h) (e : qY8 P c ty t v h = some (x, h')) :
 Keep h h' ∧ OkH P h' ∧ (∀ ty2, c = some ty2 -> uF P ty2 t = true) ∧ rt1 P ty (t.pv x) = t.pv x ∧ ∀ (Z : Nat -> Prop) (H : IH) (m : Nat -> Nat) (u : Value), Hp P Z H (own m (qE h.l)) -> VR P Z H (own m (qE h.l)) v.enc u -> ∃ Z', Fz P Z H m (qE h.l) Z' (qE h'.l) ∧ VR P Z' H (fun _ => none) (qHA c t x).enc u := by
 unfold qY8 at e
 cases c with
 | none =>
   obtain ⟨y, a1, a2, a3, a4, a5⟩ := qBR ho hv e;refine ⟨a3, a4, fun _ h => by (cases h), a5, fun Z H m u hp hu => ?_⟩;obtain ⟨Z', c1, c2⟩ := qJ0 hp hu a1;refine ⟨Z', c1, ?_⟩;simp only [qHA, nI];rw [<- a2];exact qDV c2
 | some ty2 =>
   simp only at e
   cases hlp : q8D t v with
   | some y =>
     rw [hlp] at e;simp only at e;have hv2 := qW9 hlp
     cases hcn : (uF P ty2 t && (t.nol || (!t.one && (olL (vH P 8 ty) t).isSome))) with
     | false => rw [hcn] at e; cases e
     | true =>
       rw [hcn] at e;cases e;obtain ⟨hc, hn⟩ : uF P ty2 t = true ∧ (t.nol || (!t.one && (olL (vH P 8 ty) t).isSome)) = true := by rwa [zKI] at hcn
       refine ⟨.refl _, ho, fun _ h => by cases h; exact hc, ?_, fun Z H m u hp hu => ⟨Z, .refl hp, ?_⟩⟩
       ·rcases Bool.or_eq_true_iff.1 hn with q | q
        ·exact q1M t _ q
        ·rw [zKI] at q;obtain ⟨zA4, ht⟩ := zLJ.1 q.2;have h1 : t.one = false := by simpa using q.1
         unfold Ty.pv;rw [h1];show PV.agg (rtL (rtC P) (vH P 8 ty) ((t.cells _).map .f)) = _;have := qR0 (P := P) t ht x [];rw [zL6] at this;rw [this];cases zA4 <;> simp [rtL]
       ·rw [hv2] at hu;simp only [qHA, SV.enc] at hu ⊢
        cases hu with
        | lp a b c d => exact .lp a b c d
   | none =>
   rw [hlp] at e;simp only at e
   cases hcn : (uF P ty2 t && (t.nol || (!t.one && q6H ty v h))) with
   | false => rw [hcn] at e; cases e
   | true =>
     rw [hcn] at e;obtain ⟨hc, hn⟩ : uF P ty2 t = true ∧ (t.nol || (!t.one && q6H ty v h)) = true := by rwa [zKI] at hcn
     have hrt : rt1 P ty (t.pv x) = t.pv x := by
      rcases Bool.or_eq_true_iff.1 hn with q | q
      ·exact q1M t x q
      ·rw [zKI] at q;exact qS1 ho e q.2 (by simpa using q.1)
     obtain ⟨a1, a2, a3⟩ := qCE ho e;refine ⟨a1, a2, fun _ h => by cases h; exact hc, hrt, fun Z H m u hp hu => ?_⟩;obtain ⟨Z', c1, c2⟩ := a3 Z H m u hp hu;refine ⟨Z', c1, ?_⟩;simp only [qHA, SV.enc];simpa [qZW] using c2
structure zG5 (P : Program) (cs : List (Option TypeId)) (tys : List TypeId) (ts : List Ty) (vs : List SV) (h : SH) (x : TyL ts) (h' : SH) : Prop where
 keep : Keep h h'
 ok : OkH P h'
 fz : ∀ (Z : Nat -> Prop) (H : IH) (m : Nat -> Nat) (us : List Value), Hp P Z H (own m (qE h.l)) -> VRL P Z H (own m (qE h.l)) (qB vs) us -> ∃ Z', Fz P Z H m (qE h.l) Z' (qE h'.l) ∧ VRL P Z' H (fun _ => none) (qB (svM cs ts x)) us
 any : ∀ (Z : Nat -> Prop) (H : IH) (M M' : Nat -> Option (Nat × PO)) (us : List Value), VRL P Z H M (qB (svM cs ts x)) us -> VRL P Z H M' (qB (svM cs ts x)) us
 rt : rtL (rt1 P) tys (pvL ts x) = pvL ts x
 load : ∀ (ph : PHp) (rv : List ResultVar) (env : List PV), rv.map qRQ = cs -> (rv.map fun r => (zH env (qWW r)).getD .unk) = qB (svM cs ts x) -> qEX P env ph rv = some (pvL ts x)
theorem q6A {c : Option TypeId} {t : Ty} {x : t.sem} (hc : ∀ ty2, c = some ty2 -> uF P ty2 t = true) {ph : PHp} {r : ResultVar} {env : List PV} (h1 : qRQ r = c) (h2 : (zH env (qWW r)).getD .unk = (qHA c t x).enc) : qZC P env ph r = some (t.pv x) := by
 subst h1
 cases r with
 | tmp i =>
   show some ((zH env i).getD .unk) = _;rw [show (zH env i).getD .unk = _ from h2];simp [qRQ, qHA, nI]
 | cell a ty =>
   show dF P ty ((zH env a).getD .unk) ph = _;rw [show (zH env a).getD .unk = _ from h2];have := qQY (x := x) (ph := ph) (hc ty rfl);simpa [qRQ, qHA, SV.enc, qZW] using this
theorem qT9 : ∀ {cs : List (Option TypeId)} {tys : List TypeId} {ts : List Ty} {vs : List SV} {h : SH} {x : TyL ts} {h' : SH}, OkH P h -> okL h vs -> qJY P cs tys ts vs h = some (x, h') -> zG5 P cs tys ts vs h x h'
 | [], tys, [], [], h, x, h', ho, hv, e => by
   unfold qJY at e;cases e;refine ⟨.refl _, ho, fun Z H m us hp hu => ⟨Z, .refl hp, ?_⟩, fun Z H M M' us hu => ?_, (by cases tys <;> rfl), fun ph rv env h1 h2 => ?_⟩
   ·simp only [qB] at hu;rw [hu.zAT];simp only [svM, qB];exact .nil
   ·simp only [svM, qB] at hu ⊢;rw [hu.zAT];exact .nil
   ·cases rv with
    | nil => rfl
    | cons _ _ => cases h1
 | c :: cs, ty :: tys, [t], v :: vs, h, x, h', ho, hv, e => by
   unfold qJY at e;split at e
   case h_2 => cases e
   simp only [okL] at hv;obtain ⟨a1, a2, a3, ar, a4⟩ := qNN ho hv.1 e;refine ⟨a1, a2, fun Z H m us hp hu => ?_, fun Z H M M' us hu => ?_, ?_, fun ph rv env h1 h2 => ?_⟩
   ·simp only [qB] at hu;obtain ⟨u, us', rfl, b1, b2⟩ := hu.zAQ;obtain ⟨Z', c1, c2⟩ := a4 Z H m u hp b1;rw [b2.zAT];simp only [svM, qB];exact ⟨Z', c1, .cons c2 .nil⟩
   ·simp only [svM, qB] at hu ⊢;obtain ⟨u, us', rfl, b1, b2⟩ := hu.zAQ;rw [b2.zAT];exact .cons (qNC c t x _ _ _ _ _ b1) .nil
   ·show rt1 P ty (t.pv x) :: rtL (rt1 P) tys [] = [t.pv x];rw [ar];cases tys <;> rfl
   ·match rv, h1, h2 with
    | [r], h1, h2 =>
      simp only [zKZ, zMU, zLB, and_true] at h1;simp only [zKZ, zMU, svM, qB, zLB, and_true] at h2;unfold qEX;rw [q6A a3 h1 h2];rfl
 | c :: cs, ty :: tys, t :: u :: ts, v :: vs, h, x, h', ho, hv, e => by
   unfold qJY at e;simp only [okL] at hv;split at e
   case h_2 => cases e
   rename_i x1 h1 hd;split at e
   case h_2 => cases e
   rename_i y h2 hd2;cases e;obtain ⟨a1, a2, a3, ar, a4⟩ := qNN ho hv.1 hd;have ih := qT9 a2 (qL a1 hv.2) hd2;have hsv : svM (c :: cs) (t :: u :: ts) (x1, y) = qHA c t x1 :: svM cs (u :: ts) y := rfl;refine ⟨a1.trans ih.keep, ih.ok, fun Z H m us hp hu => ?_, fun Z H M M' us hu => ?_, ?_, fun ph rv env g1 g2 => ?_⟩
   ·simp only [qB] at hu;obtain ⟨w, us', rfl, b1, b2⟩ := hu.zAQ;obtain ⟨Z1, d1, d2⟩ := a4 Z H m w hp b1;obtain ⟨Z2, f1, f2⟩ := ih.fz Z1 H m us' d1.hp (d1.vrl b2);rw [hsv];simp only [qB];exact ⟨Z2, d1.trans f1, .cons (d2.mono (p := fun _ => false) f1.zle (zKK _) (fun _ _ _ => rfl) (.refl _ _) fun j hj => by cases hj) f2⟩
   ·rw [hsv] at hu ⊢;simp only [qB] at hu ⊢;obtain ⟨w, us', rfl, b1, b2⟩ := hu.zAQ;exact .cons (qNC c t x1 _ _ _ _ _ b1) (ih.any _ _ _ _ _ b2)
   ·show rt1 P ty (t.pv x1) :: rtL (rt1 P) tys (pvL (u :: ts) y) = t.pv x1 :: pvL (u :: ts) y;rw [ar, ih.rt]
   ·cases rv with
    | nil => cases g1
    | cons r rv =>
      rw [hsv] at g2;simp only [zKZ, zLB] at g1;simp only [zKZ, qB, zLB] at g2;unfold qEX;rw [q6A a3 g1.1 g2.1, ih.load ph rv env g1.2 g2.2];rfl
 | [], _, [], _ :: _, _, _, _, _, _, e => by unfold qJY at e; cases e
 | [], [], [_], _, _, _, _, _, _, e => by unfold qJY at e; cases e
 | [], [], _ :: _ :: _, _, _, _, _, _, _, e => by unfold qJY at e; cases e
 | [], _ :: _, [_], _, _, _, _, _, _, e => by unfold qJY at e; cases e
 | [], _ :: _, _ :: _ :: _, _, _, _, _, _, _, e => by unfold qJY at e; cases e
 | _ :: _, [], [], _, _, _, _, _, _, e => by unfold qJY at e; cases e
 | _ :: _, _ :: _, [], _, _, _, _, _, _, e => by unfold qJY at e; cases e
 | _ :: _, [], [_], _, _, _, _, _, _, e => by unfold qJY at e; cases e
 | _ :: _, [], _ :: _ :: _, _, _, _, _, _, _, e => by unfold qJY at e; cases e
 | _ :: _, _ :: _, [_], [], _, _, _, _, _, e => by unfold qJY at e; cases e
 | _ :: _, _ :: _, _ :: _ :: _, [], _, _, _, _, _, e => by unfold qJY at e; cases e
def rdR (P : Program) (hb : SH) (zCT : List TypeId) (rs : List Ty) (rv : List ResultVar) (env : List SV) (h : SH) : Option (TyL rs) := match qIM (rv.map qWW) env with
 | some vs => (match qJY P (rv.map qRQ) zCT rs vs h with
   | some p => cond (mW [] hb p.2) (some p.1) none
   | none => none)
 | none => none
def enR (N : Nat) (rv : List ResultVar) (rs : List Ty) (v : TyL rs) : List SV := (eB (rv.map qWW) (svM (rv.map qRQ) rs v) (List.replicate N .unk)).1
omit [Yl] in
theorem fI (h : SH) : ∀ (n : Nat), okL h (List.replicate n .unk)
 | 0 => by simp [okL]
 | n + 1 => by rw [zL7]; simp only [okL]; exact ⟨by simp [SV.ok], fI h n⟩
theorem qA0 : ∀ (n : Nat), qB (List.replicate n .unk) = List.replicate n .unk
 | 0 => by simp [qB]
 | n + 1 => by rw [zL7, zL7]; simp only [qB, qA0 n, SV.enc]
theorem qPV {Z : Nat -> Prop} {H : IH} {M : Nat -> Option (Nat × PO)} {vals : List Value} : ∀ {rl : List Nat} {l base : List SV} {ws : List Value}, (∀ (j i : Nat), rl[j]? = some i -> vals[i]? = ws[j]?) -> VRL P Z H M (qB l) ws -> VRL P Z H M (qB base) vals -> VRL P Z H M (qB (eB rl l base).1) vals
 | [], l, base, ws, _, _, hb => hb
 | i :: is, [], base, ws, _, _, hb => hb
 | i :: is, c :: l, base, ws, hc, hl, hb => by
   simp only [qB] at hl;obtain ⟨w, ws', rfl, h1, h2⟩ := hl.zAQ;show VRL P Z H M (qB (eB is l (xB base i c)).1) vals;refine qPV (ws := ws') (fun j k hj => by simpa using hc (j + 1) k (by simpa using hj)) h2 ?_;rw [kE];exact hb.slot (v := w) (by simpa using hc 0 i rfl) h1
theorem qN5 {Z : Nat -> Prop} {H : IH} {M : Nat -> Option (Nat × PO)} {env : List SV} {vals : List Value} (hv : VRL P Z H M (qB env) vals) : ∀ {rl : List Nat} {vs : List SV}, qIM rl env = some vs -> ∃ ws, VRL P Z H M (qB vs) ws ∧ ∀ (j i : Nat), rl[j]? = some i -> vals[i]? = ws[j]?
 | [], vs, e => by cases e; exact ⟨[], by simp only [qB]; exact .nil, fun j i h => by simp at h⟩
 | i :: is, vs, e => by
   unfold qIM at e;split at e
   ·rename_i v l hx hl;cases e;obtain ⟨ws, h1, h2⟩ := qN5 hv hl;have hx2 : (qB env)[i]? = some v.enc := by rw [<- qF, zK, hx]; rfl
    obtain ⟨w, hw, hr⟩ := hv.get hx2;refine ⟨w :: ws, by simp only [qB]; exact .cons hr h1, fun j k hj => ?_⟩
    cases j with
    | zero => simp at hj; subst hj; simpa using hw
    | succ j => simpa using h2 j k (by simpa using hj)
   ·cases e
omit [Yl] in
theorem q3E {Z : Nat -> Prop} {H : IH} {M : Nat -> Option (Nat × PO)} {vals : List Value} : VRL P Z H M (List.replicate vals.length .unk) vals := ⟨by simp, fun i z v h1 h2 => by
 rw [zNH] at h1;split at h1
 ·cases h1; exact .unk
 ·cases h1⟩
omit [Yl] in
theorem qFN {env : List SV} : ∀ {rl : List Nat} {vs : List SV}, qIM rl env = some vs -> ∀ z ∈ vs, z ∈ env
 | [], vs, e, z, hz => by cases e; cases hz
 | i :: is, vs, e, z, hz => by
   unfold qIM at e;split at e
   ·rename_i v l hx hl;cases e;rcases zK5.1 hz with q | q
    ·subst q; rw [qF] at hx; exact zLH hx
    ·exact qFN hl z q
   ·cases e
theorem qK7 {hb : SH} {zCT : List TypeId} {rs : List Ty} {rv : List ResultVar} {env : List SV} {h : SH} {v : TyL rs} (ho : OkH P h) (he : okL h env) (e : rdR P hb zCT rs rv env h = some v) :
 ∃ vs h', qIM (rv.map qWW) env = some vs ∧ zG5 P (rv.map qRQ) zCT rs vs h v h' ∧ mW [] hb h' = true := by
 unfold rdR at e;split at e
 case h_2 => cases e
 rename_i vs hvs;split at e
 case h_2 => cases e
 rename_i p hp;obtain ⟨x, h'⟩ := p
 cases hc : mW [] hb h' with
 | false => rw [hc] at e; cases e
 | true =>
   rw [hc] at e;cases e;exact ⟨vs, h', hvs, qT9 ho (yC.2 fun z hz => yC.1 he z (qFN hvs z hz)) hp, hc⟩
theorem qSW {hb : SH} (hob : OkH P hb) {zCT : List TypeId} {rs : List Ty} {rv : List ResultVar} : zDK P nm N hb (rdR P hb zCT rs rv) (enR N rv rs) := by
 refine ⟨hob, fun env h v ho he hl hbh e => ?_, fun env h v ho he hbh e k o hk => ?_, fun v => by unfold enR; rw [qEU, zM3], fun v h => qLH (qVC _ rs v) (fI h N)⟩
 ·obtain ⟨vs, h', hvs, hd, hkp⟩ := qK7 ho he e;intro Z H m vals hh hv;obtain ⟨ws, h1, h2⟩ := qN5 hv hvs;obtain ⟨Z', c1, r2⟩ := hd.fz Z H m ws hh h1;have hdr := Fz.drop c1.hp (ph' := qE hb.l) (qF0 fun k o hk => qBW hob (hbh.trans hd.keep) hkp (by simp) hk);have hlen : vals.length = N := by rw [<- hv.len, qW, hl]
  refine ⟨Z', m, hdr.hp, ?_, c1.step.trans hdr.step, (c1.kr _).trans (hdr.kr _)⟩;unfold enR;refine qPV h2 (hd.any _ _ _ _ _ r2) ?_;rw [qA0, <- hlen];exact q3E
 ·obtain ⟨vs, h', hvs, hd, hkp⟩ := qK7 ho he e;have := qPS hob (hbh.trans hd.keep) hkp (by simp) hk;exact hd.keep.same k o this (zKO (hob.ver k o hk) hbh.next)
omit [Yl] in
theorem q7A (t : Ty) (x : t.sem) (ph : PHp) : fzP P ph (t.pv x) = some (t.pv x, ph) := by
 unfold Ty.pv
 cases t.one with
 | true => rfl
 | false => simp only [cond_false, fzP, qGY]
omit [Yl] in
theorem q1F {ph : PHp} : ∀ {xs : List PV}, (∀ y ∈ xs, fzP P ph y = some (y, ph)) -> fzA P xs ph = some (xs, ph)
 | [], _ => rfl
 | x :: xs, h => by
   simp only [fzA, h x zKW, q1F fun y hy => h y (zKQ _ hy)]
omit [Yl] in
theorem q28 (rs : List Ty) (x : TyL rs) (ph : PHp) : fzR P ph (vC rs x) = some (vC rs x) := by
 have hm : ∀ y ∈ pvL rs x, ∃ (t : Ty) (z : t.sem), y = t.pv z := fun y hy => qB6 hy
 unfold vC;generalize pvL rs x = l at hm
 have hz : ∀ y ∈ l, fzP P ph y = some (y, ph) := fun y hy => by
  obtain ⟨t, z, rfl⟩ := hm y hy;exact q7A t z ph
 match l, hm, hz with
 | [], _, hz => rfl
 | [v], hm, hz =>
   obtain ⟨t, z, rfl⟩ := hm v zKW;have := hz _ zKW;show fzR P ph (t.pv z) = some (t.pv z);unfold fzR;unfold Ty.pv at this ⊢
   cases ht : t.one with
   | true => rw [ht] at this; simp only [cond_true] at this ⊢; rw [this]
   | false => rw [ht] at this; simp only [cond_false] at this ⊢; rw [this]
 | a :: b :: l, _, hz =>
   show (match fzA P (a :: b :: l) ph with
    | some (ys, _) => some (PV.tup ys)
    | none => none) = _
   rw [q1F hz]; rfl
omit [Yl] in
theorem qLF (rs : List Ty) (x : TyL rs) : q5C (vC rs x) = true := by
 have hm : ∀ y ∈ pvL rs x, qHM y = true := fun y hy => by
  obtain ⟨t, z, rfl⟩ := qB6 hy;exact qUN t z
 have hm2 : ∀ y ∈ pvL rs x, ∃ (t : Ty) (z : t.sem), y = t.pv z := fun y hy => qB6 hy
 unfold vC;generalize pvL rs x = l at hm hm2
 match l, hm, hm2 with
 | [], _, _ => rfl
 | [v], hm, hm2 =>
   have h1 := hm v zKW;obtain ⟨t, z, rfl⟩ := hm2 v zKW;show q5C (t.pv z) = true;unfold Ty.pv at h1 ⊢
   cases ht : t.one with
   | true => rfl
   | false => rw [ht] at h1; exact h1
 | a :: b :: l, hm, _ => exact zKL.2 hm
def qN4 : List Nat -> Bool
 | [] => true
 | i :: l => !qDA i l && qN4 l
omit [Yl] in
theorem qPF : ∀ {rl : List Nat} {l base : List SV}, qN4 rl = true -> rl.length = l.length -> (∀ i ∈ rl, i < base.length) -> ∀ (j i : Nat), rl[j]? = some i -> zH (eB rl l base).1 i = l[j]?
 | [], l, base, _, _, _, j, i, h => by simp at h
 | k :: is, [], base, _, hl, _, j, i, h => by simp at hl
 | k :: is, c :: l, base, hn, hl, hb, j, i, h => by
   unfold qN4 at hn;rw [zKI] at hn
   have hk : k ∉ is := fun hm => by
    have := wJ.2 hm;rw [this] at hn;exact absurd hn.1 (by simp)
   show zH (eB is l (xB base k c)).1 i = _
   cases j with
   | zero =>
     simp at h;subst h;rw [qFW hk, zB, qF, zLD, if_pos rfl, if_pos (hb k zKW)];rfl
   | succ j =>
     have h2 : is[j]? = some i := by simpa using h
     rw [qPF (rl := is) (l := l) hn.2 (by simpa using hl) (fun i hi => by rw [jJ]; exact hb i (zKQ _ hi)) j i h2];rfl
def q9Y {rs : List Ty} (rdv : List SV -> SH -> Option (TyL rs)) : uY none (TyL rs) := fun e _ env h => match e with
 | .normal => rdv env h
 | .ret => rdv env h
 | _ => none
def nm0 : Nm := ⟨0, fun _ => true⟩
def fnS (P : Program) (G : Nat -> Bool) (T : jF) (IT : List (FuncId × zBB)) (CI : CIT) (an : An) (as rs : List Ty) (fn : Func) (x : TyL as) : Option (TyL rs) := match fn.body with
 | some c => (ev (Γ := none) P G T IT CI yi0 an (rdR P ⟨0, []⟩ fn.resultTypes.toList rs fn.results.toList) (enR fn.ntmps fn.results.toList rs) ⟨0, []⟩ c false nm0 () (svL as x ++ List.replicate (fn.ntmps - as.length) .unk) ⟨0, []⟩ (q9Y (rdR P ⟨0, []⟩ fn.resultTypes.toList rs fn.results.toList))).run
 | none => none
def qQ9 (as rs : List Ty) (fn : Func) : Bool := match fn.body with
 | some _ => qN4 (fn.results.toList.map qWW) && (Nat.beq fn.results.toList.length rs.length && (Nat.ble as.length fn.ntmps && (fn.results.toList.map qWW).all fun i => Nat.blt i fn.ntmps))
 | none => false
omit [Yl] in
theorem Runs.zG6 {rd : Bool} {c : Code} {env : List PV} {ph : PHp} {Q : PQ} (h : Runs P G rd nm c env ph fun e pe p => ∃ pe' p', Wk P nm pe p pe' p' ∧ Q e pe' p') : Runs P G rd nm c env ph Q := by
 intro Z H m zAO hp hb he;refine (h Z H m zAO hp hb he).mono ?_;rintro o ⟨Z', m', env', ph', a, b, c, d, pe', p', hw, e⟩;obtain ⟨Z1, m1, a1, a2, a3, a4⟩ := hw Z' o.H m' o.env a b;exact ⟨Z1, m1, pe', p', a1, a2, c.trans a3, d.trans a4, e⟩
theorem q9M : YOk P G (Γ := GV none) q8F yi0 := fun g y g' b h => by cases h
theorem q5X [zBD P G] {nat : y8} {T : jF} {IT : List (FuncId × zBB)} {CI : CIT} {an : An} {as rs : List Ty} {g : FuncId} {fn : Func} (s : zBH P good nat G tab) (ht : qRH tab T) (hit : q3C P G IT) (hci : q1C P G CI) (hfn : P.funcs[g]? = some fn) (hc : qQ9 as rs fn = true) :
 q9V P G g nm0 (enL as) (fnS P G T IT CI an as rs fn) (vC rs) := by
 unfold qQ9 at hc;split at hc
 case h_2 => cases hc
 rename_i c hbody;simp only [zKI] at hc;obtain ⟨c1, c2, c3, c4⟩ := hc;refine ⟨fn, c, hfn, hbody, fun x y hF => ⟨fn.ntmps, rfl, ?_⟩⟩;unfold fnS at hF;rw [hbody] at hF;have hF : (ev (Γ := none) P G T IT CI yi0 an (rdR P ⟨0, []⟩ fn.resultTypes.toList rs fn.results.toList) (enR fn.ntmps fn.results.toList rs) ⟨0, []⟩ c false nm0 () (svL as x ++ List.replicate (fn.ntmps - as.length) .unk) ⟨0, []⟩ (q9Y (rdR P ⟨0, []⟩ fn.resultTypes.toList rs fn.results.toList))).run = some y := hF;have hal : as.length <= fn.ntmps := zKS c3
 have hlen : (svL as x ++ List.replicate (fn.ntmps - as.length) SV.unk).length = fn.ntmps := by
  rw [zK6, qE0, zM3]; omega
 have hrd : ∀ nm, zDK P nm fn.ntmps ⟨0, []⟩ (rdR P ⟨0, []⟩ fn.resultTypes.toList rs fn.results.toList) (enR fn.ntmps fn.results.toList rs) := fun nm => qSW qB7
 have zAW : (enL as).p x ++ List.replicate (fn.ntmps - ((enL as).p x).length) PV.unk = qB (svL as x ++ List.replicate (fn.ntmps - as.length) .unk) := by
  have : (enL as).p x = qB (svL as x) := (qB2 as x).symm;rw [oD, qA0, this, qW, qE0]
 rw [zAW];have hrun := qQ.runs (q2Q (Γ := none) (wd := q8F) s ht hit hci q9M hrd c qB7 (aW (qBE as x) (fI _ _)) hlen (.refl _) hF);refine Runs.zG6 (hrun.mono ?_);rintro e pe ph ⟨env', h', rfl, rfl, k1, k2, k3, k0, k4, k5⟩
 obtain ⟨he, hr⟩ : (e = .normal ∨ e = .ret) ∧ rdR P ⟨0, []⟩ fn.resultTypes.toList rs fn.results.toList env' h' = some y := by
  cases e with
  | normal => exact ⟨.inl rfl, k5⟩
  | ret => exact ⟨.inr rfl, k5⟩
  | exit _ => cases k5
  | goto _ => cases k5
 obtain ⟨_, _, _, hd, _⟩ := qK7 k2 k1 hr;refine ⟨_, _, (hrd nm0).wk _ _ _ k2 k1 k3 k0 hr, he, vC rs y, ?_, q28 rs y _⟩;unfold fE;have hll : (fn.results.toList.map qWW).length = (svM (fn.results.toList.map qRQ) rs y).length := by rw [qKS, zK2]; exact zKJ c2
 have hl2 : (fn.results.toList.map fun r => (zH (qB (enR fn.ntmps fn.results.toList rs y)) (qWW r)).getD PV.unk) = qB (svM (fn.results.toList.map qRQ) rs y) := by
  apply zLR;intro j;rw [zKX, qY (svM _ rs y), zKX]
  cases hj : fn.results.toList[j]? with
  | none =>
    have : (svM (fn.results.toList.map qRQ) rs y)[j]? = none := by
     rw [zM6] at hj ⊢;rw [zK2] at hll;omega
    rw [this]; rfl
  | some rr =>
    have hg := qPF (l := svM (fn.results.toList.map qRQ) rs y) (base := List.replicate fn.ntmps .unk) c1 hll (fun i hi => by
     have := zKL.1 c4 i hi;rw [zM3]
     exact zKS this) j (qWW rr) (by rw [zKX, hj]; rfl)
    simp only [zKU];rw [zK];unfold enR;rw [hg]
    have hlt : j < (svM (fn.results.toList.map qRQ) rs y).length := by
     rw [<- hll, zK2]; exact (zKN.1 hj).1
    rw [zKM hlt];rfl
 rw [hd.load _ fn.results.toList _ rfl hl2];show some (qCX (rtL (rt1 P) fn.resultTypes.toList (pvL rs y))) = some (vC rs y);rw [hd.rt];rfl
end
end Go.Sv
namespace Go.Sv
open Go.Idl
variable {P : Program}
def q9Z (s : ByteArray) (c : Int) : Int := s.foldl (fun n x => if x == c.toNat.toUInt8 then n + 1 else n) ((0 : Nat) : Int)
def q6Q (s : ByteArray) (c : Int) : Int := match (List.range s.size).find? (fun i => s[i]! == c.toNat.toUInt8) with
 | some i => (i : Int)
 | none => -1
def q0M (x y c : Int) : Int := Int.ofNat ((x.toNat + y.toNat + c.toNat) % 18446744073709551616)
def q1I (x y c : Int) : Int := Int.ofNat ((x.toNat + y.toNat + c.toNat) / 18446744073709551616)
def qTX (x y c : Int) : Int := Int.ofNat ((x.toNat + 18446744073709551616 - y.toNat - c.toNat) % 18446744073709551616)
def qS4 (x y c : Int) : Int := Int.ofNat (cond (Nat.blt x.toNat (y.toNat + c.toNat)) 1 0)
def q9L (fn : Func) : Nat := cond (fn.body.isNone && fn.origin == "") (cond (fn.name == "internal/bytealg.CountString") 1 (cond (fn.name == "internal/bytealg.IndexByteString") 2 (cond (fn.name == "math/bits.Add64") 3 (cond (fn.name == "math/bits.Sub64") 4 0)))) 0
def q2B (P : Program) (g : FuncId) : Nat := match P.funcs[g]? with
 | some fn => q9L fn
 | none => 0
theorem qEK {P : Program} {g : FuncId} {n : Nat} (h : q2B P g = n + 1) : ∃ fn, P.funcs[g]? = some fn ∧ fn.body = none ∧ fn.origin = "" ∧ qKZ P g = true ∧ ((n = 0 ∧ fn.name = "internal/bytealg.CountString") ∨ (n = 1 ∧ fn.name = "internal/bytealg.IndexByteString") ∨ (n = 2 ∧ fn.name = "math/bits.Add64") ∨ (n = 3 ∧ fn.name = "math/bits.Sub64")) := by
 unfold q2B at h;split at h
 case h_2 => cases h
 rename_i fn hfn;unfold q9L at h
 cases hc : (fn.body.isNone && fn.origin == "") with
 | false => rw [hc] at h; cases h
 | true =>
   rw [hc] at h;simp only [cond_true] at h;rw [zKI] at hc
   have ho : fn.origin = "" := by simpa using hc.2
   have hb : fn.body = none := by simpa using hc.1
   have hx : ∀ s, fn.name = s -> (s == "internal/abi.NoEscape") = false -> qKZ P g = true := fun s hs h0 => by
    unfold qKZ;rw [hfn];simp only;rw [hc.1, hs, h0]; rfl
   refine ⟨fn, hfn, hb, ho, ?_⟩
   cases h1 : (fn.name == "internal/bytealg.CountString") with
   | true =>
     rw [h1] at h
     have h1 : fn.name = "internal/bytealg.CountString" := by simpa using h1
     have h : 1 = n + 1 := h;exact ⟨hx _ h1 (by decide), .inl ⟨by omega, h1⟩⟩
   | false =>
     rw [h1] at h
     cases h2 : (fn.name == "internal/bytealg.IndexByteString") with
     | true =>
       rw [h2] at h
       have h2 : fn.name = "internal/bytealg.IndexByteString" := by simpa using h2
       have h : 2 = n + 1 := h;exact ⟨hx _ h2 (by decide), .inr (.inl ⟨by omega, h2⟩)⟩
     | false =>
       rw [h2] at h
       cases h3 : (fn.name == "math/bits.Add64") with
       | true =>
         rw [h3] at h
         have h3 : fn.name = "math/bits.Add64" := by simpa using h3
         have h : 3 = n + 1 := h;exact ⟨hx _ h3 (by decide), .inr (.inr (.inl ⟨by omega, h3⟩))⟩
       | false =>
         rw [h3] at h
         cases h4 : (fn.name == "math/bits.Sub64") with
         | true =>
           rw [h4] at h
           have h4 : fn.name = "math/bits.Sub64" := by simpa using h4
           have h : 4 = n + 1 := h;exact ⟨hx _ h4 (by decide), .inr (.inr (.inr ⟨by omega, h4⟩))⟩
         | false => rw [h4] at h; cases h
theorem dX {α β : Type} (s : Sem α) (g : α -> Sem β) : zX P (s >>= g) = (zX P s).bind fun a => zX P (g a) := kN g s
theorem q86 : zX P program = some P := rfl
theorem q80 {q : Mark} : zX P (mark q) = some () := rfl
theorem sF {g : FuncId} {fn : Func} {e : Array Value -> Sem Value} {vs : Array Value} {v : Value} (hfn : P.funcs[g]? = some fn) (hb : fn.body = none) (hn : (fn.name == "runtime.NumGoroutine") = false) (h1 : Extern.findNext fn = none) (h2 : Extern.find fn = some e) (h3 : zX P (e vs) = some v) :
 zX P (callFunc g vs) = some (.value v) := by
 unfold callFunc;rw [dX, q86, zK0, hfn];simp only [hn, zL9, if_false, hb, Option.isNone_none, if_true, h1, h2];rw [dX, q80, zK0];show zX P (do pure (Next.value (<- e vs))) = _;rw [dX, h3];rfl
theorem qRJ {fn : Func} (h : fn.name = "internal/bytealg.CountString") (ho : fn.origin = "") : Extern.findNext fn = none ∧ Extern.find fn = some Extern.BytealgCount.count := by
 unfold Extern.findNext Extern.find;simp only [h, ho];exact ⟨by kernel_rfl, by kernel_rfl⟩
theorem find_index {fn : Func} (h : fn.name = "internal/bytealg.IndexByteString") (ho : fn.origin = "") : Extern.findNext fn = none ∧ Extern.find fn = some Extern.BytealgIndexByte.indexByte := by
 unfold Extern.findNext Extern.find;simp only [h, ho];exact ⟨by kernel_rfl, by kernel_rfl⟩
theorem qT7 {g : FuncId} {s : ByteArray} {c : Int} (h : q2B P g = 1) : qKZ P g = true ∧ zX P (callFunc g #[.string s, .int .u8 c]) = some (.value (.int .i64 (q9Z s c))) := by
 obtain ⟨fn, h1, h2, h3, h4, h5⟩ := qEK (n := 0) h
 rcases h5 with ⟨_, h5⟩ | ⟨h6, _⟩ | ⟨h6, _⟩ | ⟨h6, _⟩
 ·obtain ⟨a, b⟩ := qRJ h5 h3;refine ⟨h4, sF h1 h2 (by rw [h5]; decide) a b ?_⟩;show zX P (do let b <- Extern.Bytes.bytesOf (.string s); let c <- Extern.Bytes.asByte (.int .u8 c); pure (goInt (b.foldl (fun n x => if x == c then n + 1 else n) (0 : Nat)))) = _;rw [dX, show zX P (Extern.Bytes.bytesOf (.string s)) = some s from rfl, zK0, dX, show zX P (Extern.Bytes.asByte (.int .u8 c)) = some c.toNat.toUInt8 from rfl, zK0];rfl
 all_goals cases h6
theorem qU7 {g : FuncId} {s : ByteArray} {c : Int} (h : q2B P g = 2) : qKZ P g = true ∧ zX P (callFunc g #[.string s, .int .u8 c]) = some (.value (.int .i64 (q6Q s c))) := by
 obtain ⟨fn, h1, h2, h3, h4, h5⟩ := qEK (n := 1) h
 rcases h5 with ⟨h6, _⟩ | ⟨_, h5⟩ | ⟨h6, _⟩ | ⟨h6, _⟩
 ·cases h6
 rotate_left
 ·cases h6
 ·cases h6
 ·obtain ⟨a, b⟩ := find_index h5 h3;refine ⟨h4, sF h1 h2 (by rw [h5]; decide) a b ?_⟩
  show zX P (match (List.range s.size).find? (fun i => s[i]! == c.toNat.toUInt8) with
   | some i => pure (goInt i)
   | none => pure (goInt (-1))) = _
  unfold q6Q;cases (List.range s.size).find? (fun i => s[i]! == c.toNat.toUInt8) <;> rfl
def q9U : Array Value -> Sem Value := fun args => do
 let (x, y, c) <- Extern.MathBitsCarry.three "Add64" args
 pure (Extern.MathBitsCarry.pair ((x + y + c) % Extern.MathBitsCarry.m64) ((x + y + c) / Extern.MathBitsCarry.m64))
def q92 : Array Value -> Sem Value := fun args => do
 let (x, y, b) <- Extern.MathBitsCarry.three "Sub64" args
 pure (Extern.MathBitsCarry.pair ((x + Extern.MathBitsCarry.m64 - y - b) % Extern.MathBitsCarry.m64) (if x < y + b then 1 else 0))
theorem qZD {fn : Func} (h : fn.name = "math/bits.Add64") (ho : fn.origin = "") : Extern.findNext fn = none ∧ Extern.find fn = some q9U := by
 unfold Extern.findNext Extern.find;simp only [h, ho];exact ⟨by kernel_rfl, by kernel_rfl⟩
theorem qW7 {fn : Func} (h : fn.name = "math/bits.Sub64") (ho : fn.origin = "") : Extern.findNext fn = none ∧ Extern.find fn = some q92 := by
 unfold Extern.findNext Extern.find;simp only [h, ho];exact ⟨by kernel_rfl, by kernel_rfl⟩
theorem qNJ {n : String} {x y : Int} : ∀ {c : Int}, Nat.ble c.toNat 1 = true -> zX P (Extern.MathBitsCarry.three n #[.int .u64 x, .int .u64 y, .int .u64 c]) = some (x.toNat, y.toNat, c.toNat)
 | .ofNat 0, _ => rfl
 | .ofNat 1, _ => rfl
 | .ofNat (n + 2), h => by
   have := zKS h;simp at this; omega
 | .negSucc m, _ => rfl
theorem q4N {g : FuncId} {x y c : Int} (h : q2B P g = 3) (hc : Nat.ble c.toNat 1 = true) : qKZ P g = true ∧ zX P (callFunc g #[.int .u64 x, .int .u64 y, .int .u64 c]) = some (.value (.tuple #[.int .u64 (q0M x y c), .int .u64 (q1I x y c)])) := by
 obtain ⟨fn, h1, h2, h3, h4, h5⟩ := qEK (n := 2) h
 rcases h5 with ⟨h6, _⟩ | ⟨h6, _⟩ | ⟨_, h5⟩ | ⟨h6, _⟩
 ·cases h6
 ·cases h6
 ·obtain ⟨a, b⟩ := qZD h5 h3;refine ⟨h4, sF h1 h2 (by rw [h5]; decide) a b ?_⟩;unfold q9U;rw [dX, qNJ hc];rfl
 ·cases h6
theorem q4Q {g : FuncId} {x y c : Int} (h : q2B P g = 4) (hc : Nat.ble c.toNat 1 = true) : qKZ P g = true ∧ zX P (callFunc g #[.int .u64 x, .int .u64 y, .int .u64 c]) = some (.value (.tuple #[.int .u64 (qTX x y c), .int .u64 (qS4 x y c)])) := by
 obtain ⟨fn, h1, h2, h3, h4, h5⟩ := qEK (n := 3) h
 rcases h5 with ⟨h6, _⟩ | ⟨h6, _⟩ | ⟨h6, _⟩ | ⟨_, h5⟩
 ·cases h6
 ·cases h6
 ·cases h6
 ·obtain ⟨a, b⟩ := qW7 h5 h3;refine ⟨h4, sF h1 h2 (by rw [h5]; decide) a b ?_⟩;unfold q92;rw [dX, qNJ hc];simp only [zK0];show some (Extern.MathBitsCarry.pair ((x.toNat + 18446744073709551616 - y.toNat - c.toNat) % 18446744073709551616) (if x.toNat < y.toNat + c.toNat then 1 else 0)) = _;unfold qTX qS4 Extern.MathBitsCarry.pair;by_cases hlt : x.toNat < y.toNat + c.toNat
  ·rw [if_pos hlt, show Nat.blt x.toNat (y.toNat + c.toNat) = true from zK4 hlt]; rfl
  ·rw [if_neg hlt, show Nat.blt x.toNat (y.toNat + c.toNat) = false from zN2.2 fun h => hlt (zKS h)]; rfl
noncomputable section
variable [Gc]
class Hnd where
 ci : CIT
class zBZ (P : Program) (G : Nat -> Bool) [Hnd] : Prop where
 ok : ∀ [Yl], q1C P G Hnd.ci
instance (priority := low) zFX : Hnd := ⟨fun _ _ _ _ _ _ => .fail⟩
instance (priority := low) hndOk0 {G : Nat -> Bool} : @zBZ _ P G zFX := by
 letI : Hnd := zFX
 refine ⟨fun {_} => ?_⟩;intro R nm f as h K r ho ha e;cases e
variable [Yl] {R : Type} {r : R} {G : Nat -> Bool}
def q8G (P : Program) (f : FuncId) (as : List SV) (h : SH) (K : SV -> SH -> zAN R) (F : zAN R) : zAN R := match q2B P f, as with
 | 1, [x, y] => (match asS x, asI y with
   | some s, some (.u8, c) => K (.d (.int .i64) (q9Z s c)) h
   | _, _ => .fail)
 | 2, [x, y] => (match asS x, asI y with
   | some s, some (.u8, c) => K (.d (.int .i64) (q6Q s c)) h
   | _, _ => .fail)
 | 3, [x, y, z] => (match asI x, asI y, asI z with
   | some (.u64, a), some (.u64, b), some (.u64, c) => .ite (Nat.ble c.toNat 1) (K (.tup [.d (.int .u64) (q0M a b c), .d (.int .u64) (q1I a b c)]) h) .fail
   | _, _, _ => .fail)
 | 4, [x, y, z] => (match asI x, asI y, asI z with
   | some (.u64, a), some (.u64, b), some (.u64, c) => .ite (Nat.ble c.toNat 1) (K (.tup [.d (.int .u64) (qTX a b c), .d (.int .u64) (qS4 a b c)]) h) .fail
   | _, _, _ => .fail)
 | _, _ => F
end
end Go.Sv
namespace Go.Sv
open Go.Idl
noncomputable section
variable [Gc]
variable [Frs]
variable [Yl]
variable {P : Program} {G : Nat -> Bool} {nm : Nm} {tab : uL} {nat : y8} {good : FuncId -> Bool} {T : jF} {IT : List (FuncId × zBB)}
omit [Yl] in
theorem qXZ {g : FuncId} {fn : Func} {c : Code} {N : Nat} {args : List PV} {ph : PHp} {R : PV -> PHp -> Prop} (hent : enters P g = true) (hfn : P.funcs[g]? = some fn) (hb : fn.body = some c) (hN : fn.ntmps = N)
 (h : Runs P G false nm c (args ++ List.replicate (N - args.length) .unk) ph fun e pe p => (e = .normal ∨ e = .ret) ∧ ∃ v, fE P fn pe p = some v ∧ R v p) :
 qCP P G nm g args ph R := by
 refine .inr ⟨hent, fun Z H m zA1 hp hbs hv => ?_⟩;refine uS.of hfn hb hN ?_
 have zAW : VRL P Z H (own m ph) (args ++ List.replicate (N - args.length) .unk) (zA1 ++ List.replicate (N - zA1.length) undef) := by
  rw [hv.len];refine VRL.append hv ⟨by simp, fun i z v h1 h2 => ?_⟩;rw [zNH] at h1;split at h1
  ·cases h1; exact .unk
  ·cases h1
 refine (h Z H m _ hp hbs zAW).mono ?_;rintro o ⟨Z', m', env', ph', a1, b1, c1, d1, he, v, hr, hR⟩;refine ⟨he, ?_⟩;obtain ⟨u, v1, v2⟩ := qAD a1 b1 hr;exact ⟨u, v1, Z', m', v, ph', a1, v2, c1, d1, hR⟩
def rtS (P : Program) (ty : TypeId) : SV -> Option SV
 | .d t x => cond (t.one && t.nol) (some (.d t x)) none
 | .c (.slice none 0 0) => match zW P ty with
   | some el => (match qDY P 8 el with
     | some t => some (.d (.list el t) [])
     | none => none)
   | none => none
 | .c (.int k x) => some (.c (.int k x))
 | .c .nilIface => some (.c .nilIface)
 | .c (.bool b) => some (.c (.bool b))
 | .c (.string b) => some (.c (.string b))
 | .own k g n => some (.own k g n)
 | .sl k g n o m => some (.sl k g n o m)
 | .ref k o w => some (.ref k o w)
 | .elt k g n w j o => some (.elt k g n w j o)
 | .lp t xs j o => some (.lp t xs j o)
 | .fn f a b => some (.fn f a b)
 | _ => none
def q77 (P : Program) : List TypeId -> List SV -> Option (List SV)
 | ty :: tys, v :: l => (match cond (Gc.ol ty) (some v) (rtS P ty v), q77 P tys l with
   | some x, some y => some (x :: y)
   | _, _ => none)
 | [], l => some l
 | _ :: _, [] => some []
def q8L (P : Program) (ty : TypeId) : SV -> Option SV
 | .agg l => (match q77 P (vH P 8 ty) l with
   | some l' => some (.agg l')
   | none => none)
 | v => rtS P ty v
theorem qPP {ty : TypeId} {v v' : SV} (e : rtS P ty v = some v') : (rt1 P ty v.enc = v'.enc ∧ rt0 P ty v.enc = v'.enc) ∧ ∀ h, v.ok h -> v'.ok h := by
 unfold rtS at e;split at e
 ·rename_i t x
  cases ht : (t.one && t.nol) with
  | true =>
    rw [ht] at e;cases e
    refine ⟨⟨?_, ?_⟩, fun h hv => hv⟩ <;>
    ·simp only [SV.enc];exact tZ ht
  | false => rw [ht] at e; cases e
 ·split at e
  ·rename_i el hel;split at e
   ·rename_i t ht;cases e
    refine ⟨⟨?_, ?_⟩, fun h _ => by simp [SV.ok]⟩ <;>
    ·simp only [SV.enc, fvv]
     show (match zW P ty with
      | some el => PV.f (.l el 0 [])
      | none => fvv (.slice none 0 0)) = _
     rw [hel];rfl
   ·cases e
  ·cases e
 all_goals first
  | (cases e; exact ⟨⟨by simp only [SV.enc]; rfl, by simp only [SV.enc]; rfl⟩, fun h hv => hv⟩)
  | cases e
theorem qUH : ∀ {tys : List TypeId} {l l' : List SV}, q77 P tys l = some l' -> rtL (rtC P) tys (qB l) = qB l' ∧ ∀ h, okL h l -> okL h l'
 | [], l, l', e => by
   have e : some l = some l' := by cases l <;> exact e
   cases e;exact ⟨by cases qB l <;> rfl, fun _ h => h⟩
 | ty :: tys, [], l', e => by
   cases e;exact ⟨by simp [qB, rtL], fun _ h => h⟩
 | ty :: tys, v :: l, l', e => by
   unfold q77 at e;split at e
   ·rename_i x y hx hy;cases e;obtain ⟨b1, b2⟩ := qUH hy
    have hv : rtC P ty v.enc = x.enc ∧ ∀ h, v.ok h -> x.ok h := by
     unfold rtC
     cases hc : Gc.ol ty with
     | true => rw [hc] at hx; cases hx; exact ⟨rfl, fun _ h => h⟩
     | false => rw [hc] at hx; exact ⟨(qPP hx).1.2, (qPP hx).2⟩
    refine ⟨?_, fun h hl => ?_⟩
    ·simp only [qB, rtL, hv.1, b1]
    ·simp only [okL] at hl ⊢;exact ⟨hv.2 h hl.1, b2 h hl.2⟩
   ·cases e
theorem q14 {ty : TypeId} {v v' : SV} (e : q8L P ty v = some v') : rt1 P ty v.enc = v'.enc ∧ ∀ h, v.ok h -> v'.ok h := by
 unfold q8L at e;split at e
 ·rename_i l;split at e
  ·rename_i l' hl;cases e;obtain ⟨a1, a2⟩ := qUH hl;refine ⟨?_, fun h hv => ?_⟩
   ·simp only [SV.enc];show PV.agg (rtL (rtC P) (vH P 8 ty) (qB l)) = _;rw [a1]
   ·simp only [SV.ok] at hv ⊢;exact a2 h hv
  ·cases e
 ·exact ⟨(qPP e).1.1, (qPP e).2⟩
def q5D (P : Program) : List TypeId -> List SV -> Option (List SV)
 | _, [] => some []
 | ty :: tys, v :: l => (match q8L P ty v, q5D P tys l with
   | some x, some y => some (x :: y)
   | _, _ => none)
 | [], _ :: _ => none
theorem qU1 : ∀ {tys : List TypeId} {l l' : List SV}, q5D P tys l = some l' -> rtL (rt1 P) tys (qB l) = qB l' ∧ ∀ h, okL h l -> okL h l'
 | tys, [], l', e => by
   have : some [] = some l' := by cases tys <;> exact e
   cases this;exact ⟨by cases tys <;> simp [qB, rtL], fun h hl => hl⟩
 | ty :: tys, v :: l, l', e => by
   unfold q5D at e;split at e
   ·rename_i x y hx hy;cases e;obtain ⟨a1, a2⟩ := q14 hx;obtain ⟨b1, b2⟩ := qU1 hy;refine ⟨?_, fun h hl => ?_⟩
    ·simp only [qB, rtL, a1, b1]
    ·simp only [okL] at hl ⊢;exact ⟨a2 h hl.1, b2 h hl.2⟩
   ·cases e
 | [], _ :: _, _, e => by cases e
def qRO : List SV -> SV
 | [v] => v
 | vs => .tup vs
def q8T {R : Type} (P : Program) (zCT : List TypeId) (rl : List Nat) (K : SV -> SH -> zAN R) : uY none R := fun e _ env h => match e with
 | .normal => (match qIM rl env with
   | some vs => (match q5D P zCT vs with
     | some ws => K (qRO ws) h
     | none => .fail)
   | none => .fail)
 | .ret => (match qIM rl env with
   | some vs => (match q5D P zCT vs with
     | some ws => K (qRO ws) h
     | none => .fail)
   | none => .fail)
 | _ => .fail
def q3X : List ResultVar -> Option (List Nat)
 | [] => some []
 | .tmp t :: l => (q3X l).map (t :: ·)
 | .cell _ _ :: _ => none
omit [Yl] in
theorem qHK {env : List PV} {ph : PHp} : ∀ {l : List ResultVar} {rl : List Nat}, q3X l = some rl -> qEX P env ph l = some (rl.map fun t => (zH env t).getD .unk)
 | [], rl, e => by cases e; rfl
 | .tmp t :: l, rl, e => by
   obtain ⟨rl', h1, rfl⟩ := zKR.1 e;simp only [qEX, qZC, qHK h1, zKZ]
 | .cell _ _ :: _, rl, e => by cases e
abbrev Ans := List (FuncId × (An × List Ty))
def ciN [Hnd] (P : Program) (G : Nat -> Bool) (T : jF) (IT : List (FuncId × zBB)) (ans : Ans) : Nat -> CIT
 | 0 => fun R nm f as h K => q8G P f as h K (Hnd.ci R nm f as h K)
 | n + 1 => fun R nm f as h K => match P.funcs[f]?, lkA f ans with
   | some fn, some (an, rs) => (match fn.body, q3X fn.results.toList with
     | some c, some rl => cond (enters P f && Nat.ble as.length fn.ntmps) (ev (Γ := none) P G T IT (ciN P G T IT ans n) yi0 an (rdR P h fn.resultTypes.toList rs fn.results.toList) (enR fn.ntmps fn.results.toList rs) h c false nm () (as ++ List.replicate (fn.ntmps - as.length) .unk) h (q8T P fn.resultTypes.toList rl K)) .fail
     | _, _ => .fail)
   | _, _ => q8G P f as h K (Hnd.ci R nm f as h K)
theorem qSX {R : Type} {nm : Nm} {f : FuncId} {as : List SV} {h : SH} {K : SV -> SH -> zAN R} {F : zAN R} {r : R} (ho : OkH P h) (e : (q8G P f as h K F).run = some r) :
 qCP P G nm f (qB as) (qE h.l) (fun v p => ∃ v' h', v = v'.enc ∧ p = qE h'.l ∧ Post P h h' v' ∧ (K v' h').run = some r) ∨ F.run = some r := by
 have go : ∀ {x y : SV} {s : ByteArray} {c z : Int}, asS x = some s -> asI y = some (.u8, c) -> qKZ P f = true ∧ zX P (callFunc f #[.string s, .int .u8 c]) = some (.value (.int .i64 z)) -> (K (.d (.int .i64) z) h).run = some r ->
  qCP P G nm f (qB [x, y]) (qE h.l) (fun v p => ∃ v' h', v = v'.enc ∧ p = qE h'.l ∧ Post P h h' v' ∧ (K v' h').run = some r) := fun {x y s c z} hs hc hx hk => by
  refine .inl ⟨hx.1, [.string s, .int .u8 c], .int .i64 z, ?_, rfl, hx.2, rfl, _, h, ?_, rfl, ⟨.refl _, ho, ?_⟩, hk⟩
  ·simp only [qB, gW hs, yL hc]; rfl
  ·simp [SV.enc, Ty.fv]; rfl
  ·simp [SV.ok]
 have go3 : ∀ {x y z : SV} {a b c u v : Int}, asI x = some (.u64, a) -> asI y = some (.u64, b) -> asI z = some (.u64, c) -> qKZ P f = true ∧ zX P (callFunc f #[.int .u64 a, .int .u64 b, .int .u64 c]) = some (.value (.tuple #[.int .u64 u, .int .u64 v])) -> (K (.tup [.d (.int .u64) u, .d (.int .u64) v]) h).run = some r ->
  qCP P G nm f (qB [x, y, z]) (qE h.l) (fun v p => ∃ v' h', v = v'.enc ∧ p = qE h'.l ∧ Post P h h' v' ∧ (K v' h').run = some r) := fun {x y z a b c u v} ha hb hc hx hk => by
  refine .inl ⟨hx.1, [.int .u64 a, .int .u64 b, .int .u64 c], .tuple #[.int .u64 u, .int .u64 v], ?_, rfl, hx.2, rfl, _, h, ?_, rfl, ⟨.refl _, ho, ?_⟩, hk⟩
  ·simp only [qB, yL ha, yL hb, yL hc]; rfl
  ·simp [SV.enc, qB, Ty.fv]; rfl
  ·simp [SV.ok, okL]
 unfold q8G at e;split at e
 ·rename_i x y hx;split at e
  ·rename_i s c hs hc;exact .inl (go hs hc (qT7 hx) e)
  ·cases e
 ·rename_i x y hx;split at e
  ·rename_i s c hs hc;exact .inl (go hs hc (qU7 hx) e)
  ·cases e
 ·rename_i x y z hx;split at e
  ·rename_i a b c ha hb hc
   rcases run_ite e with ⟨q, e1⟩ | ⟨_, e1⟩
   ·exact .inl (go3 ha hb hc (q4N hx q) e1)
   ·cases e1
  ·cases e
 ·rename_i x y z hx;split at e
  ·rename_i a b c ha hb hc
   rcases run_ite e with ⟨q, e1⟩ | ⟨_, e1⟩
   ·exact .inl (go3 ha hb hc (q4Q hx q) e1)
   ·cases e1
  ·cases e
 ·exact .inr e
theorem qNS {env : List SV} : ∀ {rl : List Nat} {vs : List SV}, qIM rl env = some vs -> (rl.map fun t => (zH (qB env) t).getD PV.unk) = qB vs
 | [], vs, e => by cases e; simp [qB]
 | i :: is, vs, e => by
   unfold qIM at e;split at e
   ·rename_i v l hx hl;cases e;rw [zKZ, qNS hl, zK, hx];simp [qB]
   ·cases e
theorem qY4 (l : List SV) : (qRO l).enc = qCX (qB l) := by
 match l with
 | [] => simp [qRO, qCX, SV.enc, qB]
 | [v] => simp [qRO, qCX, qB]
 | a :: b :: l => simp [qRO, qCX, SV.enc, qB]
omit [Yl] in
theorem q36 {h : SH} {l : List SV} (hl : okL h l) : (qRO l).ok h := by
 match l, hl with
 | [], hl => simp [qRO, SV.ok, okL]
 | [v], hl => simp only [okL] at hl; exact hl.1
 | a :: b :: l, hl => simp only [qRO, SV.ok]; exact hl
theorem qIB [Hnd] [zBZ P G] [zBD P G] (s : zBH P good nat G tab) (ht : qRH tab T) (hit : q3C P G IT) (ans : Ans) : ∀ n, q1C P G (ciN P G T IT ans n)
 | 0 => by
   intro nm f as h K r ho ha e;unfold ciN at e;rcases qSX (nm := nm) ho e with h1 | h1
   ·exact h1
   ·exact zBZ.ok (P := P) (G := G) nm f as h K r ho ha h1
 | n + 1 => by
   intro nm f as h K r ho ha e;unfold ciN at e;split at e
   case h_2 =>
    rcases qSX (nm := nm) ho e with h1 | h1
    ·exact h1
    ·exact zBZ.ok (P := P) (G := G) nm f as h K r ho ha h1
   rename_i fn an rs hfn hans;split at e
   case h_2 => cases e
   rename_i c rl hbody hrl;obtain ⟨hc, e⟩ := qG e;rw [zKI] at hc;have hal : as.length <= fn.ntmps := zKS hc.2
   have hlen : (as ++ List.replicate (fn.ntmps - as.length) SV.unk).length = fn.ntmps := by
    rw [zK6, zM3]; omega
   refine qXZ hc.1 hfn hbody rfl ?_
   have zAW : qB as ++ List.replicate (fn.ntmps - (qB as).length) PV.unk = qB (as ++ List.replicate (fn.ntmps - as.length) .unk) := by
    rw [oD, qA0, qW]
   rw [zAW];refine (qQ.runs (q2Q (Γ := none) (wd := q8F) s ht hit (qIB s ht hit ans n) q9M (fun nm => qSW ho) c ho (aW ha (fI _ _)) hlen (.refl _) e)).mono ?_;rintro ex pe ph ⟨env', h', rfl, rfl, k1, k2, k3, k0, k4, k5⟩
   have key : ∀ {vs ws : List SV}, qIM rl env' = some vs -> q5D P fn.resultTypes.toList vs = some ws -> (K (qRO ws) h').run = some r -> ∃ v, fE P fn (qB env') (qE h'.l) = some v ∧ ∃ v' h2, v = v'.enc ∧ qE h'.l = qE h2.l ∧ Post P h h2 v' ∧ (K v' h2).run = some r := fun {vs ws} hvs hws hk => by
    obtain ⟨a1, a2⟩ := qU1 hws;refine ⟨(qRO ws).enc, ?_, qRO ws, h', rfl, rfl, ⟨k0, k2, q36 (a2 _ (yC.2 fun z hz => yC.1 k1 z (qFN hvs z hz)))⟩, hk⟩;unfold fE;rw [qHK hrl, qNS hvs, qY4, <- a1];rfl
   cases ex with
   | normal =>
     simp only [q8T] at k5;split at k5
     ·split at k5
      ·exact ⟨.inl rfl, key ‹_› ‹_› k5⟩
      ·cases k5
     ·cases k5
   | ret =>
     simp only [q8T] at k5;split at k5
     ·split at k5
      ·exact ⟨.inr rfl, key ‹_› ‹_› k5⟩
      ·cases k5
     ·cases k5
   | exit _ => cases k5
   | goto _ => cases k5
def zAA {γ : Type} : uY (some γ) γ := fun e g _ _ => match e with
 | .normal => some g
 | .ret => some g
 | _ => none
def fnI (P : Program) (G : Nat -> Bool) (T : jF) (IT : List (FuncId × zBB)) (CI : CIT) (an : An) (as ys : List Ty) (yt : List TypeId) (fn : Func) (x : TyL as) (γ : Type) (stp : γ -> TyL ys -> Option (γ × Bool)) (g0 : γ) : Option γ := match fn.body with
 | some c => (ev (Γ := some γ) (rs := []) P G T IT CI ⟨ys, yt, stp⟩ an (rdR P ⟨0, []⟩ [] [] []) (enR fn.ntmps [] []) ⟨0, []⟩ c false nm0 g0 (.yv :: (qK5 as x ++ List.replicate (fn.ntmps - (as.length + 1)) .unk)) ⟨0, []⟩ zAA).run
 | none => none
end
noncomputable section
variable [Gc]
variable [Frs]
variable {P : Program} {G : Nat -> Bool} {nm : Nm} {tab : uL} {nat : y8} {good : FuncId -> Bool} {T : jF} {IT : List (FuncId × zBB)}
theorem q4U [zBD P G] (s : zBH P good nat G tab) (ht : ∀ [Yl], qRH tab T) (hit : ∀ [Yl], q3C P G IT) {CI : [Yl] -> CIT} (hci : ∀ [Yl], q1C P G CI) {an : An} {as ys : List Ty} {yt : List TypeId} {f : FuncId} {fn : Func} {F : TyL as -> (γ : Type) -> (γ -> TyL ys -> Option (γ × Bool)) -> γ -> Option γ}
 (hent : entered P f = true) (hfn : P.funcs[f]? = some fn) (hc : (Nat.ble (as.length + 1) fn.ntmps && fn.results.toList.isEmpty) = true) (hF : ∀ (y : Yl) x γ stp g0, @fnI _ _ y P G T IT CI an as ys yt fn x γ stp g0 = F x γ stp g0) [Yl] : q0O P G f ⟨as, ys, yt, F⟩ := by
 refine ⟨hent, fun x γ stp g0 g1 hx w l hst Z H D us hz hb hgl hW hv => ?_⟩
 letI : Yl := ⟨l⟩
 have hx : F x γ stp g0 = some g1 := hx;rw [<- hF ⟨l⟩] at hx;unfold fnI at hx;split at hx
 case h_2 => cases hx
 rename_i c hbody;rw [zKI] at hc;have hal := zKS hc.1;have hres : fn.results = #[] := by simpa using hc.2
 have hlen : (SV.yv :: (qK5 as x ++ List.replicate (fn.ntmps - (as.length + 1)) SV.unk)).length = fn.ntmps := by
  rw [zK1, zK6, qFL, zM3]; omega
 have hok : okL ⟨0, []⟩ (SV.yv :: (qK5 as x ++ List.replicate (fn.ntmps - (as.length + 1)) SV.unk)) := by
  simp only [okL];exact ⟨by simp [SV.ok], aW (qVN as x) (fI _ _)⟩
 have hy : YOk P G (Γ := GV (some γ)) w ⟨ys, yt, stp⟩ := fun g y g' b h => hst g y g' b h
 have hrun := q2Q (Γ := some γ) (wd := w) s ht hit hci hy (fun nm => qSW qB7) c qB7 hok hlen (.refl _) hx;refine uS.of hfn hbody rfl ?_;have e0 : own (fun _ => 0) [] = fun _ => none := rfl
 have hp0 : Hp P Z H (own (fun _ => 0) []) := ⟨hz, fun k b ob hk => (by cases hk), fun k k' b b' ob ob' hk => (by cases hk), hgl⟩
 have zAW : VRL P Z H (own (fun _ => 0) []) (qB (SV.yv :: (qK5 as x ++ List.replicate (fn.ntmps - (as.length + 1)) SV.unk))) ((.func (.yield l) #[] #[] :: us) ++ List.replicate (fn.ntmps - (Value.func (.yield l) #[] #[] :: us).length) undef) := by
  simp only [qB, oD, qG5, qA0, zMG];refine .cons .yl ?_;have hul : us.length = as.length := by rw [<- hv.len, <- qG5, qW, qFL]
  rw [zK1, hul];refine VRL.append hv ⟨by simp, fun i z v h1 h2 => ?_⟩;rw [zNH] at h1;split at h1
  ·cases h1; exact .unk
  ·cases h1
 refine (hrun Z H (fun _ => 0) _ D ⟨hp0, zAW, hW, fun b _ => qCZ b⟩ hb).mono ?_;rintro o ⟨Z', m', pe, ph, g', D', st, sd, kr, env', h', rfl, rfl, k1, k2, k3, k0, k4, k5⟩
 obtain ⟨he, hg⟩ : (o.e = .normal ∨ o.e = .ret) ∧ g' = g1 := by
  cases hoe : o.e with
  | normal => rw [hoe] at k5; exact ⟨.inl rfl, zLK k5⟩
  | ret => rw [hoe] at k5; exact ⟨.inr rfl, zLK k5⟩
  | exit _ => rw [hoe] at k5; cases k5
  | goto _ => rw [hoe] at k5; cases k5
 subst hg;refine ⟨he, .tuple #[], by unfold jP; rw [hres]; rfl, Z', D', st.hp.zlt, st.wd, ⟨sd.size, sd.base, sd.zle, fun b h1 h2 h3 => sd.keep b h1 h2 h3, fun b h1 h2 => sd.zBM b h1 h2, fun b h1 _ => absurd h1 (qCZ b), sd.zB5⟩⟩
def Lib (P : Program) (good : FuncId -> Bool) (G : Nat -> Bool) (T : jF) (IT : List (FuncId × zBB)) : Prop := ∃ nat tab, zBH P good nat G tab ∧ (∀ [Yl], qRH tab T) ∧ ∀ [Yl], q3C P G IT
theorem Lib.zB9 (L : Lib P good G T IT) (g : FuncId) (as rs : List Ty) (F : TyL as -> Option (TyL rs)) (hent : enters P g = true)
 (h : ∀ {nat : y8}, Setup P good nat G -> ∀ (x : TyL as) (y : TyL rs) (args : List Value) (H : IH), F x = some y -> (∃ Z : Nat -> Prop, VRL P Z H (fun _ => none) ((enL as).p x) args ∧ ∀ b, Z b -> b < H.size) -> H.base <= H.size -> GlH H -> uS P G g args H fun q => qY6 P (enL as) F (vC rs) x args H q.1 q.2) : Lib P good G ((g, ⟨as, rs, F⟩) :: T) IT := by
 obtain ⟨nat, tab, s, ht, hit⟩ := L
 letI : Yl := ⟨0⟩
 refine ⟨_, _, s.zB9 (enL as) F (vC rs) hent (qLF rs) (h s.s), ?_, hit⟩;intro _ g' ent hg x;have hg : cond (Nat.beq g' g) (some (⟨as, rs, F⟩ : Ent)) (slT g' T) = some ent := hg;unfold q5G
 cases hb : Nat.beq g' g with
 | true =>
   rw [hb] at hg;cases hg;exact qVD (a := enL as) x
 | false =>
   rw [hb] at hg;exact ht g' ent hg x
theorem Lib.add [Hnd] [zBZ P G] [zBD P G] (L : Lib P good G T IT) (g : FuncId) (ans : Ans) (n : Nat) (an : An) (as rs : List Ty) (fn : Func) (F : TyL as -> Option (TyL rs)) (hent : enters P g = true) (hfn : P.funcs[g]? = some fn) (hc : qQ9 as rs fn = true)
 (hF : ∀ (y : Yl) x, @fnS _ _ y P G T IT (ciN P G T IT ans n) an as rs fn x = F x) : Lib P good G ((g, ⟨as, rs, F⟩) :: T) IT := by
 obtain ⟨nat, tab, s, ht, hit⟩ := L
 letI : Yl := ⟨0⟩
 have hF2 : fnS P G T IT (ciN P G T IT ans n) an as rs fn = F := funext fun x => hF ⟨0⟩ x
 have zED := q5X (an := an) (as := as) (rs := rs) s ht hit (qIB s ht hit ans n) hfn hc;rw [hF2] at zED;refine ⟨_, _, s.add (enL as) F (vC rs) hent (qLF rs) zED, ?_, hit⟩;intro _ g' ent hg x;have hg : cond (Nat.beq g' g) (some (⟨as, rs, F⟩ : Ent)) (slT g' T) = some ent := hg;unfold q5G
 cases hb : Nat.beq g' g with
 | true =>
   rw [hb] at hg;cases hg;exact qVD (a := enL as) x
 | false =>
   rw [hb] at hg;exact ht g' ent hg x
theorem Lib.zIM [Hnd] [zBZ P G] [zBD P G] (L : Lib P good G T IT) (f : FuncId) (ans : Ans) (n : Nat) (an : An) (as ys : List Ty) (yt : List TypeId) (fn : Func) (F : TyL as -> (γ : Type) -> (γ -> TyL ys -> Option (γ × Bool)) -> γ -> Option γ) (hent : entered P f = true) (hfn : P.funcs[f]? = some fn) (hc : (Nat.ble (as.length + 1) fn.ntmps && fn.results.toList.isEmpty) = true)
 (hF : ∀ (y : Yl) x γ stp g0, @fnI _ _ y P G T IT (ciN P G T IT ans n) an as ys yt fn x γ stp g0 = F x γ stp g0) : Lib P good G T ((f, ⟨as, ys, yt, F⟩) :: IT) := by
 obtain ⟨nat, tab, s, ht, hit⟩ := L;refine ⟨nat, tab, s, ht, ?_⟩;intro _ f' ent hg;have hg : cond (Nat.beq f' f) (some (⟨as, ys, yt, F⟩ : zBB)) (slI f' IT) = some ent := hg
 cases hb : Nat.beq f' f with
 | true =>
   rw [hb] at hg;cases hg;rw [zKJ hb];exact q4U s ht hit (CI := ciN P G T IT ans n) (qIB s ht hit ans n) hent hfn hc hF
 | false =>
   rw [hb] at hg;exact hit f' ent hg
theorem Lib.zIN [Hnd] [zBZ P G] [zBD P G] (L : Lib P good G T IT) (g : FuncId) (ans : Ans) (an : An) (as rs : List Ty) (fn : Func) (F : TyL as -> Option (TyL rs)) (hent : enters P g = true) (hfn : P.funcs[g]? = some fn) (hc : qQ9 as rs fn = true)
 (hF : (fun (y : Yl) (x : TyL as) => @fnS _ _ y P G T IT (ciN P G T IT ans 3) an as rs fn x) = fun (_ : Yl) x => F x) : Lib P good G ((g, ⟨as, rs, F⟩) :: T) IT := L.add g ans 3 an as rs fn F hent hfn hc fun y x => congrFun (congrFun hF y) x
theorem Lib.zG7 [Hnd] [zBZ P G] [zBD P G] (L : Lib P good G T IT) (f : FuncId) (ans : Ans) (an : An) (as ys : List Ty) (yt : List TypeId) (fn : Func) (F : TyL as -> (γ : Type) -> (γ -> TyL ys -> Option (γ × Bool)) -> γ -> Option γ) (hent : entered P f = true) (hfn : P.funcs[f]? = some fn) (hc : (Nat.ble (as.length + 1) fn.ntmps && fn.results.toList.isEmpty) = true)
 (hF : (fun (y : Yl) (x : TyL as) (γ : Type) (stp : γ -> TyL ys -> Option (γ × Bool)) (g0 : γ) => @fnI _ _ y P G T IT (ciN P G T IT ans 3) an as ys yt fn x γ stp g0) = fun (_ : Yl) x γ stp g0 => F x γ stp g0) : Lib P good G T ((f, ⟨as, ys, yt, F⟩) :: IT) :=
 L.zIM f ans 3 an as ys yt fn F hent hfn hc fun y x γ stp g0 => congrFun (congrFun (congrFun (congrFun (congrFun hF y) x) γ) stp) g0
end
end Go.Sv
namespace Go.Sv
open Go.Idl
variable [Gc] {P : Program} {G : Nat -> Bool} {tab : uL} {nat : y8} {good : FuncId -> Bool}
theorem qVU {k : IntKind} : ∀ {cs : List FV}, cs.all (isK k) = true -> ∃ xs : List Int, cs = List.flatMap (Ty.int k).cells xs ∧ xs.length = cs.length
 | [], _ => ⟨[], rfl, rfl⟩
 | c :: cs, h => by
   rw [zLO, zKI] at h;obtain ⟨xs, h1, h2⟩ := qVU h.2;have hc := h.1;unfold isK at hc;split at hc
   ·rename_i k' x;have : k = k' := of_decide_eq_true hc;subst this;exact ⟨x :: xs, by rw [zLF, <- h1]; rfl, by rw [zK1, zK1, h2]⟩
   ·cases hc
theorem q7D [Frs] (s : zBH P good nat G tab) (h : ∀ g el, Frs.fr g = some el -> enters P g = true ∧ qKZ P g = false ∧ szT P el = some 1 ∧ tab g [.f (.l el 0 [])] = some (.f (.l el 0 [])) ∧
 ∀ (xs : List Int), xs ≠ [] -> Nat.ble xs.length 1048576 = true -> qCP P G nm0 g [.f (.l el xs.length (List.flatMap (Ty.int Frs.fk).cells xs))] [] fun v p => ∃ k0, v = .own k0 xs.length 0 xs.length ∧ qA k0 p = some ⟨el, true, (List.flatMap (Ty.int Frs.fk).cells xs).map .f⟩) : zBD P G := by
 refine ⟨fun g el hg => ?_⟩;obtain ⟨h1, hx, hsz, h2, h3⟩ := h g el hg;refine ⟨h1, fun n cs hfo Z H zA1 hp hb hv => ?_⟩;unfold qW0 at hfo;rw [hsz] at hfo;simp only [zKI] at hfo;obtain ⟨f1, f2, _, f3⟩ := hfo;obtain ⟨xs, rfl, hlen⟩ := qVU f3
 have hn : n = xs.length := by
  have := zKJ f1;omega
 subst hn;by_cases hxs : xs = []
 ·subst hxs;obtain ⟨_, _, k, hk, hc⟩ := s.t g _ _ h2;intro args' f w hR hG ha;refine s.s.spec g k hk zA1 args' H f w _ hR hG ha (hc Z H zA1 hv hp.zlt hb hp.gl _ fun v H' Z' k1 k2 k3 k4 k5 => ?_);have hp2 : Hp P Z' H' (own (fun _ => 0) []) := hp.old k1 k2 k3 k4;exact ⟨Z', fun _ => 0, .f (.l el 0 []), [], hp2, k5, .old k1 k2 k4, .inl ⟨rfl, rfl⟩⟩
 ·rcases h3 xs hxs f2 with ⟨e, _⟩ | ⟨_, hc⟩
  ·rw [hx] at e; cases e
  ·refine (hc Z H (fun _ => 0) zA1 hp hb hv).mono ?_;rintro r ⟨Z', m', pv, ph', a, b, c, d, k0, rfl, e⟩;refine ⟨Z', m', _, ph', a, b, c, .inr ⟨fun h => hxs (List.eq_nil_of_length_eq_zero h), k0, rfl, e⟩⟩
end Go.Sv
