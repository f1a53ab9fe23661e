/- A symbolic run, part two. Conditions: none. -/
import Derived.Test.YtjboddididohgaaGreatDoorSvA
set_option linter.all false
namespace Go.Sv
open Go.Idl
variable {env : List SV} {h : SH} {i s : Nat} {ob : PO} {ph ph' : PHp} {ty : TypeId} {v : SV} {x y : PV}
noncomputable section
variable [Gc]
variable [Yl]
variable {P : Program} {R : Type} {r : R} {G : Nat -> Bool} {nm : Nm} {rd : Bool}
def Wk (P : Program) (nm : Nm) (pe : List PV) (ph : PHp) (pe' : List PV) (ph' : PHp) : Prop :=
 ∀ (Z : Nat -> Prop) (H : IH) (m : Nat -> Nat) (vs : List Value), Hp P Z H (own m ph) -> VRL P Z H (own m ph) pe vs ->
  ∃ Z' m', Hp P Z' H (own m' ph') ∧ VRL P Z' H (own m' ph') pe' vs ∧ Step Z H (own m ph) Z' H (own m' ph') ∧ KR (inP nm) (own m ph) (own m' ph')
omit [Yl] in
theorem Wk.refl (pe : List PV) (ph : PHp) : Wk P nm pe ph pe ph := fun Z H m vs hp hv => ⟨Z, m, hp, hv, .refl _ _ _, .refl _ _⟩
omit [Yl] in
theorem Wk.trans {a b c : List PV} {p q s : PHp} (x : Wk P nm a p b q) (y : Wk P nm b q c s) : Wk P nm a p c s := fun Z H m vs hp hv => by
 obtain ⟨Z1, m1, a1, a2, a3, a4⟩ := x Z H m vs hp hv;obtain ⟨Z2, m2, b1, b2, b3, b4⟩ := y Z1 H m1 vs a1 a2;exact ⟨Z2, m2, b1, b2, a3.trans b3, a4.trans b4⟩
omit [Yl] in
theorem Wk.drop {a b : List PV} {p q : PHp} (hw : WkP a b) (hs : oG q p) : Wk P nm a p b q := fun Z H m vs hp hv => by
 have hf := Fz.drop hp hs;exact ⟨Z, m, hf.hp, hw.rel (hf.vrl hv), hf.step, hf.kr _⟩
omit [Yl] in
theorem qSF : ∀ {l m : List PV}, l.length = m.length -> (∀ i, zF m i = zF l i ∨ zF m i = some .unk) -> WkP l m
 | [], [], _, _ => .nil
 | [], _ :: _, h, _ => by cases h
 | _ :: _, [], h, _ => by cases h
 | x :: l, y :: m, h, hi => by
   have ih := qSF (l := l) (m := m) (by simpa using h) fun i => hi (i + 1)
   rcases hi 0 with q | q
   ·have q : some y = some x := q;cases q;exact .same ih
   ·have q : some y = some PV.unk := q;cases q;exact .any ih
def fzs (P : Program) : List (Nat × TypeId) -> List SV -> SH -> (List SV -> SH -> q97 R) -> q97 R
 | [], env, h, K => K env h
 | (i, ty) :: l, env, h, K => match zF env i, qCU P 8 ty with
   | some v, some t => (match q1T P ty t v h with
     | some (x, h') => fzs P l (y9 env i (t.sv x)) h' K
     | none => .fail)
   | _, _ => .fail
def jR (P : Program) (w : List Nat) (env : List SV) (h : SH) (env' : List SV) (h' : SH) : Prop :=
 okL h' env' ∧ OkH P h' ∧ Keep h h' ∧ (∀ i, i ∉ w -> zF (qB env') i = zF (qB env) i) ∧ env'.length = env.length
theorem jR.trans {w w2 : List Nat} {env zAF zAY : List SV} {h h1 h2 : SH} (a : jR P w env h zAF h1) (b : jR P w2 zAF h1 zAY h2) : jR P (w ++ w2) env h zAY h2 :=
 ⟨b.1, b.2.1, a.2.2.1.trans b.2.2.1, fun i hi => by
   rw [zLE, not_or] at hi
   exact (b.2.2.2.1 i hi.2).trans (a.2.2.2.1 i hi.1), b.2.2.2.2.trans a.2.2.2.2⟩
theorem jR.refl {env : List SV} {h : SH} (ho : OkH P h) (he : okL h env) : jR P [] env h env h := ⟨he, ho, .refl _, fun _ _ => rfl, rfl⟩
theorem jR.up {w w2 : List Nat} {zAF : List SV} {h1 : SH} (a : jR P w env h zAF h1) (hw : ∀ i ∈ w, i ∈ w2) : jR P w2 env h zAF h1 :=
 ⟨a.1, a.2.1, a.2.2.1, fun i hi => a.2.2.2.1 i fun q => hi (hw i q), a.2.2.2.2⟩
theorem pK {j : Nat} (h : i ≠ j) : zF (qB (y9 env i v)) j = zF (qB env) j := by
 rw [kC, zC, qF, qF, zKX, if_neg h]
theorem q6P {h' : SH} (hv : zF env i = some v) (hf : fzP P (qD h.l) v.enc = some (y, qD h'.l)) : Wk P nm (qB env) (qD h.l) (y9 (qB env) i (rt1 P ty y)) (qD h'.l) := by
 intro Z H m vs hp hr
 have hi : (qB env)[i]? = some v.enc := by
  rw [qF] at hv;rw [qZ, zKG, hv]; rfl
 obtain ⟨u, hu, hr2⟩ := hr.get hi;obtain ⟨Z', h1, h2⟩ := qJI hp hr2 hf;exact ⟨Z', m, h1.hp, (h1.vrl hr).slot hu (qDK (bG h2 (qMZ hf))), h1.step, h1.kr _⟩
theorem q05 : ∀ {l : List (Nat × TypeId)} {env : List SV} {h : SH} {K : List SV -> SH -> q97 R}, OkH P h -> okL h env -> (fzs P l env h K).run = some r ->
 ∃ env' h', Wk P nm (qB env) (qD h.l) (qB env') (qD h'.l) ∧ jR P (l.map (·.1)) env h env' h' ∧ (K env' h').run = some r
 | [], env, h, K, ho, he, e => ⟨env, h, .refl _ _, .refl ho he, e⟩
 | (i, ty) :: l, env, h, K, ho, he, e => by
   unfold fzs at e;split at e
   ·rename_i v t hv ht;split at e
    ·rename_i x h' hd;obtain ⟨y, a1, a2, a3, a4, _⟩ := qAV ho (dK he hv) hd;have hw := q6P (nm := nm) (ty := ty) hv a1;have hs : y9 (qB env) i (rt1 P ty y) = qB (y9 env i (t.sv x)) := by rw [kC, nH, a2]
     rw [hs] at hw;obtain ⟨env', h2, b1, b2, b3⟩ := q05 (l := l) a4 (xS (t := i) (v := t.sv x) (qN a3 he) (qIS t x)) e;refine ⟨env', h2, hw.trans b1, ?_, b3⟩
     have h0 : jR P [i] env h (y9 env i (t.sv x)) h' := ⟨xS (qN a3 he) (qIS t x), a4, a3, fun j hj => pK fun q => hj (by rw [q]; exact zM1 j), jI _ _ _⟩
     exact h0.trans b2
    ·cases e
   ·cases e
omit [Yl] in
theorem Wk.zHV {env : List PV} (i k : Nat) (el : TypeId) (hi : zF env i = some (fvv (.slice none 0 0))) (hs : szT P el = some (s + 1)) (hf : fresh nm k env ph = true) : Wk P nm env ph (y9 env i (.own k 0 0 0)) ((k, ⟨el, true, []⟩) :: ph) := by
 intro Z H m q98 hp he;rw [qF] at hi;obtain ⟨v, hv, hr⟩ := he.get hi;have hvn : v = .slice none 0 0 := yN hr rfl;subst hvn;obtain ⟨f1, f2, f3⟩ := q44 nm hf;have hnew : own m ((k, ⟨el, true, []⟩) :: ph) k = some (m k, ⟨el, true, []⟩) := by simp [own, qA]
 have hold : ∀ j, j ≠ k -> own m ((k, ⟨el, true, []⟩) :: ph) j = own m ph j := fun j hj => by
  unfold own; rw [zY hj]
 have hkr : KR (fun j => j == k) (own m ph) (own m ((k, ⟨el, true, []⟩) :: ph)) := fun j b ob hk => by
  by_cases hj : j = k
  ·exact .inr (.inr (by simp [hj]))
  ·rw [hold j hj] at hk; exact .inl ⟨ob, hk, rfl, rfl, rfl⟩
 have mono : ∀ {xs : List PV} {vs : List Value}, VRL P Z H (own m ph) xs vs -> z8 k xs = true -> VRL P Z H (own m ((k, ⟨el, true, []⟩) :: ph)) xs vs := fun h hn => h.mono (fun _ h => h) (zJ3 _) (fun _ _ _ => rfl) hkr fun j hj => by
  have : j = k := by simpa using hj
  subst this; exact hn
 have hp' : Hp P Z H (own m ((k, ⟨el, true, []⟩) :: ph)) := by
  refine ⟨hp.zlt, fun j b ob hk => ?_, fun j j' b b' ob ob' h1 h2 r1 r2 hne => ?_, hp.gl⟩
  ·by_cases hj : j = k
   ·subst hj; rw [hnew] at hk; cases hk; exact .inl ⟨rfl, rfl⟩
   ·rw [hold j hj] at hk
    rcases hp.obj j b ob hk with h | ⟨a1, a2, a3, a4⟩
    ·exact .inl h
    ·exact .inr ⟨a1, a2, a3, a4.mono rfl fun _ a5 => mono a5 (jM f3 (w9 hk).1)⟩
  ·by_cases hj : j = k
   ·subst hj; rw [hnew] at h1; cases h1; exact absurd ⟨rfl, rfl⟩ r1
   ·by_cases hj' : j' = k
    ·subst hj'; rw [hnew] at h2; cases h2; exact absurd ⟨rfl, rfl⟩ r2
    ·rw [hold j hj] at h1; rw [hold j' hj'] at h2;exact hp.inj j j' b b' ob ob' h1 h2 r1 r2 hne
 have hown : VR P Z H (own m ((k, ⟨el, true, []⟩) :: ph)) (.own k 0 0 0) (.slice none 0 0) := .own rfl fun b ob hM => by
  rw [hnew] at hM; cases hM;exact ⟨s + 1, hs, by omega, by simp, fun _ => .inl ⟨rfl, rfl, rfl, rfl, rfl⟩⟩
 have hst : Step Z H (own m ph) Z H (own m ((k, ⟨el, true, []⟩) :: ph)) := ⟨zJ3 _, rfl, fun _ h => h, fun _ _ _ => rfl, fun b h _ => .inl h, fun b ⟨j, ob, h1, h2⟩ _ => by
  by_cases hj : j = k
  ·subst hj; rw [hnew] at h1; cases h1; exact absurd ⟨rfl, rfl⟩ h2
  ·rw [hold j hj] at h1; exact ⟨j, ob, h1, h2⟩⟩
 have hup : KR (inP nm) (own m ph) (own m ((k, ⟨el, true, []⟩) :: ph)) := hkr.up fun j hj => by
  have e : j = k := by simpa using hj
  rw [e]; exact f1
 exact ⟨Z, m, hp', (mono he f2).slot hv hown, hst, hup⟩
omit [Yl] in
theorem Wk.zGL {env : List PV} (kb i k : Nat) (el : TypeId) (hk : qA kb ph = some ob) (hsp : spec P ob.el = false) (hgr : ob.gr = false) (hi : zF ob.cs i = some (fvv (.slice none 0 0))) (hs : szT P el = some (s + 1)) (hf : fresh nm k env ph = true) (hne : k ≠ kb) :
 Wk P nm env ph env ((k, ⟨el, true, []⟩) :: kQ kb ⟨ob.el, false, y9 ob.cs i (.own k 0 0 0)⟩ ph) := by
 intro Z H m q98 hp he;obtain ⟨f1, f2, f3⟩ := q44 nm hf;generalize zHW : (k, (⟨el, true, []⟩ : PO)) :: kQ kb ⟨ob.el, false, y9 ob.cs i (.own k 0 0 0)⟩ ph = ph'
 have hM' : ∀ j, own m ph' j = if j = k then some (m k, ⟨el, true, []⟩) else if j = kb then some (m kb, ⟨ob.el, false, y9 ob.cs i (.own k 0 0 0)⟩) else own m ph j := fun j => by
  subst zHW;unfold own;by_cases h1 : j = k
  ·subst h1; simp [qA]
  ·rw [if_neg h1, zY h1, zB];by_cases h2 : j = kb
   ·subst h2; rw [if_pos ⟨rfl, by rw [hk]; rfl⟩, if_pos rfl]; rfl
   ·rw [if_neg (fun h => h2 h.1), if_neg h2]
 have hnew : own m ph' k = some (m k, ⟨el, true, []⟩) := by rw [hM', if_pos rfl]
 have zBR : own m ph' kb = some (m kb, ⟨ob.el, false, y9 ob.cs i (.own k 0 0 0)⟩) := by rw [hM', if_neg hne.symm, if_pos rfl]
 have hold : ∀ j, j ≠ k -> j ≠ kb -> own m ph' j = own m ph j := fun j h1 h2 => by rw [hM', if_neg h1, if_neg h2]
 have hkM : own m ph kb = some (m kb, ob) := qP hk
 have hkr : KR (fun j => j == k) (own m ph) (own m ph') := fun j b o hj => by
  by_cases h1 : j = k
  ·exact .inr (.inr (by simp [h1]))
  ·by_cases h2 : j = kb
   ·subst h2;rw [zBR] at hj;cases hj;exact .inl ⟨ob, hkM, by simp [zC], rfl, hgr⟩
   ·rw [hold j h1 h2] at hj; exact .inl ⟨o, hj, rfl, rfl, rfl⟩
 have mono : ∀ {xs : List PV} {vs : List Value}, VRL P Z H (own m ph) xs vs -> z8 k xs = true -> VRL P Z H (own m ph') xs vs := fun h hn => h.mono (fun _ h => h) (zJ3 _) (fun _ _ _ => rfl) hkr fun j hj => by
  have : j = k := by simpa using hj
  subst this; exact hn
 have hown : VR P Z H (own m ph') (.own k 0 0 0) (.slice none 0 0) := .own rfl fun b o hM => by
  rw [hnew] at hM; cases hM;exact ⟨s + 1, hs, by omega, by simp, fun _ => .inl ⟨rfl, rfl, rfl, rfl, rfl⟩⟩
 have zA9 : ¬ (ob.gr = true ∧ ob.cs = []) := fun h => by rw [hgr] at h; cases h.1
 have hp' : Hp P Z H (own m ph') := by
  refine ⟨hp.zlt, fun j b o hj => ?_, fun j j' b b' o o' h1 h2 r1 r2 hn => ?_, hp.gl⟩
  ·by_cases h1 : j = k
   ·subst h1; rw [hnew] at hj; cases hj; exact .inl ⟨rfl, rfl⟩
   ·by_cases h2 : j = kb
    ·subst h2;rw [zBR] at hj; cases hj
     rcases hp.obj j _ ob hkM with h | ⟨a1, a2, a3, ⟨_, vs, a4, a5, a6⟩ | ⟨hs2, _⟩⟩
     rotate_right 1
     ·rw [hsp] at hs2; cases hs2
     ·exact absurd h zA9
     ·have hv := mono a5 (jM f3 hk);obtain ⟨v, hv1, hv2⟩ := a5.get (i := i) (by rw [<- qF]; exact hi);have : v = .slice none 0 0 := yN hv2 rfl;subst this;refine .inr ⟨a1, a2, a3, .inl ⟨hsp, vs, ?_, hv.slot hv1 hown, a6⟩⟩;rw [a4, hgr]
    ·rw [hold j h1 h2] at hj
     rcases hp.obj j b o hj with h | ⟨a1, a2, a3, a4⟩
     ·exact .inl h
     ·exact .inr ⟨a1, a2, a3, a4.mono rfl fun _ a5 => mono a5 (jM f3 (w9 hj).1)⟩
  ·have tr : ∀ {j b o}, own m ph' j = some (b, o) -> ¬ (o.gr = true ∧ o.cs = []) -> ∃ o2, own m ph j = some (b, o2) ∧ ¬ (o2.gr = true ∧ o2.cs = []) := fun {j b o} hj hr => by
    by_cases h1 : j = k
    ·subst h1; rw [hnew] at hj; cases hj; exact absurd ⟨rfl, rfl⟩ hr
    ·by_cases h2 : j = kb
     ·subst h2; rw [zBR] at hj; cases hj; exact ⟨ob, hkM, zA9⟩
     ·rw [hold j h1 h2] at hj; exact ⟨o, hj, hr⟩
   obtain ⟨o2, q1, q2⟩ := tr h1 r1;obtain ⟨o3, q3, q4⟩ := tr h2 r2;exact hp.inj j j' b b' o2 o3 q1 q3 q2 q4 hn
 have hst : Step Z H (own m ph) Z H (own m ph') := ⟨zJ3 _, rfl, fun _ h => h, fun _ _ _ => rfl, fun b h _ => .inl h, fun b ⟨j, o, h1, h2⟩ _ => by
  by_cases e1 : j = k
  ·subst e1; rw [hnew] at h1; cases h1; exact absurd ⟨rfl, rfl⟩ h2
  ·by_cases e2 : j = kb
   ·subst e2; rw [zBR] at h1; cases h1; exact ⟨j, ob, hkM, zA9⟩
   ·rw [hold j e1 e2] at h1; exact ⟨j, o, h1, h2⟩⟩
 exact ⟨Z, m, hp', mono he f2, hst, hkr.up fun j hj => by
  have e : j = k := by simpa using hj
  rw [e]; exact f1⟩
def qDM : SV -> Bool
 | .c (.slice none 0 0) => true
 | _ => false
theorem qC1 (e : qDM v = true) : v.enc = fvv (.slice none 0 0) := by
 unfold qDM at e;split at e
 ·simp [SV.enc]
 ·cases e
def qQN (P : Program) (nm : Nm) : List (Nat × TypeId) -> List SV -> SH -> (List SV -> SH -> q97 R) -> q97 R
 | [], env, h, K => K env h
 | (i, el) :: l, env, h, K => match zF env i with
   | some v => cond (qDM v) (match szT P el, qCU P 8 el with
     | some (s + 1), some t => cond (Nat.beq t.w (s + 1) && qC4 nm (nm.b + i) env h) (qQN P nm l (y9 env i (.own (nm.b + i) h.next 0)) (h.new (nm.b + i) fun v => .list el true v v t []) K) .fail
     | _, _ => .fail) (qQN P nm l env h K)
   | none => .fail
theorem rY : ∀ {l : List (Nat × TypeId)} {env : List SV} {h : SH} {K : List SV -> SH -> q97 R}, OkH P h -> okL h env -> (qQN P nm l env h K).run = some r ->
 ∃ env' h', Wk P nm (qB env) (qD h.l) (qB env') (qD h'.l) ∧ jR P (l.map (·.1)) env h env' h' ∧ (K env' h').run = some r
 | [], env, h, K, ho, he, e => ⟨env, h, .refl _ _, .refl ho he, e⟩
 | (i, el) :: l, env, h, K, ho, he, e => by
   unfold qQN at e;split at e
   ·rename_i v hv
    cases hn : qDM v with
    | false =>
      rw [hn] at e;obtain ⟨env', h2, b1, b2, b3⟩ := rY (l := l) ho he e;exact ⟨env', h2, b1, b2.up fun j hj => zJ9 _ hj, b3⟩
    | true =>
      rw [hn] at e;simp only [cond_true] at e;split at e
      ·rename_i s t hs ht;obtain ⟨c, e1⟩ := qG e;rw [zJ1] at c;have hw : t.w = s + 1 := zJ2 c.1;have hn2 := xU (k := nm.b + i) (f := fun v => .list el true v v t []) ho ⟨rfl, rfl, by rw [hs, hw], by omega⟩
       have hfr : fresh nm (nm.b + i) (qB env) (qD h.l) = true := by
        have c2 := c.2;unfold qC4 at c2;simp only [zJ1] at c2;unfold fresh;rw [c2.1, c2.2.1, wB c2.2.2]; rfl
       have hwk : Wk P nm (qB env) (qD h.l) (qB (y9 env i (.own (nm.b + i) h.next 0))) (qD (h.new (nm.b + i) fun v => .list el true v v t []).l) := by
        have := Wk.zHV (P := P) (nm := nm) (ph := qD h.l) i (nm.b + i) el (by rw [zJ, hv, zKD, qC1 hn]) hs hfr;rw [kC];simpa [SV.enc, SH.new, qD, SO.enc] using this
       have hok : (SV.own (nm.b + i) h.next 0).ok (h.new (nm.b + i) fun v => .list el true v v t []) := wC (xs := ([] : List t.sem)) rfl;obtain ⟨env', h2, b1, b2, b3⟩ := rY (l := l) hn2.2 (xS (t := i) (qN hn2.1 he) hok) e1;refine ⟨env', h2, hwk.trans b1, ?_, b3⟩
       have h0 : jR P [i] env h (y9 env i (.own (nm.b + i) h.next 0)) (h.new (nm.b + i) fun v => .list el true v v t []) := ⟨xS (qN hn2.1 he) hok, hn2.2, hn2.1, fun j hj => pK fun q => hj (by rw [q]; exact zM1 j), jI _ _ _⟩
       exact h0.trans b2
      ·cases e
   ·cases e
omit [Yl] in
theorem qD9 {f : PHp -> PV -> Option (FV × PHp)} (hf : ∀ ph x y ph', f ph x = some (y, ph') -> oG ph' ph) : ∀ {l : List PV} {ph ph' : PHp} {ys : List FV}, qDT f l ph = some (ys, ph') -> oG ph' ph
 | [], ph, ph', ys, h => by cases h; exact .refl _
 | x :: l, ph, ph', ys, h => by
   unfold qDT at h;split at h
   ·rename_i y ph1 h1;split at h
    ·rename_i zs ph2 h2;cases h;exact fun k ob q => hf _ _ _ _ h1 k ob (qD9 hf h2 k ob q)
    ·cases h
   ·cases h
omit [Yl] in
theorem qMM : ∀ (n : Nat) (ph : PHp) (x : PV) (y : FV) (ph' : PHp), fz1 P n ph x = some (y, ph') -> oG ph' ph
 | 0, ph, x, y, ph', h => by
   cases x with
   | f x =>
     have h : some (x, ph) = some (y, ph') := h;cases h; exact .refl _
   | _ =>
     have h : (none : Option (FV × PHp)) = some (y, ph') := h;cases h
 | n + 1, ph, x, y, ph', h => by
   cases x with
   | f x =>
     have h : some (x, ph) = some (y, ph') := h;cases h; exact .refl _
   | own k t o c =>
     unfold fz1 at h;split at h
     case h_2 => cases h
     split at h
     case h_2 => cases h
     obtain ⟨_, h⟩ := xP h;split at h
     case h_2 => cases h
     rename_i hq;cases h
     exact fun j ob q => by
      have q1 := qD9 (qMM n) hq j ob q;rw [xB] at q1;split at q1
      ·cases q1
      ·exact q1
   | _ =>
     have h : (none : Option (FV × PHp)) = some (y, ph') := h;cases h
omit [Yl] in
theorem q2O (h : fzP P ph x = some (y, ph')) : oG ph' ph := by
 unfold fzP at h;split at h
 ·split at h
  ·rename_i hq;cases h; exact qD9 (qMM 4) hq
  ·cases h
 ·split at h
  ·rename_i hq;cases h; exact qMM 4 _ _ _ _ hq
  ·cases h
omit [Yl] in
theorem Wk.zHX {env : List PV} (kb i : Nat) (ty : TypeId) (hk' : qA kb ph' = some ob) (hsp : spec P ob.el = false) (hgr : ob.gr = false) (hi : zF ob.cs i = some x) (hf : fzP P ph x = some (y, ph')) (hk : qA kb ph = some ob) :
 Wk P nm env ph env (kQ kb ⟨ob.el, false, y9 ob.cs i (rt1 P ty y)⟩ ph') := by
 intro Z H m q98 hp he;have hkM : own m ph kb = some (m kb, ob) := qP hk;have zA9 : ¬ (ob.gr = true ∧ ob.cs = []) := fun h => by rw [hgr] at h; cases h.1
 rcases hp.obj kb _ ob hkM with h | ⟨_, _, _, ⟨_, vs0, a40, a50, _⟩ | ⟨hs2, _⟩⟩
 rotate_right 1
 ·rw [hsp] at hs2; cases hs2
 ·exact absurd h zA9
 obtain ⟨v, hv1, hv2⟩ := a50.get (i := i) (by rw [<- qF]; exact hi);obtain ⟨Z', fz, hy⟩ := qJI hp hv2 hf;have hyr : ∀ M, VR P Z' H M (rt1 P ty y) v := fun M => qDK (bG hy (qMZ hf))
 have hp1 := fz.hp;have zEJ : own m ph' kb = some (m kb, ob) := qP hk';generalize zHY : kQ kb (⟨ob.el, false, y9 ob.cs i (rt1 P ty y)⟩ : PO) ph' = ph2
 have hM' : ∀ j, own m ph2 j = if j = kb then some (m kb, ⟨ob.el, false, y9 ob.cs i (rt1 P ty y)⟩) else own m ph' j := fun j => by
  subst zHY;unfold own;rw [zB];by_cases h2 : j = kb
  ·subst h2; rw [if_pos ⟨rfl, by rw [hk']; rfl⟩, if_pos rfl]; rfl
  ·rw [if_neg (fun h => h2 h.1), if_neg h2]
 have zBR : own m ph2 kb = some (m kb, ⟨ob.el, false, y9 ob.cs i (rt1 P ty y)⟩) := by rw [hM', if_pos rfl]
 have hold : ∀ j, j ≠ kb -> own m ph2 j = own m ph' j := fun j h2 => by rw [hM', if_neg h2]
 have hkr : ∀ p, KR p (own m ph') (own m ph2) := fun p j b o hj => by
  by_cases h2 : j = kb
  ·subst h2;rw [zBR] at hj;cases hj;exact .inl ⟨ob, zEJ, by simp [zC], rfl, hgr⟩
  ·rw [hold j h2] at hj; exact .inl ⟨o, hj, rfl, rfl, rfl⟩
 have mono : ∀ {xs : List PV} {vs : List Value}, VRL P Z' H (own m ph') xs vs -> VRL P Z' H (own m ph2) xs vs := fun h => h.mono (fun _ h => h) (zJ3 _) (fun _ _ _ => rfl) (hkr fun _ => false) fun j hj => by cases hj
 have hp' : Hp P Z' H (own m ph2) := by
  refine ⟨hp1.zlt, fun j b o hj => ?_, fun j j' b b' o o' h1 h2 r1 r2 hn => ?_, hp1.gl⟩
  ·by_cases h2 : j = kb
   ·subst h2;rw [zBR] at hj; cases hj
    rcases hp1.obj j _ ob zEJ with h | ⟨a1, a2, a3, ⟨_, vs, a4, a5, a6⟩ | ⟨hs2, _⟩⟩
    rotate_right 1
    ·rw [hsp] at hs2; cases hs2
    ·exact absurd h zA9
    ·have hv := mono a5
     have hvv : vs = vs0 := by
      rw [a40] at a4;injection a4 with e1;injection e1 with e2;injection e2 with e3;exact e3.symm
     subst hvv;refine .inr ⟨a1, a2, a3, .inl ⟨hsp, vs, ?_, hv.slot hv1 (hyr _), a6⟩⟩;rw [a4, hgr]
   ·rw [hold j h2] at hj
    rcases hp1.obj j b o hj with h | ⟨a1, a2, a3, a4⟩
    ·exact .inl h
    ·exact .inr ⟨a1, a2, a3, a4.mono rfl fun _ a5 => mono a5⟩
  ·have tr : ∀ {j b o}, own m ph2 j = some (b, o) -> ¬ (o.gr = true ∧ o.cs = []) -> ∃ o2, own m ph' j = some (b, o2) ∧ ¬ (o2.gr = true ∧ o2.cs = []) := fun {j b o} hj hr => by
    by_cases h2 : j = kb
    ·subst h2; rw [zBR] at hj; cases hj; exact ⟨ob, zEJ, zA9⟩
    ·rw [hold j h2] at hj; exact ⟨o, hj, hr⟩
   obtain ⟨o2, q1, q2⟩ := tr h1 r1;obtain ⟨o3, q3, q4⟩ := tr h2 r2;exact hp1.inj j j' b b' o2 o3 q1 q3 q2 q4 hn
 have hst : Step Z' H (own m ph') Z' H (own m ph2) := ⟨zJ3 _, rfl, fun _ h => h, fun _ _ _ => rfl, fun b h _ => .inl h, fun b ⟨j, o, h1, h2⟩ _ => by
  by_cases e2 : j = kb
  ·subst e2; rw [zBR] at h1; cases h1; exact ⟨j, ob, zEJ, zA9⟩
  ·rw [hold j e2] at h1; exact ⟨j, o, h1, h2⟩⟩
 exact ⟨Z', m, hp', mono (fz.vrl he), fz.step.trans hst, (fz.kr _).trans (hkr _)⟩
def q7W (P : Program) (i c : Nat) (ty : TypeId) (env : List SV) (h : SH) (K : List SV -> SH -> q97 R) : q97 R := match zF env i, qCU P 8 ty with
 | some (.ref kb _ _), some t => (match slk kb h.l with
   | some (.cells _ _ cs) => (match zF cs c with
     | some v => (match q1T P ty t v h with
       | some (x, h') => (match slk kb h'.l with
         | some (.cells e _ cs') => cond (!spec P e) (K env (h'.put kb fun v => .cells e v (y9 cs' c (t.sv x)))) .fail
         | _ => .fail)
       | none => .fail)
     | none => .fail)
   | _ => .fail)
 | _, _ => .fail
theorem q2G {c : Nat} {K : List SV -> SH -> q97 R} (ho : OkH P h) (he : okL h env) (e : (q7W P i c ty env h K).run = some r) :
 ∃ env' h', Wk P nm (qB env) (qD h.l) (qB env') (qD h'.l) ∧ jR P [i] env h env' h' ∧ (K env' h').run = some r := by
 unfold q7W at e;split at e
 case h_2 => cases e
 rename_i kb _ _ t hi ht;split at e
 case h_2 => cases e
 rename_i eb wb cs hkb;split at e
 case h_2 => cases e
 rename_i v hv;split at e
 case h_2 => cases e
 rename_i x h' hd;split at e
 case h_2 => cases e
 rename_i e2 w2 cs2 hkb2;obtain ⟨hc, e1⟩ := qG e;have hvk : v.ok h := dK (ho.cells _ _ _ _ hkb) hv;obtain ⟨y, a1, a2, a3, a4, _⟩ := qAV ho hvk hd;have hsp : spec P e2 = false := by simpa using hc
 have hp2 := aF (k := kb) (f := fun v => .cells e2 v (y9 cs2 c (t.sv x))) a4 hkb2 ⟨rfl, xS (a4.cells _ _ _ _ hkb2) (qIS t x)⟩;have hk2 := y5 hkb2;have hk1 := y5 hkb;have hsub := q2O a1 kb _ hk2
 have hcs : qB cs2 = qB cs := by
  rw [hk1] at hsub;injection hsub with q;injection q with q1 q2 q3;exact q3.symm
 refine ⟨env, h'.put kb fun v => .cells e2 v (y9 cs2 c (t.sv x)), ?_, ⟨qN hp2.1 (qN a3 he), hp2.2, a3.trans hp2.1, fun _ _ => rfl, rfl⟩, e1⟩
 have := Wk.zHX (P := P) (nm := nm) (env := qB env) kb c ty hk2 hsp rfl (x := v.enc) (by
  show zF (qB cs2) c = _
  rw [hcs, zJ, hv]; rfl) a1 hsub
 refine this.trans ?_
 have he2 : kQ kb ⟨(SO.cells e2 w2 cs2).enc.el, false, y9 (SO.cells e2 w2 cs2).enc.cs c (rt1 P ty y)⟩ (qD h'.l) = qD ((h'.put kb fun v => .cells e2 v (y9 cs2 c (t.sv x))).l) := by
  show _ = qD (sst kb _ h'.l);rw [vK];simp [SO.enc, kC, nH, a2]
 rw [he2];exact .refl _ _
def q7N (i : Nat) (env : List SV) (h : SH) (K : List SV -> SH -> q97 R) : q97 R := match zF env i with
 | some (.d (.list el (.int k)) xs) => .ite (List.isEmpty xs) .fail (K (y9 env i (.d (.ol el k) xs)) h)
 | _ => .fail
theorem q2V {K : List SV -> SH -> q97 R} (ho : OkH P h) (he : okL h env) (e : (q7N i env h K).run = some r) :
 ∃ env' h', Wk P nm (qB env) (qD h.l) (qB env') (qD h'.l) ∧ jR P [i] env h env' h' ∧ (K env' h').run = some r := by
 unfold q7N at e;split at e
 ·rename_i el k xs hi
  rcases run_ite e with ⟨_, e1⟩ | ⟨hx, e1⟩
  ·cases e1
  ·refine ⟨_, h, ?_, ⟨xS he (by simp [SV.ok]), ho, .refl _, fun j hj => pK fun q => hj (by rw [q]; exact zM1 j), jI _ _ _⟩, e1⟩
   have : qB (y9 env i (.d (.ol el k) xs)) = qB env := by
    rw [kC]
    have h2 : (SV.d (.ol el k) xs).enc = (SV.d (.list el (.int k)) xs).enc := by
     cases xs with
     | nil => cases hx
     | cons x xs => simp [SV.enc, Ty.fv, fvo, Ty.cells]
    rw [h2, zC]
    have h3 : (qB env)[i]? = some (SV.d (.list el (.int k)) xs).enc := by
     rw [<- qF, zJ, hi]; rfl
    obtain ⟨h4, h5⟩ := zJ6.1 h3;rw [<- h5, List.set_getElem_self]
   rw [this];exact .refl _ _
 ·cases e
def fzv (P : Program) (nm : Nm) : List (Nat × TypeId) -> List SV -> SH -> (List SV -> SH -> q97 R) -> q97 R
 | [], env, h, K => K env h
 | (i, ty) :: l, env, h, K => cond (Nat.ble 2000000000 ty) ((cond (Nat.ble 4000000000 ty) (cond (Nat.ble 5000000000 ty) (q7N i env h fun env h => fzv P nm l env h K) (q7W P i ((ty - 4000000000) / 100000) ((ty - 4000000000) % 100000) env h fun env h => fzv P nm l env h K)) .fail)) <| cond (Nat.ble 1000000000 ty) (qQN P nm [(i, ty - 1000000000)] env h fun env h => fzv P nm l env h K) (fzs P [(i, ty)] env h fun env h => fzv P nm l env h K)
theorem q0H : ∀ {l : List (Nat × TypeId)} {env : List SV} {h : SH} {K : List SV -> SH -> q97 R}, OkH P h -> okL h env -> (fzv P nm l env h K).run = some r ->
 ∃ env' h', Wk P nm (qB env) (qD h.l) (qB env') (qD h'.l) ∧ jR P (l.map (·.1)) env h env' h' ∧ (K env' h').run = some r
 | [], env, h, K, ho, he, e => ⟨env, h, .refl _ _, .refl ho he, e⟩
 | (i, ty) :: l, env, h, K, ho, he, e => by
   unfold fzv at e
   have go : ∀ {zAF h1}, Wk P nm (qB env) (qD h.l) (qB zAF) (qD h1.l) -> jR P [i] env h zAF h1 -> (fzv P nm l zAF h1 K).run = some r -> ∃ env' h', Wk P nm (qB env) (qD h.l) (qB env') (qD h'.l) ∧ jR P (((i, ty) :: l).map (·.1)) env h env' h' ∧ (K env' h').run = some r := fun a b e => by
    obtain ⟨env', h', c1, c2, c3⟩ := q0H (l := l) b.2.1 b.1 e;exact ⟨env', h', a.trans c1, b.trans c2, c3⟩
   cases hb2 : Nat.ble 2000000000 ty with
   | true =>
     rw [hb2] at e
     cases hb4 : Nat.ble 4000000000 ty with
     | true =>
       rw [hb4] at e
       cases hb5 : Nat.ble 5000000000 ty with
       | true =>
         rw [hb5] at e;have e : (q7N i env h fun env h => fzv P nm l env h K).run = some r := e;obtain ⟨zAF, h1, a, b, e1⟩ := q2V (nm := nm) ho he e;exact go a b e1
       | false =>
       rw [hb5] at e;have e : (q7W P i ((ty - 4000000000) / 100000) ((ty - 4000000000) % 100000) env h fun env h => fzv P nm l env h K).run = some r := e;obtain ⟨zAF, h1, a, b, e1⟩ := q2G (nm := nm) ho he e;exact go a b e1
     | false =>
       rw [hb4] at e;cases e
   | false =>
   rw [hb2] at e
   cases hb : Nat.ble 1000000000 ty with
   | true =>
     rw [hb] at e;obtain ⟨zAF, h1, a, b, e1⟩ := rY (nm := nm) ho he e;exact go a b e1
   | false =>
     rw [hb] at e;obtain ⟨zAF, h1, a, b, e1⟩ := q05 (nm := nm) ho he e;exact go a b e1
def qHW (P : Program) (nm : Nm) : List (Nat × Nat × TypeId × Nat) -> List SV -> SH -> (List SV -> SH -> q97 R) -> q97 R
 | [], env, h, K => K env h
 | (kb, i, el, k) :: l, env, h, K => match slk kb h.l with
   | some (.cells e _ cs) => (match zF cs i with
     | some v => cond (qDM v) (match szT P el, qCU P 8 el with
       | some (s + 1), some t => cond (Nat.beq t.w (s + 1) && (qC4 nm k env h && (!Nat.beq k kb && !spec P e))) (qHW P nm l env ((h.new k fun v => .list el true v v t []).put kb fun v => .cells e v (y9 cs i (.own k h.next 0))) K) .fail
       | _, _ => .fail) (qHW P nm l env h K)
     | none => .fail)
   | _ => .fail
theorem qAP : ∀ {l : List (Nat × Nat × TypeId × Nat)} {env : List SV} {h : SH} {K : List SV -> SH -> q97 R}, OkH P h -> okL h env -> (qHW P nm l env h K).run = some r ->
 ∃ h', Wk P nm (qB env) (qD h.l) (qB env) (qD h'.l) ∧ Keep h h' ∧ OkH P h' ∧ (K env h').run = some r
 | [], env, h, K, ho, he, e => ⟨h, .refl _ _, .refl _, ho, e⟩
 | (kb, i, el, k) :: l, env, h, K, ho, he, e => by
   unfold qHW at e;split at e
   case h_2 => cases e
   rename_i eb wb cs hkb;split at e
   case h_2 => cases e
   rename_i v hv
   cases hn : qDM v with
   | false =>
     rw [hn] at e;exact qAP (l := l) ho he e
   | true =>
     rw [hn] at e;simp only [cond_true] at e;split at e
     case h_2 => cases e
     rename_i s t hs ht;obtain ⟨c, e1⟩ := qG e;simp only [zJ1] at c;have hw : t.w = s + 1 := zJ2 c.1
     have hne : k ≠ kb := fun q => by
      have := c.2.2.1;rw [q, rC] at this;cases this
     have hsp : spec P eb = false := by simpa using c.2.2.2
     have hn2 := xU (k := k) (f := fun v => .list el true v v t []) ho ⟨rfl, rfl, by rw [hs, hw], by omega⟩;have hok : (SV.own k h.next 0).ok (h.new k fun v => .list el true v v t []) := wC (xs := ([] : List t.sem)) rfl
     have zHZ : slk kb (h.new k fun v => .list el true v v t []).l = some (.cells eb wb cs) := by
      rw [show slk kb (h.new k fun v => .list el true v v t []).l = slk kb h.l from yB hne.symm]; exact hkb
     have hcs : okL (h.new k fun v => .list el true v v t []) cs := qN hn2.1 (ho.cells _ _ _ _ hkb);have hp2 := aF (k := kb) (f := fun v => .cells eb v (y9 cs i (.own k h.next 0))) hn2.2 zHZ ⟨rfl, xS hcs hok⟩
     have hfr : fresh nm k (qB env) (qD h.l) = true := by
      have c2 := c.2.1;unfold qC4 at c2;simp only [zJ1] at c2;unfold fresh;rw [c2.1, c2.2.1, wB c2.2.2]; rfl
     obtain ⟨h', b1, b2, b3, b4⟩ := qAP (l := l) hp2.2 (qN hp2.1 (qN hn2.1 he)) e1;refine ⟨h', ?_, hn2.1.trans (hp2.1.trans b2), b3, b4⟩;have hk := y5 hkb
     have := Wk.zGL (P := P) (nm := nm) (env := qB env) kb i k el hk hsp rfl (by
      show zF (qB cs) i = _
      rw [zJ, hv, zKD, qC1 hn]) hs hfr hne
     refine Wk.trans this ?_
     have he2 : (k, (⟨el, true, []⟩ : PO)) :: kQ kb ⟨(SO.cells eb wb cs).enc.el, false, y9 (SO.cells eb wb cs).enc.cs i (.own k 0 0 0)⟩ (qD h.l) = qD (((h.new k fun v => .list el true v v t []).put kb fun v => .cells eb v (y9 cs i (.own k h.next 0))).l) := by
      show _ = qD (sst kb _ ((k, _) :: h.l));have : (kb == k) = false := by simpa using hne.symm
      show _ = qD (cond (kb == k) _ ((k, _) :: sst kb _ h.l));rw [this];show _ = (k, _) :: qD (sst kb _ h.l);rw [vK];simp [SO.enc, kC, SV.enc]
     rw [he2];exact b1
def qE5 (P : Program) : List Nat -> SH -> SH
 | [], h => h
 | kb :: l, h => match slk kb h.l with
   | some (.cells el _ cs) => (match qCU P 8 el with
     | some t => (match t.zCP cs with
       | some x => qE5 P l (h.put kb fun v => .cells el v (t.svs x))
       | none => qE5 P l h)
     | none => qE5 P l h)
   | _ => qE5 P l h
theorem mG : ∀ {bs : List Nat} {h : SH}, OkH P h -> Keep h (qE5 P bs h) ∧ OkH P (qE5 P bs h) ∧ ∀ l, qA l (qD (qE5 P bs h).l) = qA l (qD h.l)
 | [], h, ho => ⟨.refl _, ho, fun _ => rfl⟩
 | kb :: bs, h, ho => by
   unfold qE5;split
   ·rename_i el w cs hk;split
    ·rename_i t ht;split
     ·rename_i x hx;have hp := aF (k := kb) (f := fun v => .cells el v (t.svs x)) ho hk ⟨rfl, qDB t x⟩;obtain ⟨a1, a2, a3⟩ := mG (bs := bs) hp.2;refine ⟨hp.1.trans a1, a2, fun l => (a3 l).trans ?_⟩;show qA l (qD (sst kb _ h.l)) = _;rw [vK, zB];split
      ·rename_i e;rw [e.1, y5 hk];show some (⟨el, false, qB (t.svs x)⟩ : PO) = some ⟨el, false, qB cs⟩;rw [u7, nT hx]
      ·rfl
     ·exact mG (bs := bs) ho
    ·exact mG (bs := bs) ho
   ·exact mG (bs := bs) ho
omit [Yl] in
theorem Wk.ext {pe : List PV} {a b : PHp} (h : ∀ l, qA l b = qA l a) : Wk P nm pe a pe b := fun Z H m vs hp hv => by
 have e : own m b = own m a := qB1 h;exact ⟨Z, m, by rw [e]; exact hp, by rw [e]; exact hv, by rw [e]; exact .refl _ _ _, by rw [e]; exact .refl _ _⟩
def qU6 (P : Program) (nm : Nm) (bs : List Nat) (bv : List (Nat × Nat × TypeId × Nat)) (env : List SV) (h : SH) (K : List SV -> SH -> q97 R) : q97 R := qHW P nm bv env h fun env h => K env (qE5 P bs h)
theorem qHF {bs : List Nat} {l : List (Nat × Nat × TypeId × Nat)} {K : List SV -> SH -> q97 R} (ho : OkH P h) (he : okL h env) (e : (qU6 P nm bs l env h K).run = some r) :
 ∃ h', Wk P nm (qB env) (qD h.l) (qB env) (qD h'.l) ∧ Keep h h' ∧ OkH P h' ∧ (K env h').run = some r := by
 obtain ⟨h', a1, a2, a3, a4⟩ := qAP (nm := nm) ho he e;obtain ⟨b1, b2, b3⟩ := mG (bs := bs) a3;exact ⟨_, a1.trans (.ext b3), a2.trans b1, b2, a4⟩
end
end Go.Sv
namespace Go.Sv
open Go.Idl
noncomputable section
variable [Gc]
variable [Yl]
variable {P : Program} {R : Type} {r : R} {nm : Nm}
def q9A : SV -> Option Ty
 | .d t _ => cond t.one (some t) none
 | .c (.int k _) => some (.int k)
 | .c (.bool _) => some .bool
 | .c (.string _) => some .str
 | _ => none
def tyV : SV -> Option Ty
 | .agg l => tyL (l.map q9A)
 | v => q9A v
def q8G : List SV -> Option (List Ty)
 | [] => some []
 | v :: l => match tyV v, q8G l with
   | some t, some ts => some (t :: ts)
   | _, _ => none
def q7X (t : Ty) (v : SV) : Option t.sem := cond t.one (t.zEH v) (match v with
 | .agg l => t.zCP l
 | _ => none)
theorem qN4 {t : Ty} {v : SV} {x : t.sem} (e : q7X t v = some x) : v.enc = t.pv x := by
 unfold q7X at e;unfold Ty.pv
 cases ht : t.one with
 | true => rw [ht] at e; exact (sH e).1
 | false =>
   rw [ht] at e;simp only [cond_false] at e ⊢;split at e
   ·simp only [SV.enc, nT e]
   ·cases e
def qCM : (ts : List Ty) -> List SV -> Option (TyL ts)
 | [], [] => some ()
 | [t], [v] => q7X t v
 | t :: u :: ts, v :: vs => match q7X t v with
   | some x => (match qCM (u :: ts) vs with
     | some y => some (x, y)
     | none => none)
   | none => none
 | _, _ => none
theorem mU : ∀ {ts : List Ty} {l : List SV} {s : TyL ts}, qCM ts l = some s -> qB l = qB (svL ts s)
 | [], [], s, e => by simp [svL]
 | [t], [v], s, e => by
   unfold qCM at e;simp only [svL, qB, nH, qN4 e]
 | t :: u :: ts, v :: vs, s, e => by
   unfold qCM at e;split at e
   ·rename_i x hx;split at e
    ·rename_i y hy;cases e;have ih := mU hy;show qB (v :: vs) = qB (t.sv x :: svL (u :: ts) y);simp only [qB, nH, qN4 hx, ih]
    ·cases e
   ·cases e
 | [], _ :: _, _, e => by cases e
 | t :: ts, [], _, e => by cases ts <;> (unfold qCM at e; cases e)
 | [_], _ :: _ :: _, _, e => by unfold qCM at e; cases e
def qJR : List Nat -> List SV -> Option (List SV)
 | [], _ => some []
 | i :: is, env => match zF env i, qJR is env with
   | some v, some l => some (v :: l)
   | _, _ => none
def spD : SpO -> Option SV
 | .map es => some (.d .raw es)
 | .iter s pos => some (.agg [.d .str s, .d (.int .i64) (pos : Int)])
 | .mit _ _ _ _ _ => none
def obD : SO -> Option (SV × Bool)
 | .list el gr _ _ u xs => cond (Nat.beq el 1000000001) none (some (.d (.list el u) xs, gr))
 | .spc _ x => (spD x).map fun v => (v, false)
 | .cells _ _ _ => none
def qWC : List Nat -> SH -> Option (List SV)
 | [], _ => some []
 | k :: ks, h => match slk k h.l, qWC ks h with
   | some ob, some l => (match obD ob with
     | some p => some (p.1 :: l)
     | none => none)
   | _, _ => none
def q2Y : List Nat -> SH -> Option (List (Nat × Bool))
 | [], _ => some []
 | k :: ks, h => match slk k h.l, q2Y ks h with
   | some ob, some l => (match obD ob with
     | some p => some ((k, p.2) :: l)
     | none => none)
   | _, _ => none
def qC3 (i : Nat) : List Nat -> Bool
 | [] => false
 | j :: l => cond (Nat.beq i j) true (qC3 i l)
omit [Yl] in
theorem wO {i : Nat} : ∀ {l : List Nat}, qC3 i l = true ↔ i ∈ l
 | [] => by simp [qC3]
 | j :: l => by
   unfold qC3;rw [zKN]
   cases h : Nat.beq i j with
   | true => simp [zJ2 h]
   | false =>
     have : i ≠ j := fun e => by subst e; rw [rC] at h; cases h
     simp only [cond_false, wO (l := l), this, false_or]
def blank (W : List Nat) : Nat -> List SV -> List SV
 | _, [] => []
 | i, x :: l => cond (qC3 i W) .unk x :: blank W (i + 1) l
omit [Yl] in
theorem qBR (W : List Nat) : ∀ (i : Nat) (l : List SV), (blank W i l).length = l.length
 | _, [] => rfl
 | i, x :: l => by simp [blank, qBR W (i + 1) l]
omit [Yl] in
theorem qBA (W : List Nat) : ∀ (i j : Nat) (l : List SV), zF (blank W i l) j = (zF l j).map fun x => cond (qC3 (i + j) W) SV.unk x
 | _, _, [] => rfl
 | i, 0, x :: l => rfl
 | i, j + 1, x :: l => by
   show zF (blank W (i + 1) l) j = (zF l j).map _;rw [qBA W (i + 1) j l, zLT, zMV 1 j]
omit [Yl] in
theorem qMW {h : SH} {W : List Nat} : ∀ {i : Nat} {l : List SV}, okL h l -> okL h (blank W i l)
 | _, [], _ => by simp [blank, okL]
 | i, x :: l, hl => by
   simp only [okL] at hl;show okL h (cond (qC3 i W) .unk x :: blank W (i + 1) l);simp only [okL];refine ⟨?_, qMW hl.2⟩;cases qC3 i W
   ·exact hl.1
   ·simp [SV.ok]
def eB : List Nat -> List SV -> List SV -> List SV × List SV
 | [], l, env => (env, l)
 | i :: is, c :: l, env => eB is l (y9 env i c)
 | _ :: _, [], env => (env, [])
def q49 (P : Program) (gr : Bool) : SV -> Option (Nat -> SO)
 | .d (.list el u) xs => (match szT P el with
   | some n => cond (Nat.beq n u.w && (Nat.ble 1 n && !Nat.beq el 1000000001)) (some fun v => .list el gr v v u xs) none
   | none => none)
 | .d .raw es => some fun v => .spc v (.map es)
 | .agg [.d .str s, .d (.int .i64) p] => some fun v => .spc v (.iter s (Int.toNat p))
 | _ => none
def q37 (P : Program) : List (Nat × Bool) -> List SV -> SH -> Option SH
 | [], [] => fun h => some h
 | (k, gr) :: ks, c :: l => fun h => (match q49 P gr c with
   | some f => q37 P ks l ((h.del k).new k f)
   | none => none)
 | _, _ => fun _ => none
def mkM : Nat := 1000000000000000
def qZX : List (Nat × Nat) -> SH -> List SV -> Option (List SV)
 | [], _, env => some env
 | (i, k) :: l, h, env => cond (Nat.ble mkM k) (qZX l h (y9 env i (.mp (k - mkM)))) (match slk k h.l with
   | some (.list _ _ g _ _ xs) => qZX l h (y9 env i (.own k g (List.length xs)))
   | _ => none)
def q5M (j : Nat) : Bool := Nat.beq j 1000000000
def q8J (k w : Nat) : SV -> Option Bool
 | .ref k' off w' => cond (Nat.beq k k' && (Nat.beq off 0 && Nat.beq w w')) (some true) none
 | .c (.pointer none) => some false
 | .opt b k' off w' => cond (Nat.beq k k' && (Nat.beq off 0 && Nat.beq w w')) (some b) none
 | _ => none
theorem qY7 {k w : Nat} {v : SV} {b : Bool} (e : q8J k w v = some b) : v.enc = (SV.opt b k 0 w).enc := by
 have eqs : ∀ {k' off w' : Nat} {x y : Option Bool}, cond (Nat.beq k k' && (Nat.beq off 0 && Nat.beq w w')) x none = y -> y ≠ none -> k = k' ∧ off = 0 ∧ w = w' ∧ x = y := fun {k' off w' x y} h hy => by
  cases hc : (Nat.beq k k' && (Nat.beq off 0 && Nat.beq w w')) with
  | false => rw [hc] at h; exact absurd h.symm hy
  | true =>
    rw [hc] at h;simp only [zJ1] at hc;exact ⟨zJ2 hc.1, zJ2 hc.2.1, zJ2 hc.2.2, h⟩
 unfold q8J at e;split at e
 ·obtain ⟨rfl, rfl, rfl, h⟩ := eqs e (by simp);cases h; simp [SV.enc]
 ·cases e; simp [SV.enc]
 ·obtain ⟨rfl, rfl, rfl, h⟩ := eqs e (by simp);cases h; simp [SV.enc]
 ·cases e
def q0S (k w : Nat) : List (Option Nat) -> List SV -> Option (List SV)
 | [], [] => some []
 | none :: ds, v :: l => (match q0S k w ds l with
   | some r => some (v :: r)
   | none => none)
 | some j :: ds, v :: l => cond (q5M j) (match q8J k w v, q0S k w ds l with
   | some b, some r => some (.d .bool b :: r)
   | _, _ => none) (q0S k w ds l)
 | _, _ => none
def qJ9 (k : Nat) (v : SV) (h : SH) : Bool := match v with
 | .own k' g _ => Nat.beq k' k && (match slk k' h.l with
   | some (.list _ _ g' _ _ _) => Nat.beq g g'
   | _ => false)
 | _ => false
def q1Y : List (Option Nat) -> List SV -> SH -> Bool
 | some k :: ds, v :: l, h => cond (q5M k) true (qJ9 k v h) && q1Y ds l h
 | none :: ds, _ :: l, h => q1Y ds l h
 | _, _, _ => true
def mkB (kb w : Nat) : List (Option Nat) -> List SV -> SH -> Option (List SV × List SV)
 | [], l, _ => some ([], l)
 | none :: ds, c :: l, h => (match mkB kb w ds l h with
   | some p => some (c :: p.1, p.2)
   | none => none)
 | some k :: ds, l, h => cond (q5M k) (match l with
   | c :: l' => (match asB c, mkB kb w ds l' h with
     | some b, some p => some (.opt b kb 0 w :: p.1, p.2)
     | _, _ => none)
   | [] => none) (match slk k h.l with
   | some (.list _ _ g _ _ xs) => (match mkB kb w ds l h with
     | some p => some (.own k g (List.length xs) :: p.1, p.2)
     | none => none)
   | _ => none)
 | none :: _, [], _ => none
def q4W (h1 : SH) : List (Nat × List (Option Nat)) -> List SV -> SH -> Option SH
 | [], _, h => some h
 | (k, ds) :: bs, l, h => match slk k h1.l with
   | some (.cells el _ _) => (match mkB k (List.length ds) ds l h with
     | some p => q4W h1 bs p.2 ((h.del k).new k fun v => .cells el v p.1)
     | none => none)
   | _ => none
def qZ1 : List (Nat × List (Option Nat)) -> SH -> Option (List SV)
 | [], _ => some []
 | (k, ds) :: bs, h => match slk k h.l with
   | some (.cells _ _ l) => (match q0S k (List.length ds) ds l, qZ1 bs h with
     | some a, some b => some (a ++ b)
     | _, _ => none)
   | _ => none
def qFA (L : List Nat) (bs : List (Nat × List (Option Nat))) (h1 h : SH) : Bool := bs.all fun p => qC3 p.1 L && ((p.2.all fun x => match x with
 | some k => !qC3 k L
 | none => true) && (match slk p.1 h1.l, slk p.1 h.l with
 | some (.cells e1 _ _), some (.cells e2 _ l) => Nat.beq e1 e2 && q1Y p.2 l h
 | _, _ => false))
def mkS (P : Program) (W : List Nat) (sh : Sh) (ts : List Ty) (os : List (Nat × Bool)) (env : List SV) (h : SH) (s : TyL ts) : Option (List SV × SH) :=
 match q37 P os ((eB sh.d (svL ts s) (blank W 0 env)).2.take os.length) h with
 | some h2 => (match q4W h sh.b ((eB sh.d (svL ts s) (blank W 0 env)).2.drop os.length) h2 with
   | some h3 => (match qZX sh.s h3 (eB sh.d (svL ts s) (blank W 0 env)).1 with
     | some e2 => some (e2, h3)
     | none => none)
   | none => none)
 | none => none
omit [Yl] in
theorem qE7 {l m : List PV} {i : Nat} {x : PV} (h : WkP l m) (hx : zF l i = some x) : WkP l (y9 m i x) := by
 rw [zC];rw [qF] at hx
 have hl : l.length = (m.set i x).length := by
  rw [zM3];clear hx
  induction h with
  | nil => rfl
  | same _ ih => simp [ih]
  | any _ ih => simp [ih]
 have hp : ∀ j : Nat, m[j]? = l[j]? ∨ m[j]? = some PV.unk := by
  clear hx hl
  induction h with
  | nil => intro j; exact .inl rfl
  | same _ ih => intro j; cases j with
    | zero => exact .inl rfl
    | succ j => exact ih j
  | any _ ih => intro j; cases j with
    | zero => exact .inr rfl
    | succ j => exact ih j
 refine qSF hl fun j => ?_
 rw [qF, qF, zKX];by_cases e : i = j
 ·subst e;rw [if_pos rfl];split
  ·exact .inl hx.symm
  ·rename_i hlt;have hlt' : i < l.length := (zJ6.1 hx).1;rw [hl, zM3] at hlt';exact absurd hlt' hlt
 ·rw [if_neg e];exact hp j
theorem qR7 : ∀ {is : List Nat} {env l b m rest : List SV}, qJR is env = some l -> qB (l ++ b) = qB m -> WkP (qB env) (qB rest) -> WkP (qB env) (qB (eB is m rest).1) ∧ qB (eB is m rest).2 = qB b
 | [], env, l, b, m, rest, e, hm, hw => by
   cases e;exact ⟨hw, hm.symm⟩
 | i :: is, env, l, b, m, rest, e, hm, hw => by
   unfold qJR at e;split at e
   ·rename_i v l' hv hl';cases e
    cases m with
    | nil => simp [qB] at hm
    | cons c m =>
      simp only [zLZ, qB, zKR] at hm;show WkP (qB env) (qB (eB is m (y9 rest i c)).1) ∧ qB (eB is m (y9 rest i c)).2 = qB b;refine qR7 hl' hm.2 ?_;rw [kC, <- hm.1];exact qE7 hw (by rw [zJ, hv]; rfl)
   ·cases e
omit [Yl] in
theorem qF5 : ∀ (is : List Nat) (l env : List SV), (eB is l env).1.length = env.length
 | [], l, env => rfl
 | i :: is, [], env => rfl
 | i :: is, c :: l, env => by
   show (eB is l (y9 env i c)).1.length = _;rw [qF5 is l, jI]
omit [Yl] in
theorem qLK {h : SH} : ∀ {is : List Nat} {l env : List SV}, okL h l -> okL h env -> okL h (eB is l env).1
 | [], l, env, _, he => he
 | i :: is, [], env, _, he => he
 | i :: is, c :: l, env, hl, he => by
   simp only [okL] at hl;show okL h (eB is l (y9 env i c)).1;exact qLK hl.2 (xS he hl.1)
omit [Yl] in
theorem qET : ∀ {is : List Nat} {l env : List SV} {j : Nat}, j ∉ is -> zF (eB is l env).1 j = zF env j
 | [], l, env, j, _ => rfl
 | i :: is, [], env, j, _ => rfl
 | i :: is, c :: l, env, j, hj => by
   rw [zKN, not_or] at hj;show zF (eB is l (y9 env i c)).1 j = _;rw [qET hj.2, zC, qF, qF, zKX, if_neg (fun e => hj.1 e.symm)]
omit [Yl] in
theorem qJE {k : Nat} {gr : Bool} {ks : List (Nat × Bool)} {c : SV} {l : List SV} {h h2 : SH} (e : q37 P ((k, gr) :: ks) (c :: l) h = some h2) :
 ∃ f, q49 P gr c = some f ∧ q37 P ks l ((h.del k).new k f) = some h2 := by
 unfold q37 at e;split at e
 ·rename_i f hf; exact ⟨f, hf, e⟩
 ·cases e
omit [Yl] in
theorem qYW {gr : Bool} {c : SV} {f : Nat -> SO} (e : q49 P gr c = some f) (h : SH) (n : Nat) : q5Z P h n (f n) := by
 unfold q49 at e;split at e
 ·rename_i el u xs;split at e
  ·rename_i m hm
   cases hc : (Nat.beq m u.w && (Nat.ble 1 m && !Nat.beq el 1000000001)) with
   | false => rw [hc] at e; cases e
   | true =>
     rw [hc] at e;cases e;simp only [zJ1] at hc;have hw : m = u.w := zJ2 hc.1;have h1 := zKB hc.2.1;exact ⟨rfl, rfl, by rw [hm, hw], by omega⟩
  ·cases e
 ·cases e; rfl
 ·cases e; rfl
 ·cases e
omit [Yl] in
theorem qL9 : ∀ {os : List (Nat × Bool)} {l : List SV} {h h2 : SH}, OkH P h -> q37 P os l h = some h2 -> Keep h h2 ∧ OkH P h2 ∧ ∀ k, k ∉ os.map (·.1) -> slk k h2.l = slk k h.l
 | [], [], h, h2, ho, e => by cases e; exact ⟨.refl _, ho, fun _ _ => rfl⟩
 | (k, gr) :: ks, c :: l, h, h2, ho, e => by
   obtain ⟨f, hf, e1⟩ := qJE e;have hd := dZ (k := k) ho;have hn2 := xU (h := h.del k) (k := k) (f := f) hd.2 (qYW hf _ _);obtain ⟨a1, a2, a3⟩ := qL9 hn2.2 e1;refine ⟨hd.1.trans (hn2.1.trans a1), a2, fun j hj => ?_⟩;rw [zKI, zKN, not_or] at hj;rw [a3 j hj.2];show slk j ((k, _) :: (h.del k).l) = _;rw [yB hj.1];exact jH hj.1 _
 | [], _ :: _, _, _, _, e => by cases e
 | _ :: _, [], _, _, _, e => by cases e
def qWV : List FV -> List (Value × Value)
 | .v k :: .v x :: l => (k, x) :: qWV l
 | _ => []
omit [Yl] in
theorem qGQ : ∀ (es : List (Value × Value)), qWV (bV es) = es
 | [] => rfl
 | p :: es => by
   show (p.1, p.2) :: qWV (bV es) = _;rw [qGQ es]
def obE (gr : Bool) : PV -> Option PO
 | .f (.l el _ cs) => cond (Nat.beq el 1000000001) (some (SpO.map (qWV cs)).enc) (some ⟨el, gr, cs.map .f⟩)
 | .agg [.f (.v (.string s)), .f (.v (.int _ p))] => some (SpO.iter s p.toNat).enc
 | _ => none
theorem q61 {gr : Bool} {c : SV} {f : Nat -> SO} (e : q49 P gr c = some f) (n : Nat) : obE gr c.enc = some (f n).enc := by
 unfold q49 at e;split at e
 ·rename_i el u xs;split at e
  ·rename_i m hm
   cases hc : (Nat.beq m u.w && (Nat.ble 1 m && !Nat.beq el 1000000001)) with
   | false => rw [hc] at e; cases e
   | true =>
     rw [hc] at e;cases e;simp only [zJ1, zKO] at hc;simp only [SV.enc, Ty.fv, obE, hc.2.2, cond_false];rfl
  ·cases e
 ·rename_i es;cases e;simp only [SV.enc, Ty.fv, obE];show cond (Nat.beq 1000000001 1000000001) _ _ = _;rw [qGQ]; rfl
 ·cases e;simp only [SV.enc, qB, Ty.fv, obE];rfl
 ·cases e
theorem q81 {ob : SO} {p : SV × Bool} (e : obD ob = some p) : obE p.2 p.1.enc = some ob.enc := by
 unfold obD at e;split at e
 ·rename_i el gr g w u xs
  cases hc : Nat.beq el 1000000001 with
  | true => rw [hc] at e; cases e
  | false =>
    rw [hc] at e;cases e;simp only [SV.enc, Ty.fv, obE, hc, cond_false];rfl
 ·rename_i w x
  cases x with
  | map es =>
    cases e;simp only [SV.enc, Ty.fv, obE];show cond (Nat.beq 1000000001 1000000001) _ _ = _;rw [qGQ]; rfl
  | iter s pos =>
    cases e;simp only [SV.enc, qB, Ty.fv, obE];rfl
  | mit t j si la seen => cases e
 ·cases e
theorem qNT {q : PHp} {B : Nat -> Prop} : ∀ {os : List (Nat × Bool)} {l : List SV} {h h2 : SH}, q37 P os l h = some h2 -> (∀ k o, ¬ B k -> k ∉ os.map (·.1) -> slk k h.l = some o -> qA k q = some o.enc) ->
 (∀ (i : Nat) k gr c, os[i]? = some (k, gr) -> l[i]? = some c -> qA k q = obE gr c.enc) -> ∀ k o, ¬ B k -> slk k h2.l = some o -> qA k q = some o.enc
 | [], [], h, h2, e, h0, _, k, o, hB, hk => by
   cases e;exact h0 k o hB (by simp) hk
 | (j, gr) :: ks, c :: l, h, h2, e, h0, h1, k, o, hB, hk => by
   obtain ⟨f, hf, e1⟩ := qJE e;refine qNT (q := q) (B := B) e1 (fun k2 o2 hB2 hk2 ho2 => ?_) (fun i k2 gr2 c2 a1 a2 => h1 (i + 1) k2 gr2 c2 (by simpa using a1) (by simpa using a2)) k o hB hk;by_cases hj : k2 = j
   ·subst hj;rw [show slk k2 ((h.del k2).new k2 f).l = some (f (h.del k2).next) from vG] at ho2;cases ho2;rw [h1 0 k2 gr c rfl rfl];exact q61 hf _
   ·rw [show slk k2 ((h.del j).new j f).l = slk k2 (h.del j).l from yB hj, show slk k2 (h.del j).l = slk k2 h.l from jH hj _] at ho2;exact h0 k2 o2 hB2 (by rw [zKI, zKN, not_or]; exact ⟨hj, hk2⟩) ho2
 | [], _ :: _, _, _, e, _, _, _, _, _, _ => by cases e
 | _ :: _, [], _, _, e, _, _, _, _, _, _ => by cases e
omit [Yl] in
theorem qAN {h : SH} : ∀ {is : List Nat} {l env : List SV}, okL h l -> okL h (eB is l env).2
 | [], l, env, hl => hl
 | i :: is, [], env, _ => by simp [eB, okL]
 | i :: is, c :: l, env, hl => by
   simp only [okL] at hl;show okL h (eB is l (y9 env i c)).2;exact qAN hl.2
omit [Yl] in
theorem qMX {h : SH} {l : List SV} (n : Nat) (hl : okL h l) : okL h (l.drop n) := yF.2 fun x hx => yF.1 hl x (zMR hx)
theorem qTW (l : List SV) (n : Nat) : qB (l.take n) = (qB l).take n := by rw [qZ, qZ, zMG]
theorem qT4 (l : List SV) (n : Nat) : qB (l.drop n) = (qB l).drop n := by rw [qZ, qZ, zMF]
omit [Yl] in
theorem qKX {h : SH} (ho : OkH P h) : ∀ {l : List (Nat × Nat)} {env e2 : List SV}, okL h env -> qZX l h env = some e2 -> okL h e2 ∧ e2.length = env.length ∧ ∀ j, j ∉ l.map (·.1) -> zF e2 j = zF env j
 | [], env, e2, he, e => by cases e; exact ⟨he, rfl, fun _ _ => rfl⟩
 | (i, k) :: l, env, e2, he, e => by
   unfold qZX at e
   cases hmk : Nat.ble mkM k with
   | true =>
     rw [hmk] at e;simp only [cond_true] at e;obtain ⟨a1, a2, a3⟩ := qKX ho (xS (t := i) he (v := .mp (k - mkM)) (by simp [SV.ok])) e;refine ⟨a1, a2.trans (jI _ _ _), fun j hj => ?_⟩;rw [zKI, zKN, not_or] at hj;rw [a3 j hj.2, zC, qF, qF, zKX, if_neg (fun e => hj.1 e.symm)]
   | false =>
   rw [hmk] at e;simp only [cond_false] at e;split at e
   ·rename_i el gr g w u xs hk;have hg := (ho.list _ _ _ _ _ _ _ hk).1
    have hok : (SV.own k g (List.length xs)).ok h := by
     simp only [SV.ok];exact ⟨hg, fun el2 gr2 w2 t2 xs2 hk2 => by rw [hk] at hk2; cases hk2; rfl⟩
    obtain ⟨a1, a2, a3⟩ := qKX ho (xS (t := i) he hok) e;refine ⟨a1, a2.trans (jI _ _ _), fun j hj => ?_⟩;rw [zKI, zKN, not_or] at hj;rw [a3 j hj.2, zC, qF, qF, zKX, if_neg (fun e => hj.1 e.symm)]
   ·cases e
omit [Yl] in
theorem qHH {kb w : Nat} {h : SH} (ho : OkH P h) : ∀ {ds : List (Option Nat)} {l : List SV} {p : List SV × List SV}, okL h l -> mkB kb w ds l h = some p -> okL h p.1 ∧ okL h p.2
 | [], l, p, hl, e => by cases e; exact ⟨by simp [okL], hl⟩
 | none :: ds, c :: l, p, hl, e => by
   unfold mkB at e;simp only [okL] at hl;split at e
   ·rename_i q hq;cases e;have ih := qHH ho hl.2 hq;exact ⟨by simp only [okL]; exact ⟨hl.1, ih.1⟩, ih.2⟩
   ·cases e
 | some k :: ds, l, p, hl, e => by
   unfold mkB at e
   cases hm : q5M k with
   | true =>
     rw [hm] at e;simp only [cond_true] at e;split at e
     ·simp only [okL] at hl;split at e
      ·rename_i b q hb hq;cases e;have ih := qHH ho hl.2 hq;exact ⟨by simp only [okL]; exact ⟨by simp [SV.ok], ih.1⟩, ih.2⟩
      ·cases e
     ·cases e
   | false =>
   rw [hm] at e;simp only [cond_false] at e;split at e
   ·rename_i el gr g w u xs hk;split at e
    ·rename_i q hq;cases e;have ih := qHH ho hl hq;have hg := (ho.list _ _ _ _ _ _ _ hk).1;refine ⟨?_, ih.2⟩;simp only [okL, SV.ok];exact ⟨⟨hg, fun el2 gr2 w2 t2 xs2 hk2 => by rw [hk] at hk2; cases hk2; rfl⟩, ih.1⟩
    ·cases e
   ·cases e
 | none :: _, [], _, _, e => by cases e
omit [Yl] in
theorem qKW {h1 : SH} : ∀ {bs : List (Nat × List (Option Nat))} {l : List SV} {h h2 : SH}, OkH P h -> okL h l -> q4W h1 bs l h = some h2 -> Keep h h2 ∧ OkH P h2 ∧ ∀ k, k ∉ bs.map (·.1) -> slk k h2.l = slk k h.l
 | [], l, h, h2, ho, hl, e => by cases e; exact ⟨.refl _, ho, fun _ _ => rfl⟩
 | (k, ds) :: bs, l, h, h2, ho, hl, e => by
   unfold q4W at e;split at e
   ·rename_i el w0 l0 hk0;split at e
    ·rename_i p hp;obtain ⟨m1, m2⟩ := qHH ho hl hp;have hd := dZ (k := k) ho;have hn2 := xU (h := h.del k) (k := k) (f := fun v => .cells el v p.1) hd.2 ⟨rfl, qN hd.1 m1⟩;obtain ⟨a1, a2, a3⟩ := qKW hn2.2 (qN hn2.1 (qN hd.1 m2)) e;refine ⟨hd.1.trans (hn2.1.trans a1), a2, fun j hj => ?_⟩;rw [zKI, zKN, not_or] at hj;rw [a3 j hj.2];show slk j ((k, _) :: (h.del k).l) = _;rw [yB hj.1];exact jH hj.1 _
    ·cases e
   ·cases e
theorem qLL {h h2 : SH} (ho : OkH P h) (ho2 : OkH P h2) {k : Nat} {v : SV} {el : TypeId} {gr : Bool} {g w : Nat} {u : Ty} {xs : List u.sem} (hv : v.ok h) (c : qJ9 k v h = true) (hk : slk k h2.l = some (.list el gr g w u xs)) (h1 : qA k (qD h.l) = some (SO.list el gr g w u xs).enc) :
 v.enc = (SV.own k g xs.length).enc := by
 unfold qJ9 at c;split at c
 ·rename_i k' g' n';rw [zJ1] at c;have hkk : k' = k := zJ2 c.1;subst hkk;have c2 := c.2;split at c2
  ·rename_i el3 gr3 g3 w3 u3 xs3 hk3;have hg : g' = g3 := zJ2 c2;subst hg;simp only [SV.ok] at hv;have hn := hv.2 _ _ _ _ _ hk3;rw [y5 hk3] at h1;have h1 := zK2 h1;have e1 : el3 = el := congrArg PO.el h1
   have e2' : xs3.length * u3.w = xs.length * u.w := by
    have := congrArg (fun o : PO => o.cs.length) h1;simp only [qX] at this;exact this
   have l1 := ho.list _ _ _ _ _ _ _ hk3;have l2 := ho2.list _ _ _ _ _ _ _ hk
   have hww : u3.w = u.w := by
    have a1 := l1.2.1;have a2 := l2.2.1;rw [e1, a2] at a1;exact (zK2 a1).symm
   have hlen : xs3.length = xs.length := by
    rw [hww] at e2';exact Nat.eq_of_mul_eq_mul_right l2.2.2 e2'
   simp only [SV.enc, hn, hlen]
  ·cases c2
 ·cases c
theorem qFV {kb w : Nat} {hn h : SH} (hon : OkH P hn) (ho : OkH P h) : ∀ {ds : List (Option Nat)} {l ln dl rest : List SV} {p : List SV × List SV}, mkB kb w ds l h = some p -> q0S kb w ds ln = some dl -> q1Y ds ln hn = true -> qB (dl ++ rest) = qB l -> okL hn ln ->
 (∀ k o, some k ∈ ds -> slk k h.l = some o -> qA k (qD hn.l) = some o.enc) -> qB p.1 = qB ln ∧ qB p.2 = qB rest
 | [], l, ln, dl, rest, p, e, ec, eo, hl, hok, hq => by
   cases e
   cases ln with
   | nil => cases ec; exact ⟨rfl, hl.symm⟩
   | cons _ _ => cases ec
 | none :: ds, c :: l, ln, dl, rest, p, e, ec, eo, hl, hok, hq => by
   unfold mkB at e;split at e
   ·rename_i q hm;cases e
    cases ln with
    | nil => cases ec
    | cons v ln =>
      unfold q0S at ec;split at ec
      ·rename_i r hr;cases ec;simp only [zLZ, qB, zKR] at hl;simp only [okL] at hok;obtain ⟨a1, a2⟩ := qFV hon ho hm hr (by unfold q1Y at eo; exact eo) hl.2 hok.2 fun k o hk ho => hq k o (zJ9 _ hk) ho
       exact ⟨by simp only [qB, a1, hl.1], a2⟩
      ·cases ec
   ·cases e
 | some k :: ds, l, ln, dl, rest, p, e, ec, eo, hl, hok, hq => by
   unfold mkB at e
   cases hmk : q5M k with
   | true =>
     rw [hmk] at e;simp only [cond_true] at e;split at e
     case h_2 => cases e
     rename_i c l';split at e
     case h_2 => cases e
     rename_i b q hb hm;cases e
     cases ln with
     | nil => cases ec
     | cons v ln =>
       unfold q0S at ec;rw [hmk] at ec;simp only [cond_true] at ec;split at ec
       case h_2 => cases ec
       rename_i b2 r hb2 hr;cases ec;simp only [okL] at hok;unfold q1Y at eo;rw [zJ1] at eo;simp only [zLZ, qB, zKR] at hl;obtain ⟨a1, a2⟩ := qFV hon ho hm hr eo.2 hl.2 hok.2 fun k o hk ho => hq k o (zJ9 _ hk) ho
       refine ⟨?_, a2⟩
       have hbb : b2 = b := by
        have := hl.1;rw [oI hb] at this;simp only [SV.enc, Ty.fv, fvv] at this;injection this with this;injection this with this;injection this
       simp only [qB, a1, qY7 hb2, hbb]
   | false =>
   rw [hmk] at e;simp only [cond_false] at e;split at e
   ·rename_i el gr g w u xs hk;split at e
    ·rename_i q hm;cases e
     cases ln with
     | nil => cases ec
     | cons v ln =>
       unfold q0S at ec;rw [hmk] at ec;simp only [cond_false] at ec;simp only [okL] at hok;unfold q1Y at eo;rw [hmk, zJ1] at eo;simp only [cond_false] at eo;obtain ⟨a1, a2⟩ := qFV hon ho hm ec eo.2 hl hok.2 fun k o hk ho => hq k o (zJ9 _ hk) ho
       refine ⟨?_, a2⟩;simp only [qB, a1];rw [qLL hon ho hok.1 eo.1 hk (hq k _ zKF hk)]
    ·cases e
   ·cases e
 | none :: _, [], _, _, _, _, e, _, _, _, _, _ => by cases e
theorem qOL {hn h1 : SH} {L : List Nat} (hon : OkH P hn) : ∀ {bs : List (Nat × List (Option Nat))} {l c rest : List SV} {h h2 : SH}, OkH P h -> okL h l -> q4W h1 bs l h = some h2 -> qZ1 bs hn = some c -> qB (c ++ rest) = qB l -> qFA L bs h1 hn = true ->
 (∀ k o, slk k h.l = some o -> k ∉ bs.map (·.1) -> qA k (qD hn.l) = some o.enc) -> (∀ k o, slk k h.l = some o -> k ∉ L -> qA k (qD hn.l) = some o.enc) -> ∀ k o, slk k h2.l = some o -> qA k (qD hn.l) = some o.enc
 | [], l, c, rest, h, h2, ho, hl, e, ec, hc, hb, hq, _, k, o, hk => by
   cases e;exact hq k o hk (by simp)
 | (j, ds) :: bs, l, c, rest, h, h2, ho, hl, e, ec, hc, hb, hq, hqL, k, o, hk => by
   unfold qFA at hb;rw [zK6, zJ1, zJ1, zJ1] at hb;obtain ⟨⟨b0, b1, b2⟩, b3⟩ := hb;unfold q4W at e;split at e
   case h_2 => cases e
   rename_i el w0 l0 hk0;split at e
   case h_2 => cases e
   rename_i p hp;rw [hk0] at b2;simp only at b2;unfold qZ1 at ec;split at ec
   case h_2 => cases ec
   rename_i el2 w2 ln hkn;rw [hkn] at b2;simp only [zJ1] at b2;split at ec
   case h_2 => cases ec
   rename_i a b ha hb2;cases ec;have hel : el = el2 := zJ2 b2.1;subst hel;obtain ⟨m1, m2⟩ := qHH ho hl hp
   obtain ⟨q1, q2⟩ := qFV hon ho hp ha b2.2 (rest := b ++ rest) (by rw [<- zKY]; exact hc) (hon.cells _ _ _ _ hkn) (fun k o hk ho2 => hqL k o ho2 fun hm => by
    have := zJ4.1 b1 (some k) hk;simp only [wO.2 hm] at this
    cases this)
   have hd := dZ (k := j) ho;have hn2 := xU (h := h.del j) (k := j) (f := fun v => .cells el v p.1) hd.2 ⟨rfl, qN hd.1 m1⟩
   have look : ∀ i, i ≠ j -> slk i ((h.del j).new j fun v => .cells el v p.1).l = slk i h.l := fun i hi => by
    show slk i ((j, _) :: (h.del j).l) = _;rw [yB hi];exact jH hi _
   have zEZ : slk j ((h.del j).new j fun v => .cells el v p.1).l = some (.cells el (h.del j).next p.1) := vG
   have zBR : qA j (qD hn.l) = some (SO.cells el (h.del j).next p.1).enc := by
    rw [y5 hkn];simp [SO.enc, q1]
   refine qOL hon (bs := bs) (c := b) (rest := rest) hn2.2 (qN hn2.1 (qN hd.1 m2)) e hb2 q2.symm b3 (fun i o2 hi hni => ?_) (fun i o2 hi hni => ?_) k o hk
   ·by_cases hij : i = j
    ·subst hij;rw [zEZ] at hi; cases hi; exact zBR
    ·rw [look i hij] at hi;exact hq i o2 hi (by rw [zKI, zKN, not_or]; exact ⟨hij, hni⟩)
   ·by_cases hij : i = j
    ·subst hij;rw [zEZ] at hi; cases hi; exact zBR
    ·rw [look i hij] at hi;exact hqL i o2 hi hni
end
end Go.Sv
namespace Go.Sv
open Go.Idl
noncomputable section
variable [Gc]
variable [Yl]
variable {P : Program} {R : Type} {r : R} {nm : Nm}
def q07 (os : List (Nat × Bool)) (h : SH) : Bool := os.all fun p => match slk p.1 h.l with
 | some ob => (match obD ob with
   | some q => q.2 == p.2
   | none => false)
 | none => false
def qKH (l : List (Nat × Nat)) (env : List SV) (h : SH) : Bool := l.all fun p => cond (Nat.ble mkM p.2) (match zF env p.1 with
 | some (.mp k) => Nat.beq k (p.2 - mkM)
 | _ => false) (match zF env p.1 with
 | some (.own k g _) => Nat.beq k p.2 && (match slk k h.l with
   | some (.list _ _ g' _ _ _) => Nat.beq g g'
   | _ => false)
 | _ => false)
def eT (ls : List Nat) (hh h : SH) : Bool := hh.l.all fun p => qC3 p.1 ls || (match slk p.1 h.l with
 | some o => Nat.beq o.w p.2.w
 | none => false)
omit [Yl] in
theorem qLG {k : Nat} {o : SO} : ∀ {l : List (Nat × SO)}, slk k l = some o -> (k, o) ∈ l
 | (j, p) :: l, h => by
   have h1 : cond (k == j) (some p) (slk k l) = some o := h;clear h
   cases hj : k == j with
   | true =>
     rw [hj] at h1;have h2 : p = o := zK2 h1;have : k = j := by simpa using hj
     rw [this, h2];exact zKF
   | false =>
     rw [hj] at h1;exact zJ9 _ (qLG (l := l) h1)
omit [Yl] in
theorem qES : ∀ {ks : List Nat} {h : SH} {os : List (Nat × Bool)}, q2Y ks h = some os -> os.map (·.1) = ks
 | [], h, os, e => by cases e; rfl
 | k :: ks, h, os, e => by
   unfold q2Y at e;split at e
   ·rename_i hk hl;split at e
    ·cases e;rw [zKI, qES hl]
    ·cases e
   ·cases e
omit [Yl] in
theorem qKY : ∀ {ks : List Nat} {h : SH} {os : List (Nat × Bool)}, q2Y ks h = some os -> q07 os h = true
 | [], h, os, e => by cases e; rfl
 | k :: ks, h, os, e => by
   unfold q2Y at e;split at e
   ·rename_i ob os' hk hl;split at e
    ·rename_i p hp;cases e;have ih := qKY hl;unfold q07 at ih ⊢;rw [zK6, ih];simp only [hk, hp];simp
    ·cases e
   ·cases e
omit [Yl] in
theorem qRM : ∀ {ks : List Nat} {h : SH} {b : List SV}, qWC ks h = some b -> ∀ (i : Nat) k, ks[i]? = some k -> ∃ ob p, slk k h.l = some ob ∧ obD ob = some p ∧ b[i]? = some p.1
 | [], h, b, e, i, k, hk => by simp at hk
 | j :: ks, h, b, e, i, k, hk => by
   unfold qWC at e;split at e
   ·rename_i ob l hj hl;split at e
    ·rename_i p hp;cases e
     cases i with
     | zero =>
       simp at hk;subst hk;exact ⟨ob, p, hj, hp, rfl⟩
     | succ i => exact qRM hl i k (by simpa using hk)
    ·cases e
   ·cases e
omit [Yl] in
theorem qN8 : ∀ {ks : List Nat} {h : SH} {b : List SV}, qWC ks h = some b -> b.length = ks.length
 | [], h, b, e => by cases e; rfl
 | k :: ks, h, b, e => by
   unfold qWC at e;split at e
   ·rename_i hk hl;split at e
    ·cases e;simp only [zKM, qN8 hl]
    ·cases e
   ·cases e
theorem qL8 {h h2 : SH} {env : List SV} (ho : OkH P h) (ho2 : OkH P h2) (hs : ∀ k o, slk k h2.l = some o -> qA k (qD h.l) = some o.enc) (hen : okL h env) : ∀ {l : List (Nat × Nat)} {m e2 : List SV}, qKH l env h = true -> qZX l h2 m = some e2 -> WkP (qB env) (qB m) -> WkP (qB env) (qB e2)
 | [], m, e2, _, e, hw => by cases e; exact hw
 | (i, k) :: l, m, e2, hc, e, hw => by
   unfold qKH at hc;rw [zK6, zJ1] at hc;unfold qZX at e;have c0 := hc.1;simp only at c0
   cases hmk : Nat.ble mkM k with
   | true =>
     rw [hmk] at e c0;simp only [cond_true] at e c0;refine qL8 ho ho2 hs hen hc.2 e ?_;split at c0
     ·rename_i k' hi;have hkk := zJ2 c0;rw [kC];refine qE7 hw ?_;rw [zJ, hi, hkk];rfl
     ·cases c0
   | false =>
   rw [hmk] at e c0;simp only [cond_false] at e c0;split at e
   ·rename_i el gr g w u xs hk;refine qL8 ho ho2 hs hen hc.2 e ?_;have c1 := c0;split at c1
    ·rename_i k' g' n' hi;have c3 : qJ9 k (.own k' g' n') h = true := c1;rw [kC];refine qE7 hw ?_;rw [zJ, hi];show some (SV.own k' g' n').enc = _;rw [qLL ho ho2 (dK hen hi) c3 hk (hs k _ hk)]
    ·cases c1
   ·cases e
theorem qR2 {W : List Nat} {sh : Sh} {ts : List Ty} {os : List (Nat × Bool)} {zAF e2 b c : List SV} {h1 h h2 : SH} {s : TyL ts} (ho : OkH P h) (ho1 : OkH P h1)
 (hb : qWC sh.o h = some b) (hcB : qZ1 sh.b h = some c) (w2 : qB (eB sh.d (svL ts s) (blank W 0 zAF)).2 = qB (b ++ c)) (hm : mkS P W sh ts os zAF h1 s = some (e2, h2)) (hos : os.map (·.1) = sh.o) (hgr : q07 os h = true) (hbx : qFA (sh.b.map (·.1)) sh.b h1 h = true)
 (hkept : ∀ k o, k ∉ sh.o -> k ∉ sh.b.map (·.1) -> slk k h1.l = some o -> qA k (qD h.l) = some o.enc) :
 OkH P h2 ∧ qZX sh.s h2 (eB sh.d (svL ts s) (blank W 0 zAF)).1 = some e2 ∧ ∀ k o, slk k h2.l = some o -> qA k (qD h.l) = some o.enc := by
 unfold mkS at hm;split at hm
 case h_2 => cases hm
 rename_i h3 hso;split at hm
 case h_2 => cases hm
 rename_i h4 hsb;split at hm
 case h_2 => cases hm
 rename_i e3 hss;cases hm;have hlen : os.length = b.length := by rw [qN8 hb, <- hos, zKK]
 have t1 : qB ((eB sh.d (svL ts s) (blank W 0 zAF)).2.take os.length) = qB b := by
  rw [qTW, w2, qZ, qZ, zK8, hlen, <- zKK (as := b) (f := SV.enc), List.take_left]
 have t2 : qB ((eB sh.d (svL ts s) (blank W 0 zAF)).2.drop os.length) = qB c := by
  rw [qT4, w2, qZ, qZ, zK8, hlen, <- zKK (as := b) (f := SV.enc), List.drop_left]
 have zE0 : ∀ k o, ¬ k ∈ sh.b.map (·.1) -> slk k h3.l = some o -> qA k (qD h.l) = some o.enc := by
  refine qNT (B := fun k => k ∈ sh.b.map (·.1)) hso (fun k o hB hk hk2 => hkept k o (by rw [<- hos]; exact hk) hB hk2) ?_;intro i k gr x hi hx;have hki : sh.o[i]? = some k := by rw [<- hos, zKG, hi]; rfl
  obtain ⟨ob, p, q1, q0, q2⟩ := qRM hb i k hki
  have hce : x.enc = p.1.enc := by
   have e1 : (qB b)[i]? = some p.1.enc := by rw [qZ, zKG, q2]; rfl
   rw [<- t1, qZ, zKG, hx] at e1;exact zK2 e1
  have hg : p.2 = gr := by
   unfold q07 at hgr;have := zJ4.1 hgr (k, gr) (zKZ hi);simp only [q1, q0] at this;simpa using this
  rw [hce, y5 q1, <- hg, q81 q0]
 obtain ⟨k3, ho3, _⟩ := qL9 ho1 hso;have hrest : okL h3 ((eB sh.d (svL ts s) (blank W 0 zAF)).2.drop os.length) := qMX _ (qAN (qA6 ts s));have hsub := qOL (L := sh.b.map (·.1)) ho (c := c) (rest := []) ho3 hrest hsb hcB (by rw [zLM]; exact t2.symm) hbx (fun k o hk hn => zE0 k o hn hk) (fun k o hk hn => zE0 k o hn hk);obtain ⟨_, ho4, _⟩ := qKW ho3 hrest hsb;exact ⟨ho4, hss, hsub⟩
theorem qE8 {h h2 : SH} (hsub : ∀ k o, slk k h2.l = some o -> qA k (qD h.l) = some o.enc) : oG (qD h2.l) (qD h.l) := fun k ob hk => by
 rw [uQ] at hk;obtain ⟨o, h1, h2⟩ := zKA.1 hk;rw [hsub k o h1, h2]
theorem q66 {W : List Nat} {sh : Sh} {ts : List Ty} {os : List (Nat × Bool)} {zAF env e2 a b c : List SV} {h1 h h2 : SH} {s : TyL ts} (ho : OkH P h) (ho1 : OkH P h1) (hen : okL h env)
 (ha : qJR sh.d env = some a) (hb : qWC sh.o h = some b) (hcB : qZ1 sh.b h = some c) (hd : qCM ts (a ++ (b ++ c)) = some s) (hm : mkS P W sh ts os zAF h1 s = some (e2, h2)) (hos : os.map (·.1) = sh.o) (hgr : q07 os h = true) (hown : qKH sh.s env h = true) (hbx : qFA (sh.b.map (·.1)) sh.b h1 h = true)
 (hkept : ∀ k o, k ∉ sh.o -> k ∉ sh.b.map (·.1) -> slk k h1.l = some o -> qA k (qD h.l) = some o.enc) (hbl : WkP (qB env) (qB (blank W 0 zAF))) :
 WkP (qB env) (qB e2) ∧ oG (qD h2.l) (qD h.l) := by
 have hde := mU hd;obtain ⟨w1, w2⟩ := qR7 (m := svL ts s) ha hde hbl;obtain ⟨ho4, hss, hsub⟩ := qR2 ho ho1 hb hcB w2 hm hos hgr hbx hkept;exact ⟨qL8 ho ho4 hsub hen hown hss w1, qE8 hsub⟩
theorem dR {W : List Nat} {sh : Sh} {ts : List Ty} {os : List (Nat × Bool)} {zAF e2 : List SV} {h1 h2 : SH} {s : TyL ts} (ho1 : OkH P h1) (he1 : okL h1 zAF) (hm : mkS P W sh ts os zAF h1 s = some (e2, h2)) :
 Keep h1 h2 ∧ OkH P h2 ∧ okL h2 e2 ∧ e2.length = zAF.length ∧ (∀ j, j ∉ W -> j ∉ sh.d -> j ∉ sh.s.map (·.1) -> zF (qB e2) j = zF (qB zAF) j) ∧ ∀ k, k ∉ os.map (·.1) -> k ∉ sh.b.map (·.1) -> slk k h2.l = slk k h1.l := by
 unfold mkS at hm;split at hm
 case h_2 => cases hm
 rename_i h3 hso;split at hm
 case h_2 => cases hm
 rename_i h4 hsb;split at hm
 case h_2 => cases hm
 rename_i e3 hss;cases hm;obtain ⟨a1, a2, a3⟩ := qL9 ho1 hso;have hrest : okL h3 ((eB sh.d (svL ts s) (blank W 0 zAF)).2.drop os.length) := qMX _ (qAN (qA6 ts s));obtain ⟨c1, c2, c3⟩ := qKW a2 hrest hsb;have hok : okL h2 (eB sh.d (svL ts s) (blank W 0 zAF)).1 := qLK (qA6 ts s) (qMW (qN c1 (qN a1 he1)));obtain ⟨b1, b2, b3⟩ := qKX c2 hok hss;refine ⟨a1.trans c1, c2, b1, by rw [b2, qF5, qBR], fun j hj hjd hjs => ?_, fun k hk hk2 => (c3 k hk2).trans (a3 k hk)⟩;rw [zJ, zJ, b3 j hjs, qET hjd, qBA]
 have : qC3 (0 + j) W = false := by
  cases hq : qC3 (0 + j) W with
  | false => rfl
  | true => rw [zKP] at hq; exact absurd (wO.1 hq) hj
 rw [this];cases zF zAF j <;> rfl
theorem qOY {W : List Nat} {env zAF : List SV} (hl : env.length = zAF.length) (h : ∀ i, i ∉ W -> zF (qB env) i = zF (qB zAF) i) : WkP (qB env) (qB (blank W 0 zAF)) := by
 refine qSF (by rw [qY, qY, qBR, hl]) fun i => ?_
 rw [zJ (blank W 0 zAF), qBA, zKP]
 cases hq : qC3 i W with
 | true =>
   cases hx : zF zAF i with
   | none =>
     left
     have : zF env i = none := by
      rw [qF] at hx ⊢;rw [zMP] at hx ⊢;omega
     rw [zJ, this]; rfl
   | some x => right; simp [SV.enc]
 | false =>
   left
   have hni : i ∉ W := fun hm => by
    rw [wO.2 hm] at hq;cases hq
   rw [h i hni, zJ zAF];cases zF zAF i <;> rfl
end
end Go.Sv
namespace Go.Sv
open Go.Idl
noncomputable section
abbrev uN (Γ : Option Type) (R : Type) := zA7 -> GV Γ -> List SV -> SH -> q97 R
def q97.sum {R : Type} {α β : Type} (x : α ⊕ β) (f : α -> q97 R) (g : β -> q97 R) : q97 R := Sum.rec f g x
variable [Gc]
variable [Yl]
variable {P : Program} {Γ : Option Type} {R : Type} {r : R} {nm : Nm} {G : Nat -> Bool} {rd : Bool} {N : Nat} {rs : List Ty} {wd : Wld (GV Γ)}
def EQ (P : Program) (N : Nat) (w : List Nat) (env : List SV) (h : SH) (K : uN Γ R) (r : R) : YQ (GV Γ) := fun e g pe ph =>
 ∃ env' h', pe = qB env' ∧ ph = qD h'.l ∧ okL h' env' ∧ OkH P h' ∧ env'.length = N ∧ Keep h h' ∧ (e ≠ .ret -> jR P w env h env' h') ∧ (K e g env' h').run = some r
def q84 (id : Nat) (K : uN Γ R) : uN Γ R := fun e g env h => match e with
 | .exit i => cond (Nat.beq i id) (K .normal g env h) (K (.exit i) g env h)
 | e => K e g env h
def q31 : List Nat -> Nat -> (Nat -> q97 R) -> q97 R
 | [], _, _ => .fail
 | a :: l, j, K => .ite (Nat.beq j a) (K a) (q31 l j K)
omit [Yl] in
theorem qOK : ∀ {l : List Nat} {j : Nat} {K : Nat -> q97 R}, (q31 l j K).run = some r -> (K j).run = some r
 | [], j, K, e => by cases e
 | a :: l, j, K, e => by
   rcases run_ite e with ⟨z, e1⟩ | ⟨z, e1⟩
   ·rw [zJ2 z]; exact e1
   ·exact qOK e1
def bk (sh : Sh) (os : List (Nat × Bool)) (ts : List Ty) (mk : TyL ts -> Option (List SV × SH)) (h1 hh : SH) (env : List SV) (h : SH) : Option (TyL ts) := match qJR sh.d env, qWC sh.o h, qZ1 sh.b h with
 | some a, some b, some c => (match qCM ts (a ++ (b ++ c)) with
   | some s => cond (q07 os h && (qKH sh.s env h && (qFA (sh.b.map (·.1)) sh.b h1 h && (eT (sh.o ++ sh.b.map (·.1)) hh h && (mk s).isSome)))) (some s) none
   | none => none)
 | _, _, _ => none
def mkL : Nat := 2000000000000000
def lbL (y : Nat) : Nat := y - mkL
def oF : List (Nat × TypeId) -> List SV -> SH -> List SV -> List SV
 | [], _, _, e => e
 | (i, y) :: l, e0, h, e => cond (Nat.ble mkL y) (match slk (lbL y) h.l, zF e0 i with
   | some (.list _ _ g _ _ xs), some (.sl _ _ _ o m) => oF l e0 h (y9 e i (.sl (lbL y) g (List.length xs) o m))
   | _, _ => oF l e0 h e) (oF l e0 h e)
def slG : List (Nat × TypeId) -> List SV -> SH -> Bool
 | [], _, _ => true
 | (i, y) :: l, e0, h => cond (slG l e0 h) (cond (Nat.ble mkL y) (match slk (lbL y) h.l, zF e0 i with
   | some (.list _ _ _ _ _ xs), some (.sl _ _ _ o m) => Nat.ble (o + m) (List.length xs)
   | _, _ => false) true) false
def q89 (k : Nat) (v : SV) (h : SH) : Bool := match v with
 | .sl k' g n _ _ => qJ9 k (.own k' g n) h
 | _ => false
def q06 (l : List (Nat × TypeId)) (env : List SV) (h : SH) : Bool := l.all fun p => cond (Nat.ble mkL p.2) (match zF env p.1 with
 | some v => q89 (lbL p.2) v h
 | none => false) true
def slW (wb : List Nat) (l : List (Nat × TypeId)) : Bool := l.all fun p => cond (Nat.ble mkL p.2) (!qC3 p.1 wb) true
def isP (k o m : Nat) (x : Option SV) : Prop := ∃ g n, x = some (.sl k g n o m)
omit [Yl] in
theorem qOM {k o m j g0 n0 k0 : Nat} {e0 : List SV} {h : SH} (h0 : zF e0 j = some (.sl k0 g0 n0 o m)) : ∀ {l : List (Nat × TypeId)} {e : List SV}, (∀ y, (j, y) ∈ l -> Nat.ble mkL y = true -> lbL y = k) -> isP k o m (zF e j) -> isP k o m (zF (oF l e0 h e) j)
 | [], e, _, he => he
 | (i, y) :: l, e, hy, he => by
   have ih := fun {e : List SV} => qOM (k := k) (h := h) h0 (l := l) (e := e) fun y hm => hy y (zJ9 _ hm)
   unfold oF
   cases hb : Nat.ble mkL y with
   | false => exact ih he
   | true =>
     simp only [cond_true];split
     ·rename_i hk hi;refine ih ?_;by_cases hij : i = j
      ·subst hij;rw [h0] at hi;cases hi;rw [hy y zKF hb];obtain ⟨g, n, h2⟩ := he
       have hlt : i < e.length := by
        rw [qF] at h2;exact (zJ6.1 h2).1
       exact ⟨_, _, by rw [zC, qF, List.getElem?_set_self hlt]⟩
      ·rw [zC, qF, List.getElem?_set_ne hij, <- qF]; exact he
     ·exact ih he
omit [Yl] in
theorem qM5 {k o m j y0 g0 n0 k0 : Nat} {e0 : List SV} {h : SH} (h0 : zF e0 j = some (.sl k0 g0 n0 o m)) : ∀ {l : List (Nat × TypeId)} {e : List SV}, (∀ y, (j, y) ∈ l -> Nat.ble mkL y = true -> lbL y = k) -> (j, y0) ∈ l -> Nat.ble mkL y0 = true -> slG l e0 h = true -> j < e.length -> isP k o m (zF (oF l e0 h e) j)
 | (i, y) :: l, e, hy, hm, hy0, hg, hlt => by
   have hy' : ∀ y, (j, y) ∈ l -> Nat.ble mkL y = true -> lbL y = k := fun y hm => hy y (zJ9 _ hm)
   unfold slG at hg
   cases hgl : slG l e0 h with
   | false => rw [hgl] at hg; cases hg
   | true =>
   rw [hgl, cond_true] at hg;have len : ∀ {x : SV}, j < (y9 e i x).length := fun {x} => by rw [jI]; exact hlt
   rcases zKN.1 hm with hq | hq
   ·cases hq;unfold oF;rw [hy0, cond_true] at hg ⊢;split at hg
    ·rename_i el gr g w t xs k2 g2 n2 o2 m2 hk hi;rw [h0] at hi;cases hi;refine qOM h0 hy' ?_;rw [hy y0 zKF hy0];exact ⟨_, _, by rw [zC, qF, List.getElem?_set_self hlt]⟩
    ·cases hg
   ·unfold oF
    cases hb : Nat.ble mkL y with
    | false => exact qM5 h0 hy' hq hy0 hgl hlt
    | true =>
      simp only [cond_true];split
      ·exact qM5 h0 hy' hq hy0 hgl len
      ·exact qM5 h0 hy' hq hy0 hgl hlt
omit [Yl] in
theorem qHD {j : Nat} {e0 : List SV} {h : SH} : ∀ {l : List (Nat × TypeId)} {e : List SV}, j ∉ l.map (·.1) -> zF (oF l e0 h e) j = zF e j
 | [], e, _ => rfl
 | (i, y) :: l, e, hj => by
   rw [zKI, zKN, not_or] at hj;unfold oF
   cases Nat.ble mkL y with
   | false => exact qHD hj.2
   | true =>
     simp only [cond_true];split
     ·rw [qHD hj.2, zC, qF, List.getElem?_set_ne (fun q => hj.1 q.symm), <- qF]
     ·exact qHD hj.2
omit [Yl] in
theorem qSV {e0 : List SV} {h : SH} (ho : OkH P h) : ∀ {l : List (Nat × TypeId)} {e : List SV}, okL h e -> slG l e0 h = true -> okL h (oF l e0 h e) ∧ (oF l e0 h e).length = e.length
 | [], e, he, _ => ⟨he, rfl⟩
 | (i, y) :: l, e, he, hg => by
   unfold slG at hg
   cases hgl : slG l e0 h with
   | false => rw [hgl] at hg; cases hg
   | true =>
   rw [hgl, cond_true] at hg;unfold oF
   cases hb : Nat.ble mkL y with
   | false => exact qSV ho he hgl
   | true =>
     rw [hb, cond_true] at hg;simp only [cond_true];split at hg
     ·rename_i el gr g w t xs k' g' n' o m hk hi
      have hv : (SV.sl (lbL y) g (List.length xs) o m).ok h := by
       simp only [SV.ok];refine ⟨⟨(ho.list _ _ _ _ _ _ _ hk).1, fun el2 gr2 w2 t2 xs2 h2 => ?_⟩, zKB hg⟩;rw [hk] at h2;cases h2;rfl
      obtain ⟨a1, a2⟩ := qSV ho (xS (t := i) he hv) hgl;exact ⟨a1, a2.trans (jI _ _ _)⟩
     ·cases hg
theorem qVY {h h3 : SH} {env e0 : List SV} (ho : OkH P h) (ho3 : OkH P h3) (hs : oG (qD h3.l) (qD h.l)) (hen : okL h env) : ∀ {l : List (Nat × TypeId)} {m : List SV}, q06 l env h = true ->
 (∀ i y k g n o q, (i, y) ∈ l -> Nat.ble mkL y = true -> zF e0 i = some (.sl k g n o q) -> ∃ k' g' n', zF env i = some (.sl k' g' n' o q)) -> WkP (qB env) (qB m) -> WkP (qB env) (qB (oF l e0 h3 m))
 | [], m, _, _, hw => hw
 | (i, y) :: l, m, hc, hom, hw => by
   unfold q06 at hc;rw [zK6, zJ1] at hc;have zH0 := fun i y k g n o q hm => hom i y k g n o q (zJ9 _ hm)
   have ih := fun {m : List SV} => qVY ho ho3 hs hen (l := l) (m := m) hc.2 zH0
   unfold oF
   cases hb : Nat.ble mkL y with
   | false => exact ih hw
   | true =>
     have c0 := hc.1;simp only [hb, cond_true] at c0 ⊢;split
     ·rename_i el gr g w t xs k0 g0 n0 o q hk hi;refine ih ?_;obtain ⟨k', g', n', hi2⟩ := hom i y _ _ _ _ _ zKF hb hi;rw [hi2] at c0;have c3 : qJ9 (lbL y) (.own k' g' n') h = true := c0
      have hv : (SV.own k' g' n').ok h := by
       have := dK hen hi2;simp only [SV.ok] at this ⊢;exact this.1
      have he := qLL ho ho3 hv c3 hk (hs _ _ (y5 hk));rw [kC];refine qE7 hw ?_;rw [zJ, hi2, zKD];simp only [SV.enc, PV.own.injEq] at he ⊢;obtain ⟨e1, e2, _, _⟩ := he;rw [e1, e2]
     ·exact ih hw
theorem qVS {l : List (Nat × TypeId)} {env : List SV} {h : SH} (hc : q06 l env h = true) {i y : Nat} (hm : (i, y) ∈ l) (hb : Nat.ble mkL y = true) : ∃ g n o q, zF env i = some (.sl (lbL y) g n o q) := by
 unfold q06 at hc;have := zJ4.1 hc (i, y) hm;simp only [hb, cond_true] at this;split at this
 ·rename_i v hv;unfold q89 at this;split at this
  ·rename_i k g n o q;unfold qJ9 at this;simp only [zJ1] at this;have hk := zJ2 this.1;rw [hk] at hv;exact ⟨g, n, o, q, hv⟩
  ·exact absurd this zML
 ·exact absurd this zML
def qRQ (rdv : List SV -> SH -> Option (TyL rs)) (id : Nat) (sh : Sh) (os : List (Nat × Bool)) (ts : List Ty) (mk : TyL ts -> Option (List SV × SH)) (h1 hh : SH) : uN Γ (GS Γ (TyL ts) ⊕ (GS Γ (TyL ts) ⊕ (GS Γ (TyL rs) ⊕ GS Γ (Nat × TyL ts)))) := fun e g env h => match e with
 | .normal => cond (q06 sh.v env h) (match bk sh os ts mk h1 hh env h with
   | some s => .ret (.inl (gj g s))
   | none => .fail) .fail
 | .exit j => cond (q06 sh.v env h) (match bk sh os ts mk h1 hh env h with
   | some s => .ret (.inr (cond (Nat.beq j id) (.inl (gj g s)) (.inr (.inr (gj g (j, s))))))
   | none => .fail) .fail
 | .ret => (match rdv env h with
   | some v => .ret (.inr (.inr (.inl (gj g v))))
   | none => .fail)
 | .goto _ => .fail
def goS {α : Type} (o : Option (α × SH)) (K : α -> SH -> q97 R) : q97 R := match o with
 | some p => K p.1 p.2
 | none => .fail
omit [Yl] in
theorem qAQ {α : Type} {o : Option (α × SH)} {K : α -> SH -> q97 R} (e : (goS o K).run = some r) : ∃ a h, o = some (a, h) ∧ (K a h).run = some r := by
 unfold goS at e;split at e
 ·exact ⟨_, _, rfl, e⟩
 ·cases e
def q5D (P : Program) (nm : Nm) (wb w : List Nat) (rdv : List SV -> SH -> Option (TyL rs)) (en : TyL rs -> List SV) (hb : SH) (sh : Sh) (id : Nat) (body : ∀ {R' : Type}, GV Γ -> List SV -> SH -> uN Γ R' -> q97 R') (g : GV Γ) (env : List SV) (h : SH) (K : uN Γ R) : q97 R :=
 qQN P nm sh.v env h fun zAF h0 => qU6 P nm (sh.b.map (·.1)) sh.bv zAF h0 fun zAF h1 => match qJR sh.d zAF, qWC sh.o h1, qZ1 sh.b h1, q2Y sh.o h1 with
  | some a, some b, some c, some os => (match q8G (a ++ (b ++ c)) with
    | some ts => (match qCM ts (a ++ (b ++ c)) with
      | some s0 => cond ((qKH sh.s zAF h1 && qFA (sh.b.map (·.1)) sh.b h1 h1) && (q06 sh.v zAF h1 && slW wb sh.v))
         (.loop (fun s => goS (mkS P w sh ts os zAF h1 (g2 s)) fun e hh => .ite (slG sh.v zAF hh) (body (g1 s) (oF sh.v zAF hh e) hh (qRQ rdv id sh os ts (mkS P w sh ts os zAF h1) h1 hh)) .fail) (gj g s0)
           fun q => q97.sum q (fun s => goS (mkS P w sh ts os zAF h1 (g2 s)) fun e hh => .ite (slG sh.v zAF hh) (K .normal (g1 s) (oF sh.v zAF hh e) hh) .fail)
            fun q2 => q97.sum q2 (fun v => K .ret (g1 v) (en (g2 v)) ⟨h.next, hb.l⟩)
             fun p => q31 sh.ex (g2 p).1 fun j => goS (mkS P w sh ts os zAF h1 (g2 p).2) fun e hh => .ite (slG sh.v zAF hh) (K (.exit j) (g1 p) (oF sh.v zAF hh e) hh) .fail) .fail
      | none => .fail)
    | none => .fail)
  | _, _, _, _ => .fail
def lpW (w : List Nat) (sh : Sh) : List Nat := sh.v.map (·.1) ++ (w ++ (sh.d ++ sh.s.map (·.1)))
structure zC5 (P : Program) (nm : Nm) (N : Nat) (hb : SH) (rdv : List SV -> SH -> Option (TyL rs)) (en : TyL rs -> List SV) : Prop where
 ob : OkH P hb
 wk : ∀ env h v, OkH P h -> okL h env -> env.length = N -> Keep hb h -> rdv env h = some v -> Wk P nm (qB env) (qD h.l) (qB (en v)) (qD hb.l)
 kept : ∀ env h v, OkH P h -> okL h env -> Keep hb h -> rdv env h = some v -> ∀ k o, slk k hb.l = some o -> slk k h.l = some o
 len : ∀ v, (en v).length = N
 ok : ∀ v h, okL h (en v)
omit [Yl] in
theorem q5H {h : SH} (a : OkH P h) {n : Nat} (hn : h.next <= n) : OkH P ⟨n, h.l⟩ := by
 have hk : ∀ {x : SV}, x.ok h -> x.ok ⟨n, h.l⟩ := fun {x} hx => SV.ok.keep (h := h) (h' := ⟨n, h.l⟩) ⟨hn, fun k ob hh _ => hh, fun k el gr g w t xs hh _ => ⟨w, xs, hh, rfl⟩⟩ hx
 exact ⟨fun k ob hh => zJ7 (a.ver k ob hh) hn, fun k el w l hh => yF.2 fun x hx => hk (yF.1 (a.cells k el w l hh) x hx), fun k el gr g w t xs hh => by
  have := a.list k el gr g w t xs hh
  exact ⟨zJ7 this.1 hn, this.2⟩⟩
omit [Yl] in
theorem qA8 : OkH P ⟨0, []⟩ := ⟨fun k ob h => (by cases h), fun k el w l h => (by cases h), fun k el gr g w t xs h => (by cases h)⟩
omit [Yl] in
theorem qQS {σ ρ : Type} {f : σ -> Option (σ ⊕ ρ)} {s : σ} {q : ρ} (h : zW f s = some q) : ∃ y, f s = some y := by
 rw [wP] at h
 cases hf : f s with
 | none => rw [hf] at h; cases h
 | some y => exact ⟨y, rfl⟩
omit [Yl] in
theorem qNK {ls : List Nat} {hh h : SH} {k : Nat} {o : SO} (ho : OkH P hh) (hk : Keep hh h) (e : eT ls hh h = true) (h1 : k ∉ ls) (h2 : slk k hh.l = some o) : slk k h.l = some o := by
 unfold eT at e;have := zJ4.1 e (k, o) (qLG h2);rw [zK7] at this;rcases this with q | q
 ·exact absurd (wO.1 q) h1
 ·simp only at q;split at q
  ·rename_i o' ho';have hw : o'.w = o.w := zJ2 q;have := hk.same k o' ho' (by rw [hw]; exact ho.ver k o h2);rw [this] at h2;cases h2;exact ho'
  ·cases q
theorem qAG {ls : List Nat} {hh h : SH} {k : Nat} {o : SO} (ho : OkH P hh) (hk : Keep hh h) (e : eT ls hh h = true) (h1 : k ∉ ls) (h2 : slk k hh.l = some o) : qA k (qD h.l) = some o.enc := y5 (qNK ho hk e h1 h2)
theorem qXP {w : List Nat} {rdv : List SV -> SH -> Option (TyL rs)} {en : TyL rs -> List SV} {hb : SH} (hrd : zC5 P nm N hb rdv en) {sh : Sh} {id : Nat} {y : Code} {body : ∀ {R' : Type}, GV Γ -> List SV -> SH -> uN Γ R' -> q97 R'} {wb : List Nat} (hwb : w = lpW wb sh)
 (hbody : ∀ {R' : Type} {g : GV Γ} {env : List SV} {h : SH} {K : uN Γ R'} {r : R'}, OkH P h -> okL h env -> env.length = N -> Keep hb h -> (body g env h K).run = some r -> qR P G rd nm wd y g (qB env) (qD h.l) (EQ P N wb env h K r))
 {g : GV Γ} {env : List SV} {h : SH} {K : uN Γ R} (ho : OkH P h) (he : okL h env) (hl : env.length = N) (hbh : Keep hb h) (e : (q5D P nm wb w rdv en hb sh id body g env h K).run = some r) :
 qR P G rd nm wd (.block id (.loop y)) g (qB env) (qD h.l) (EQ P N w env h K r) := by
 obtain ⟨zAF, h0, wk1, zB7, e⟩ := rY (nm := nm) ho he e;obtain ⟨h1, wk2, kp2, ho1, e⟩ := qHF (nm := nm) zB7.2.1 zB7.1 e
 have zB0 : jR P (sh.v.map (·.1)) env h zAF h1 := ⟨qN kp2 zB7.1, ho1, zB7.2.2.1.trans kp2, zB7.2.2.2.1, zB7.2.2.2.2⟩
 split at e
 case h_2 => cases e
 rename_i a b c os ha hb1 hc1 hos;split at e
 case h_2 => cases e
 rename_i ts hts;split at e
 case h_2 => cases e
 rename_i s0 hs0;obtain ⟨hown, e1⟩ := qG e;rw [zJ1, zJ1, zJ1] at hown;obtain ⟨hown, hsl⟩ := hown;obtain ⟨q, hq, hafter⟩ := qW2 e1;have he1 := zB0.1;have zC6 := qES hos;have hl1 : zAF.length = N := zB0.2.2.2.2.trans hl;have zGM : Keep hb h1 := hbh.trans zB0.2.2.1
 let E : GS Γ (TyL ts) -> List PV := fun s => match mkS P w sh ts os zAF h1 (g2 s) with
  | some p => qB (oF sh.v zAF p.2 p.1)
  | none => []
 let Ph : GS Γ (TyL ts) -> PHp := fun s => match mkS P w sh ts os zAF h1 (g2 s) with
  | some p => qD p.2.l
  | none => []
 have hE : ∀ {s e2 h2}, mkS P w sh ts os zAF h1 (g2 s) = some (e2, h2) -> E s = qB (oF sh.v zAF h2 e2) ∧ Ph s = qD h2.l := fun hm => by
  simp only [E, Ph, hm, and_self]
 obtain ⟨y0, hy0⟩ := qQS hq;obtain ⟨e0, hh0, hm0, _⟩ := qAQ hy0;obtain ⟨wp0, sp0⟩ := q66 ho1 ho1 he1 ha hb1 hc1 hs0 (by rw [q0T] at hm0; exact hm0) zC6 (qKY hos) hown.1 hown.2 (fun k o _ _ hk => y5 hk) (qOY rfl fun _ _ => rfl);have wp0 := qVY ho1 (dR ho1 he1 hm0).2.1 sp0 he1 hsl.1 (fun i y k g n o q _ _ hi => ⟨k, g, n, hi⟩) wp0
 have fin : ∀ {s e2 h2}, mkS P w sh ts os zAF h1 s = some (e2, h2) -> slG sh.v zAF h2 = true -> okL h2 (oF sh.v zAF h2 e2) ∧ OkH P h2 ∧ (oF sh.v zAF h2 e2).length = N ∧ jR P w env h (oF sh.v zAF h2 e2) h2 ∧ Keep h1 h2 := fun {s e2 h2} hm hg => by
  obtain ⟨a1, a2, a3, a4, a5, _⟩ := dR ho1 he1 hm;obtain ⟨b1, b2⟩ := qSV a2 a3 hg;refine ⟨b1, a2, (b2.trans a4).trans hl1, ⟨b1, a2, zB0.2.2.1.trans a1, fun i hi => ?_, (b2.trans a4).trans zB0.2.2.2.2⟩, a1⟩;have hi2 : i ∉ lpW wb sh := by rw [<- hwb]; exact hi
  unfold lpW at hi2;simp only [zLE, not_or] at hi2;rw [zJ, qHD hi2.1, <- zJ, a5 i hi hi2.2.2.1 hi2.2.2.2, zB0.2.2.2.1 i hi2.1]
 refine qR.post (qR.pre' (wk1.trans wk2) ?_);refine qR.loop E Ph g1 hq (by rw [(hE hm0).1]; exact wp0) (by rw [(hE hm0).2]; exact sp0) q3Q.symm ?_;intro s yy hstep;obtain ⟨e2, hh, hm, hb2⟩ := qAQ hstep
 rcases run_ite hb2 with ⟨hgd, hb2⟩ | ⟨_, hb2⟩
 rotate_left 1
 ·cases hb2
 obtain ⟨f1, f2, f3, f4, f5⟩ := fin hm hgd;rw [(hE hm).1, (hE hm).2];refine (hbody f2 f1 f3 (zGM.trans f5) hb2).mono ?_;rintro ex g' pe ph ⟨env', h', rfl, rfl, k1, k2, k3, k0, k4, k5⟩;obtain ⟨_, _, _, m4, m5, m6⟩ := dR ho1 he1 hm
 have back : ∀ {s'}, ex ≠ .ret -> q06 sh.v env' h' = true -> bk sh os ts (mkS P w sh ts os zAF h1) h1 hh env' h' = some s' -> ∃ e3 h3, mkS P w sh ts os zAF h1 s' = some (e3, h3) ∧ WkP (qB env') (qB (oF sh.v zAF h3 e3)) ∧ oG (qD h3.l) (qD h'.l) := by
  intro s' hne zC7 hbk;unfold bk at hbk;split at hbk
  case h_2 => cases hbk
  rename_i a' b' c' ha' hb' hc';split at hbk
  case h_2 => cases hbk
  rename_i s2 hs2
  cases hc : (q07 os h' && (qKH sh.s env' h' && (qFA (sh.b.map (·.1)) sh.b h1 h' && (eT (sh.o ++ sh.b.map (·.1)) hh h' && (mkS P w sh ts os zAF h1 s2).isSome)))) with
  | false => rw [hc] at hbk; cases hbk
  | true =>
    rw [hc] at hbk;cases hbk;simp only [zJ1] at hc;obtain ⟨⟨e3, h3⟩, hm3⟩ := zK1.1 hc.2.2.2.2;have zDV := k4 hne
    have hboth : WkP (qB env') (qB e3) ∧ oG (qD h3.l) (qD h'.l) := by
     refine q66 k2 ho1 k1 ha' hb' hc' hs2 hm3 zC6 hc.1 hc.2.1 hc.2.2.1 (fun k o hk hkb hk2 => qAG f2 zDV.2.2.1 hc.2.2.2.1 (by rw [zLE, not_or]; exact ⟨hk, hkb⟩) ?_) (qOY ?_ ?_)
     ·rw [m6 k (by rw [zC6]; exact hk) hkb]; exact hk2
     ·rw [k3, hl1]
     ·intro i hi;have hi2 : i ∉ lpW wb sh := by rw [<- hwb]; exact hi
      unfold lpW at hi2;simp only [zLE, not_or] at hi2;rw [zDV.2.2.2.1 i hi2.2.1, zJ, qHD hi2.1, <- zJ, m5 i hi hi2.2.2.1 hi2.2.2.2]
    refine ⟨e3, h3, hm3, qVY k2 (dR ho1 he1 hm3).2.1 hboth.2 k1 zC7 (fun i y k g n o q hmem hb hi => ?_) hboth.1, hboth.2⟩;obtain ⟨g2, n2, o2, q2, hi3⟩ := qVS zC7 hmem hb
    have hlab : ∀ y', (i, y') ∈ sh.v -> Nat.ble mkL y' = true -> lbL y' = lbL y := fun y' hm' hb' => by
     obtain ⟨_, _, _, _, p1⟩ := qVS hsl.1 hm' hb';obtain ⟨_, _, _, _, p2⟩ := qVS hsl.1 hmem hb;have p3 := zK2 (p1.symm.trans p2);simp only [SV.sl.injEq] at p3;exact p3.1
    obtain ⟨g3, n3, h5⟩ := qM5 (h := hh) (e := e2) hi hlab hmem hb hgd (by
     rw [m4];rw [qF] at hi
     exact (zJ6.1 hi).1)
    have hnb : i ∉ wb := fun hib => by
     have h6 := hsl.2;unfold slW at h6;have h7 := zJ4.1 h6 (i, y) hmem;simp only [hb, cond_true, wO.2 hib] at h7;cases h7
    have h8 := zDV.2.2.2.1 i hnb;rw [zJ, zJ, hi3, h5] at h8;simp only [zKD, SV.enc, zJ8, PV.own.injEq] at h8;obtain ⟨_, _, e1, e2⟩ := h8;exact ⟨_, _, _, by rw [hi3, e1, e2]⟩
 have out : ∀ {x s' e3 h3}, mkS P w sh ts os zAF h1 s' = some (e3, h3) -> WkP (qB env') (qB (oF sh.v zAF h3 e3)) -> oG (qD h3.l) (qD h'.l) -> (q97.ite (slG sh.v zAF h3) (K x g' (oF sh.v zAF h3 e3) h3) .fail).run = some r -> ∃ pe' ph', Wk P nm (qB env') (qD h'.l) pe' ph' ∧ EQ P N w env h K r x g' pe' ph' := fun {x s' e3 h3} hm3 w1 w2 hk => by
  rcases run_ite hk with ⟨zH1, hk⟩ | ⟨_, hk⟩
  rotate_left 1
  ·cases hk
  obtain ⟨g1, g2, g3, g4, g5⟩ := fin hm3 zH1;exact ⟨_, _, Wk.drop w1 w2, oF sh.v zAF h3 e3, h3, rfl, rfl, g1, g2, g3, g4.2.2.1, fun _ => g4, hk⟩
 cases ex with
 | normal =>
   simp only [qRQ] at k5;obtain ⟨zC7, k5⟩ := qG k5;split at k5
   case h_2 => cases k5
   rename_i s' hs';cases k5;obtain ⟨e3, h3, hm3, w1, w2⟩ := back (fun h => by cases h) zC7 hs';have hm3 : mkS P w sh ts os zAF h1 (g2 (gj g' s')) = some (e3, h3) := by rw [q0T]; exact hm3
   show zA7.normal = .normal ∧ WkP (qB env') (E (gj g' s')) ∧ oG (Ph (gj g' s')) (qD h'.l) ∧ g' = g1 (gj g' s');rw [(hE hm3).1, (hE hm3).2, q3Q];exact ⟨rfl, w1, w2, rfl⟩
 | exit j =>
   simp only [qRQ] at k5;obtain ⟨zC7, k5⟩ := qG k5;split at k5
   case h_2 => cases k5
   rename_i s' hs';obtain ⟨e3, h3, hm3, w1, w2⟩ := back (fun h => by cases h) zC7 hs';cases k5;intro hqe;refine ⟨fun h => by (cases h), ?_⟩
   cases hj : Nat.beq j id with
   | true =>
     rw [hj] at hqe;subst hqe;have hjj : j = id := zJ2 hj;subst hjj;have hafter : (goS (mkS P w sh ts os zAF h1 (g2 (gj g' s'))) fun e hh => q97.ite (slG sh.v zAF hh) (K .normal (g1 (gj g' s')) (oF sh.v zAF hh e) hh) .fail).run = some r := hafter;obtain ⟨e4, h4, hm4, hk⟩ := qAQ hafter;rw [q0T, hm3] at hm4;cases hm4;rw [q3Q] at hk;exact BQY.on (out hm3 w1 w2 hk)
   | false =>
     rw [hj] at hqe;subst hqe;have hjj : j ≠ id := fun h => by rw [h, rC] at hj; cases hj
     obtain ⟨e4, h4, hm4, hk⟩ := qAQ (qOK hafter);rw [q0T, hm3] at hm4;cases hm4;rw [q3Q, q0T] at hk;exact BQY.ex hjj (out hm3 w1 w2 hk)
 | ret =>
   simp only [qRQ] at k5;split at k5
   case h_2 => cases k5
   rename_i v hv;cases k5;intro hqe;subst hqe;have hbr : Keep hb h' := (zGM.trans f5).trans k0;have hkp := hrd.kept _ _ _ k2 k1 hbr hv
   have hkh : ∀ k o, slk k hb.l = some o -> slk k h.l = some o := fun k o hk => by
    have h2 := hkp k o hk;have hw : o.w < h.next := zJ7 (hrd.ob.ver k o hk) hbh.next;have zEK : Keep h h' := (zB0.2.2.1.trans f5).trans k0;exact zEK.same k o h2 hw
   have hkeep : Keep h ⟨h.next, hb.l⟩ := ⟨zJ3 _, fun k ob hk _ => hkh k ob hk, fun k el gr g w t xs hk _ => ⟨w, xs, hkh k _ hk, rfl⟩⟩
   have hafter : (K .ret (g1 (gj g' v)) (en (g2 (gj g' v))) ⟨h.next, hb.l⟩).run = some r := hafter;rw [q3Q, q0T] at hafter;refine ⟨fun h => by (cases h), BQY.rt ⟨_, _, hrd.wk _ _ _ k2 k1 k3 hbr hv, en v, ⟨h.next, hb.l⟩, rfl, rfl, hrd.ok v _, q5H hrd.ob hbh.next, hrd.len v, hkeep, fun h => absurd rfl h, hafter⟩⟩
 | goto l => simp only [qRQ] at k5; cases k5
end
end Go.Sv
namespace Go.Sv
open Go.Idl
noncomputable section
variable [Gc]
variable [Yl]
variable {P : Program} {Γ : Option Type} {R : Type} {r : R} {nm : Nm} {G : Nat -> Bool} {rd : Bool} {N : Nat} {rs : List Ty} {tab : uH} {nat : y7} {good : FuncId -> Bool} {wd : Wld (GV Γ)}
omit [Yl] in
theorem qAJ : ∀ {ts : List Ty} {x : TyL ts} {y : PV}, y ∈ pvL ts x -> ∃ (t : Ty) (z : t.sem), y = t.pv z
 | [], _, _, h => by cases h
 | [t], x, y, h => ⟨t, x, by simpa [pvL] using h⟩
 | t :: u :: ts, x, y, h => by
   have h : y ∈ t.pv x.1 :: pvL (u :: ts) x.2 := h;rcases zKN.1 h with q | q
   ·exact ⟨t, x.1, q⟩
   ·exact qAJ q
omit [Yl] in
theorem qUX (t : Ty) (x : t.sem) : qIC (t.pv x) = true := by
 unfold Ty.pv
 cases t.one with
 | true => rfl
 | false =>
   show ((t.cells x).map PV.f).all qQ5 = true;rw [zJ4];intro y hy;obtain ⟨c, _, rfl⟩ := zKT.1 hy;rfl
omit [Yl] in
theorem q3L {Z : Nat -> Prop} {H : IH} {M M' : Nat -> Option (Nat × PO)} {ts : List Ty} {x : TyL ts} {vs : List Value} (h : VRL P Z H M (pvL ts x) vs) : VRL P Z H M' (pvL ts x) vs := ⟨h.len, fun i y v a b => by
 obtain ⟨t, z, rfl⟩ := qAJ (zKZ a)
 exact bG (h.val i _ v a b) (qUX t z)⟩
omit [Yl] in
theorem qFS : ∀ (ts : List Ty) (x : TyL ts), (svL ts x).length = ts.length
 | [], _ => rfl
 | [_], _ => rfl
 | t :: u :: ts, x => by
   show (t.sv x.1 :: svL (u :: ts) x.2).length = _;simp only [zKM, qFS (u :: ts)]
def qY6 (t : Ty) (x : t.sem) : PV := .lp (t.cells x) 0
def q3Z : (ts : List Ty) -> TyL ts -> List PV
 | [], _ => []
 | [t], x => [qY6 t x]
 | t :: u :: ts, x => qY6 t x.1 :: q3Z (u :: ts) x.2
def qKE : (ts : List Ty) -> TyL ts -> List SV
 | [], _ => []
 | [t], x => [.lp t [x] 0 0]
 | t :: u :: ts, x => .lp t [x.1] 0 0 :: qKE (u :: ts) x.2
theorem qEQ : ∀ (ts : List Ty) (x : TyL ts), qB (qKE ts x) = q3Z ts x
 | [], _ => by simp [qKE, q3Z, qB]
 | [t], x => by simp [qKE, q3Z, qB, SV.enc, qY6]
 | t :: u :: ts, x => by
   show qB (.lp t [x.1] 0 0 :: qKE (u :: ts) x.2) = qY6 t x.1 :: q3Z (u :: ts) x.2;simp only [qB, qEQ (u :: ts)];simp [SV.enc, qY6]
omit [Yl] in
theorem qVJ {h : SH} : ∀ (ts : List Ty) (x : TyL ts), okL h (qKE ts x)
 | [], _ => by simp [qKE, okL]
 | [t], x => by simp [qKE, okL, SV.ok]
 | t :: u :: ts, x => by
   show okL h (.lp t [x.1] 0 0 :: qKE (u :: ts) x.2);simp only [okL, SV.ok, true_and];exact qVJ (u :: ts) x.2
omit [Yl] in
theorem qEN : ∀ (ts : List Ty) (x : TyL ts), (qKE ts x).length = ts.length
 | [], _ => rfl
 | [_], _ => rfl
 | t :: u :: ts, x => by
   show (SV.lp t [x.1] 0 0 :: qKE (u :: ts) x.2).length = _;simp only [zKM, qEN (u :: ts)]
def qBQ (P : Program) (t : Ty) (v : SV) (h : SH) : Option (t.sem × SH) := match v with
 | .ref k off w => (match slk k h.l with
   | some (.cells el _ l) => cond (!spec P el && (Nat.beq off 0 && Nat.beq w l.length)) (match t.zC4 P (vF P 8 el) l (h.del k) with
     | some (x, _, [], h') => some (x, h')
     | _ => none) none
   | _ => none)
 | _ => none
def aO (P : Program) : (ts : List Ty) -> List SV -> SH -> Option (TyL ts × SH)
 | [], [], h => some ((), h)
 | [t], [v], h => qBQ P t v h
 | t :: u :: ts, v :: vs, h => match qBQ P t v h with
   | some (x, h1) => (match aO P (u :: ts) vs h1 with
     | some (y, h2) => some ((x, y), h2)
     | none => none)
   | none => none
 | _, _, _ => none
theorem qBO {t : Ty} {v : SV} {h : SH} {x : t.sem} {h' : SH} (ho : OkH P h) (e : qBQ P t v h = some (x, h')) :
 Keep h h' ∧ OkH P h' ∧ ∀ (Z : Nat -> Prop) (H : IH) (m : Nat -> Nat) (u : Value), Hp P Z H (own m (qD h.l)) -> VR P Z H (own m (qD h.l)) v.enc u -> ∃ Z', Fz P Z H m (qD h.l) Z' (qD h'.l) ∧ VR P Z' H (fun _ => none) (qY6 t x) u := by
 unfold qBQ at e;split at e
 case h_2 => cases e
 rename_i k off w;split at e
 case h_2 => cases e
 rename_i el w0 l hk
 cases hc : (!spec P el && (Nat.beq off 0 && Nat.beq w l.length)) with
 | false => rw [hc] at e; cases e
 | true =>
   rw [hc] at e;simp only [cond_true] at e;rw [zJ1, zKO] at hc;obtain ⟨hsp, hc⟩ := hc;rw [zJ1] at hc;have h1 : off = 0 := zJ2 hc.1;have h2 : w = l.length := zJ2 hc.2;subst h1 h2;split at e
   case h_2 => cases e
   rename_i y zAO h2 hd;cases e;have hd0 := dZ (k := k) ho;obtain ⟨a1, a2, a3, ys, a4, a5⟩ := qB8 hd0.2 (qN hd0.1 (ho.cells _ _ _ _ hk)) hd;refine ⟨hd0.1.trans a2, a3, fun Z H m u hp hv => ?_⟩;have hkp := y5 hk;have zA9 : real (SO.cells el w0 l).enc := fun q => by cases q.1
   obtain ⟨w1, w2, w3, vs, q1, q2, q3⟩ := hp.real hkp zA9 hsp;have hcut := Fz.del hp hkp zA9;have hfz := a4 [] (qD h'.l) (by simp [qB, qDT]);rw [zLM] at hfz;rw [show qD (h.del k).l = rV k (qD h.l) from mY k _] at hfz;obtain ⟨Z2, c2, r2⟩ := qEW (fun a b c => qOI 4 a b c) hcut.hp (hcut.vrl q2) hfz;refine ⟨Z2, hcut.trans c2, ?_⟩;simp only [SV.enc] at hv
   cases hv with
   | ref g1 g2 =>
     obtain ⟨_, g3⟩ := g2 _ _ (qP hkp);obtain ⟨rfl, _⟩ := g3 (by simp [SO.enc, qY]);have hrt := qDC (P := P) (M := fun _ => none) (f := rtC P) (ts := vF P 8 el) (fun t x v h => q0O h) (r2.map (P := P) (M := fun _ => none));have h5 := (a5 []).1;rw [zLM] at h5;rw [h5] at hrt
     have hrt : VRL P Z2 H (fun _ => none) ((t.cells x).map .f) vs := by
      cases zAO <;> simpa [rtL] using hrt
     have hlen : (t.cells x).length = vs.length := by have := hrt.len; simpa using this
     refine .lp (o := 0) (vs := vs) (c2.zle _ (.inr rfl)) w1 ?_ ?_
     ·rw [hlen];exact kV q1 (by omega) (by simp)
     ·intro i y v hy hvv;have := hrt.val i (.f y) v (by rw [zKG, hy]; rfl) hvv
      cases this with
      | f h => exact h
theorem qDY : ∀ {ts : List Ty} {vs : List SV} {h : SH} {x : TyL ts} {h' : SH}, OkH P h -> aO P ts vs h = some (x, h') ->
 Keep h h' ∧ OkH P h' ∧ ∀ (Z : Nat -> Prop) (H : IH) (m : Nat -> Nat) (us : List Value), Hp P Z H (own m (qD h.l)) -> VRL P Z H (own m (qD h.l)) (qB vs) us -> ∃ Z', Fz P Z H m (qD h.l) Z' (qD h'.l) ∧ VRL P Z' H (fun _ => none) (q3Z ts x) us
 | [], [], h, x, h', ho, e => by
   unfold aO at e;cases e;refine ⟨.refl _, ho, fun Z H m us hp hv => ⟨Z, .refl hp, ?_⟩⟩;simp only [qB] at hv;rw [hv.zAD];exact .nil
 | [t], [v], h, x, h', ho, e => by
   unfold aO at e;obtain ⟨a1, a2, a3⟩ := qBO ho e;refine ⟨a1, a2, fun Z H m us hp hv => ?_⟩;simp only [qB] at hv;obtain ⟨u, us', rfl, b1, b2⟩ := hv.zAA;obtain ⟨Z', c1, c2⟩ := a3 Z H m u hp b1;rw [b2.zAD];exact ⟨Z', c1, .cons c2 .nil⟩
 | t :: u :: ts, v :: vs, h, x, h', ho, e => by
   unfold aO at e;split at e
   case h_2 => cases e
   rename_i x1 h1 hd;split at e
   case h_2 => cases e
   rename_i y h2 hd2;cases e;obtain ⟨a1, a2, a3⟩ := qBO ho hd;obtain ⟨b1, b2, b3⟩ := qDY a2 hd2;refine ⟨a1.trans b1, b2, fun Z H m us hp hv => ?_⟩;simp only [qB] at hv;obtain ⟨w, us', rfl, d1, d2⟩ := hv.zAA;obtain ⟨Z1, c1, c2⟩ := a3 Z H m w hp d1;obtain ⟨Z2, f1, f2⟩ := b3 Z1 H m us' c1.hp (c1.vrl d2);exact ⟨Z2, c1.trans f1, .cons (c2.mono (p := fun _ => false) f1.zle (zJ3 _) (fun _ _ _ => rfl) (.refl _ _) fun j hj => by cases hj) f2⟩
 | [], _ :: _, _, _, _, _, e => by cases e
 | t :: ts, [], _, _, _, _, e => by cases ts <;> (unfold aO at e; cases e)
 | [_], _ :: _ :: _, _, _, _, _, e => by unfold aO at e; cases e
def q0G (P : Program) (G : Nat -> Bool) (f : FuncId) (ent : zAV) : Prop := entered P f = true ∧ ∀ (x : TyL ent.as) (γ : Type) (stp : γ -> TyL ent.ys -> Option (γ × Bool)) (g0 g1 : γ), ent.F x γ stp g0 = some g1 -> ∀ (w : Wld γ) (l : Nat),
 (∀ g y g' b, stp g y = some (g', b) -> qI7 P G w l g (pvL ent.ys y) g' b) -> ∀ (Z : Nat -> Prop) (H : IH) (D : Nat -> Prop) (us : List Value), (∀ b, Z b -> b < H.size) -> H.base <= H.size -> q03 Z H -> w.W g0 Z H D -> VRL P Z H (fun _ => none) (q3Z ent.as x) us ->
 uS P G f (.func (.yield l) #[] #[] :: us) H fun r => ∃ Z' D', (∀ b, Z' b -> b < r.2.size) ∧ w.W g1 Z' r.2 D' ∧ StW Z H D Z' r.2 D'
def q3O (P : Program) (G : Nat -> Bool) (IT : List (FuncId × zAV)) : Prop := ∀ f ent, slI f IT = some ent -> q0G P G f ent
def qCB : List Nat -> List SV -> List SV -> List SV
 | i :: is, v :: vs, env => qCB is vs (y9 env i v)
 | _, _, env => env
def noSh (sh : Sh) : Bool := sh.d.isEmpty && (sh.s.isEmpty && sh.v.isEmpty)
def qWW (sh : Sh) (os : List (Nat × Bool)) (ts : List Ty) (mk : TyL ts -> Option (List SV × SH)) (h1 hh : SH) : uN Γ (GS Γ (TyL ts) × Bool) := fun e g env h => match e with
 | .normal => (match bk sh os ts mk h1 hh env h with
   | some s => .ret (gj g s, true)
   | none => .fail)
 | _ => .fail
def q79 {R : Type} (k : GV Γ -> List SV -> SH -> q97 R) : uN Γ R := fun e g env h => match e with
 | .normal => k g env h
 | _ => .fail
def rgN (nm : Nm) (l : List Nat) : Nm := ⟨nm.b, fun k => nm.p k && !qC3 k l⟩
def q0M (P : Program) (G : Nat -> Bool) (IT : List (FuncId × zAV)) (nm : Nm) (sh : Sh) (v : Operand) (ps : Array Tmp) (bx bY : Code) (x y : ∀ {R' : Type}, Nm -> GV Γ -> List SV -> SH -> uN Γ R' -> q97 R') (g : GV Γ) (env : List SV) (h : SH) (K : uN Γ R) : q97 R :=
 qU6 P nm (sh.b.map (·.1)) sh.bv env h fun env h1 => match xK env v with
  | .fn f [] caps => (match slI f IT with
    | some ent => (match aO P ent.as caps h1 with
      | some (z, h2) => (match qWC sh.o h2, qZ1 sh.b h2, q2Y sh.o h2 with
        | some b, some c, some os => (match q8G (b ++ c) with
          | some ts => (match qCM ts (b ++ c) with
            | some s0 => cond (noSh sh && (qFA (sh.b.map (·.1)) sh.b h2 h2 && (Nat.beq ps.size ent.ys.length && (kU G v && (codeOk G true bx && codeOk G true bY)))))
               (goS (mkS P [] sh ts os env h2 s0) fun _ _ => .bind (ent.F z (GS Γ (TyL ts)) (fun s w => (goS (mkS P [] sh ts os env h2 (g2 s)) fun e hh => x (rgN nm (h2.l.map (·.1) ++ (os.map (·.1) ++ sh.b.map (·.1)))) (g1 s) (qCB ps.toList (svL ent.ys w) e) hh
                 (q79 fun g3 e3 h3 => y (rgN nm (h2.l.map (·.1) ++ (os.map (·.1) ++ sh.b.map (·.1)))) g3 e3 h3 (qWW sh os ts (mkS P [] sh ts os env h2) h2 hh))).run) (gj g s0))
                 fun q => goS (mkS P [] sh ts os env h2 (g2 q)) fun e hh => K .normal (g1 q) e hh) .fail
            | none => .fail)
          | none => .fail)
        | _, _, _ => .fail)
      | none => .fail)
    | none => .fail)
  | _ => .fail
omit [Yl] in
theorem qJB : ∀ (i : Nat) (l : List SV), blank [] i l = l
 | _, [] => rfl
 | i, x :: l => by simp [blank, qC3, qJB (i + 1) l]
omit [Yl] in
theorem qFK {sh : Sh} {ts : List Ty} {os : List (Nat × Bool)} {env e2 : List SV} {h1 h2 : SH} {s : TyL ts} (hn : noSh sh = true) (hm : mkS P [] sh ts os env h1 s = some (e2, h2)) : e2 = env := by
 unfold noSh at hn;simp only [zJ1, List.isEmpty_iff] at hn;unfold mkS at hm;rw [hn.1, hn.2.1] at hm;split at hm
 ·split at hm
  ·split at hm
   ·rename_i e3 hss;cases hm;have : some (blank [] 0 env) = some e2 := hss;rw [qJB] at this;exact (zK2 this).symm
   ·cases hm
  ·cases hm
 ·cases hm
omit [Yl] in
theorem qJ3 : ∀ (ps : List Nat) (vs env : List SV), (qCB ps vs env).length = env.length
 | [], vs, env => rfl
 | i :: is, [], env => rfl
 | i :: is, v :: vs, env => by
   show (qCB is vs (y9 env i v)).length = _;rw [qJ3 is, jI]
omit [Yl] in
theorem qOB {h : SH} : ∀ {ps : List Nat} {vs env : List SV}, okL h vs -> okL h env -> okL h (qCB ps vs env)
 | [], vs, env, _, he => he
 | i :: is, [], env, _, he => he
 | i :: is, v :: vs, env, hv, he => by
   simp only [okL] at hv;exact qOB (ps := is) hv.2 (xS he hv.1)
theorem qJV {Z : Nat -> Prop} {H : IH} {M : Nat -> Option (Nat × PO)} : ∀ {ps : List Nat} {vs env : List SV} {ws q98 : List Value}, VRL P Z H M (qB vs) ws -> VRL P Z H M (qB env) q98 -> VRL P Z H M (qB (qCB ps vs env)) ((ps.zip ws).foldl (fun e p => y9 e p.1 p.2) q98)
 | [], vs, env, ws, q98, _, he => he
 | i :: is, [], env, ws, q98, hv, he => by
   simp only [qB] at hv;rw [hv.zAD];exact he
 | i :: is, v :: vs, env, ws, q98, hv, he => by
   simp only [qB] at hv;obtain ⟨w, ws', rfl, a1, a2⟩ := hv.zAA;show VRL P Z H M (qB (qCB is vs (y9 env i v))) ((is.zip ws').foldl (fun e p => y9 e p.1 p.2) (y9 q98 i w));refine qJV a2 ?_;rw [kC, zC, zC];exact he.set a1 i
def rgW (P : Program) (wd : Wld (GV Γ)) (env : List SV) (h0 : SH) (q98 : Env) (H0 : IH) (m0 : Nat -> Nat) (D0 : Nat -> Prop) (lp : Loop) {S : Type} (mk : S -> Option (List SV × SH)) : Wld (GS Γ S) where
 W q Z H D := ∃ e hh m Dg, mk (g2 q) = some (e, hh) ∧ St P wd (g1 q) (qB env) (qD hh.l) Z H m q98 Dg ∧ H.get H0.size = some (.loop lp) ∧ H0.size < H.size ∧ ¬ bH (own m (qD hh.l)) H0.size ∧ ¬ Dg H0.size ∧ ¬ Z H0.size ∧
  (∀ b, D b ↔ bH (own m (qD hh.l)) b ∨ Dg b ∨ b = H0.size) ∧ KR (fun _ => false) (own m0 (qD h0.l)) (own m (qD hh.l)) ∧ (∀ b, bH (own m (qD hh.l)) b -> b < H0.size -> bH (own m0 (qD h0.l)) b) ∧ (∀ b, Dg b -> b < H0.size -> D0 b) ∧ H.base = H0.base
 lt := by
  rintro g Z H D ⟨e, hh, m, Dg, a1, a2, a3, a4, a5, a6, a7, a8, _⟩ b hb;rcases (a8 b).1 hb with q | q | q
  ·exact (aA a2.hp q).1
  ·exact wd.lt a2.wd b q
  ·rw [q]; exact a4
 nz := by
  rintro g Z H D ⟨e, hh, m, Dg, a1, a2, a3, a4, a5, a6, a7, a8, _⟩ b hb;rcases (a8 b).1 hb with q | q | q
  ·exact (aA a2.hp q).2
  ·exact wd.nz a2.wd b q
  ·rw [q]; exact a7
 keep := by
  rintro g Z H D Z' H' ⟨e, hh, m, Dg, a1, a2, a3, a4, a5, a6, a7, a8, a9, a10, a11, a12⟩ hz hl hs hb hg hn;refine ⟨e, hh, m, Dg, a1, a2.other hz hl hs hb (fun b h1 h2 => hg b h1 ?_) (fun b h => hn b ((a8 b).2 ?_)), ?_, zJ7 a4 hs, a5, a6, hn _ ((a8 _).2 (.inr (.inr rfl))), a8, a9, a10, a11, hb.trans a12⟩
  ·rcases h2 with q | q | q
   ·exact .inl ((a8 b).2 (.inl q))
   ·exact .inl ((a8 b).2 (.inr (.inl q)))
   ·exact .inr q
  ·rcases h with q | q
   ·exact .inl q
   ·exact .inr (.inl q)
  ·rw [hg _ a4 (.inl ((a8 _).2 (.inr (.inr rfl))))]; exact a3
omit [Yl] in
theorem q23 {R : Type} {k : GV Γ -> List SV -> SH -> q97 R} {e : zA7} {g : GV Γ} {env : List SV} {h : SH} {r : R} (q : (q79 k e g env h).run = some r) : e = .normal ∧ (k g env h).run = some r := by
 cases e with
 | normal => exact ⟨rfl, q⟩
 | _ => cases q
omit [Yl] in
theorem qW6 {sh : Sh} {os : List (Nat × Bool)} {ts : List Ty} {mk : TyL ts -> Option (List SV × SH)} {h1 hh : SH} {e : zA7} {g : GV Γ} {env : List SV} {h : SH} {r : GS Γ (TyL ts) × Bool} (q : (qWW sh os ts mk h1 hh e g env h).run = some r) :
 e = .normal ∧ ∃ s, bk sh os ts mk h1 hh env h = some s ∧ r = (gj g s, true) := by
 cases e with
 | normal =>
   simp only [qWW] at q;split at q
   ·rename_i s hs;cases q;exact ⟨rfl, s, hs, rfl⟩
   ·cases q
 | _ => cases q
theorem qXF {sh : Sh} {ts : List Ty} {os : List (Nat × Bool)} {env : List SV} {h2 : SH} {q98 : Env} {H0 : IH} {m0 : Nat -> Nat} {D0 : Nat -> Prop} {lp : Loop} {bx bY : Code} {x y : ∀ {R' : Type}, Nm -> GV Γ -> List SV -> SH -> uN Γ R' -> q97 R'} {wx wy : List Nat} {ent : zAV} {ks : List Nat} {hb : SH}
 (hx : ∀ {R' : Type} {nm : Nm} {g : GV Γ} {env : List SV} {h : SH} {K : uN Γ R'} {r : R'}, OkH P h -> okL h env -> env.length = N -> Keep hb h -> (x nm g env h K).run = some r -> qR P G true nm wd bx g (qB env) (qD h.l) (EQ P N wx env h K r))
 (hy : ∀ {R' : Type} {nm : Nm} {g : GV Γ} {env : List SV} {h : SH} {K : uN Γ R'} {r : R'}, OkH P h -> okL h env -> env.length = N -> Keep hb h -> (y nm g env h K).run = some r -> qR P G true nm wd bY g (qB env) (qD h.l) (EQ P N wy env h K r))
 (ho2 : OkH P h2) (he2 : okL h2 env) (hbh : Keep hb h2) (hl : env.length = N) (hn : noSh sh = true) (hos : os.map (·.1) = sh.o) (hks : ∀ k, k ∉ ks -> k ∉ os.map (·.1) ∧ k ∉ sh.b.map (·.1) ∧ slk k h2.l = none)
 (hr1 : lp.state = .ready) (hr2 : lp.pending = none) (hr3 : lp.tmps.toList = q98) (hr5 : lp.assign = bx) (hr6 : lp.body = bY) (hps : lp.params.size = ent.ys.length)
 {q q' : GS Γ (TyL ts)} {w : TyL ent.ys} {b : Bool} (e : (goS (mkS P [] sh ts os env h2 (g2 q)) fun e hh => x (rgN nm ks) (g1 q) (qCB lp.params.toList (svL ent.ys w) e) hh (q79 fun g3 e3 h3 => y (rgN nm ks) g3 e3 h3 (qWW sh os ts (mkS P [] sh ts os env h2) h2 hh))).run = some (q', b)) :
 qI7 P G (rgW P wd env h2 q98 H0 m0 D0 lp (mkS P [] sh ts os env h2)) H0.size q (pvL ent.ys w) q' b := by
 obtain ⟨e2, hh, hm, hb2⟩ := qAQ e;have he := qFK hn hm;subst he;intro Z H D ivs hz hbs hW hv;obtain ⟨e', hh', m, Dg, a1, a2, a3, a4, a5, a6, a7, a8, a9, a10, a11, a12⟩ := hW;rw [hm] at a1;cases a1;obtain ⟨m1, m2, m3, m4, m5, m6⟩ := dR ho2 he2 hm;have hlen : ivs.length = lp.params.size := by rw [<- hv.len, <- tN, qY, qFS, hps]
 have zH2 : okL hh (qCB lp.params.toList (svL ent.ys w) e2) := qOB (qA6 _ _) m3;refine qUB a3 hr1 hlen ?_;rw [hr5, hr3]
 have hs0 : St P wd (g1 q) (qB (qCB lp.params.toList (svL ent.ys w) e2)) (qD hh.l) Z H m ((lp.params.toList.zip ivs).foldl (fun e p => y9 e p.1 p.2) q98) Dg := by
  refine ⟨a2.hp, qJV ?_ a2.vrl, a2.wd, a2.dis⟩;rw [tN];exact q3L hv
 refine (hx m2 zH2 (by rw [qJ3, m4, hl]) (hbh.trans m1) hb2 Z H m _ Dg hs0 hbs).mono ?_;rintro o ⟨Z2, m2', pe3, ph3, g3, D3, st3, sd3, kr3, e3, h3, rfl, rfl, k1, k2, k3, k0, k4, k5⟩;obtain ⟨hoe, k5⟩ := q23 k5;have hl3 : ¬ bH (own m2' (qD h3.l)) H0.size := fun h => a5 (sd3.onew _ h a4)
 have hD3 : ¬ D3 H0.size := fun h => a6 (sd3.zBP _ h a4)
 have hZ3 : ¬ Z2 H0.size := fun h => by
  rcases sd3.zA6 _ h a4 with q | q | q
  ·exact a7 q
  ·exact a5 q
  ·exact a6 q
 have hg3 : o.H.get H0.size = some (.loop lp) := (sd3.keep _ a4 a5 a6).trans a3;refine ⟨hoe, lp, hg3, hr1, ?_⟩;subst hr6;have hlt3 : H0.size < o.H.size := zJ7 a4 sd3.size
 have st4 : St P wd g3 (qB e3) (qD h3.l) Z2 (o.H.put H0.size (.loop { lp with state := .busy })) m2' o.env D3 := by
  refine st3.other (fun _ h => h) st3.hp.zlt (zJ3 _) rfl (fun b hb h => xE fun e => ?_) (fun b h => ?_)
  ·subst e;rcases h with h | h | h
   ·exact hl3 h
   ·exact hD3 h
   ·exact hZ3 h
  ·rcases h with h | h
   ·exact (aA st3.hp h).2
   ·exact wd.nz st3.wd b h
 have hb4 : (o.H.put H0.size (.loop { lp with state := .busy })).base <= (o.H.put H0.size (.loop { lp with state := .busy })).size := by
  show o.H.base <= o.H.size;rw [sd3.base]; exact zKL hbs sd3.size
 refine (hy k2 k1 k3 ((hbh.trans m1).trans k0) k5 Z2 _ m2' o.env D3 st4 hb4).mono ?_;rintro s ⟨Z5, m5', pe5, ph5, g5, D5, st5, sd5, kr5, e5, h5, rfl, rfl, l1, l2, l3, l0, l4, l5⟩;obtain ⟨hse, s', hbk, hqe⟩ := qW6 l5;cases hqe;have zDW : H0.size < (o.H.put H0.size (.loop { lp with state := .busy })).size := hlt3;have hg5 : s.H.get H0.size = some (.loop { lp with state := .busy }) := (sd5.keep _ zDW hl3 hD3).trans (aV);have hl5 : ¬ bH (own m5' (qD h5.l)) H0.size := fun h => hl3 (sd5.onew _ h zDW)
 have hD5 : ¬ D5 H0.size := fun h => hD3 (sd5.zBP _ h zDW)
 have hZ5 : ¬ Z5 H0.size := fun h => by
  rcases sd5.zA6 _ h zDW with q | q | q
  ·exact hZ3 q
  ·exact hl3 q
  ·exact hD3 q
 have zH3 : H0.size < s.H.size := zJ7 zDW sd5.size;refine ⟨_, hg5, ?_, ?_⟩
 ·rw [hse]; rfl
 have hlp : ({ ({ lp with state := LoopState.busy } : Loop) with state := if (yQ s.e).isNone then LoopState.ready else LoopState.done, pending := yQ s.e } : Loop) = lp := by
  rw [hse];cases lp;simp only at hr1 hr2;subst hr1 hr2;rfl
 show ∃ Z' D', (∀ b, Z' b -> b < (s.H.put H0.size (.loop { ({ lp with state := LoopState.busy } : Loop) with state := if (yQ s.e).isNone then LoopState.ready else LoopState.done, pending := yQ s.e })).size) ∧ (rgW P wd e2 h2 q98 H0 m0 D0 lp (mkS P [] sh ts os e2 h2)).W (gj g5 s') Z' (s.H.put H0.size (.loop { ({ lp with state := LoopState.busy } : Loop) with state := if (yQ s.e).isNone then LoopState.ready else LoopState.done, pending := yQ s.e })) D' ∧ StW Z H D Z' (s.H.put H0.size (.loop { ({ lp with state := LoopState.busy } : Loop) with state := if (yQ s.e).isNone then LoopState.ready else LoopState.done, pending := yQ s.e })) D';rw [hlp];unfold bk at hbk;split at hbk
 case h_2 => cases hbk
 rename_i a' b' c' ha' hb' hc';split at hbk
 case h_2 => cases hbk
 rename_i s2 hs2
 cases hc : (q07 os h5 && (qKH sh.s e5 h5 && (qFA (sh.b.map (·.1)) sh.b h2 h5 && (eT (sh.o ++ sh.b.map (·.1)) hh h5 && (mkS P [] sh ts os e2 h2 s2).isSome)))) with
 | false => rw [hc] at hbk; cases hbk
 | true =>
   rw [hc] at hbk;cases hbk;simp only [zJ1] at hc;obtain ⟨⟨e6, h6⟩, hm6⟩ := zK1.1 hc.2.2.2.2;have he6 := qFK hn hm6;subst he6
   have hsd : sh.d = [] := by
    unfold noSh at hn;simp only [zJ1, List.isEmpty_iff] at hn;exact hn.1
   have hw2 : qB (eB sh.d (svL ts s') (blank [] 0 e6)).2 = qB (b' ++ c') := by
    rw [hsd] at ha' ⊢;cases ha';exact (mU hs2).symm
   obtain ⟨ho6, _, hsub⟩ := qR2 l2 ho2 hb' hc' hw2 hm6 hos hc.1 hc.2.2.1 (fun k o hk hkb hk2 => qAG m2 (k0.trans l0) hc.2.2.2.1 (by rw [zLE, not_or]; exact ⟨hk, hkb⟩) (by rw [m6 k (by rw [hos]; exact hk) hkb]; exact hk2));obtain ⟨_, _, _, _, _, n6⟩ := dR ho2 he2 hm6;have hfz := Fz.drop st5.hp (qE8 hsub)
   have keep : ∀ b, b < H.size -> ¬ bH (own m (qD hh.l)) b -> ¬ Dg b -> b ≠ H0.size -> s.H.get b = H.get b := fun b h1 h2 h3 h4 => by
    have g1 := sd3.keep b h1 h2 h3;have hb3 : b < o.H.size := zJ7 h1 sd3.size;have g2 : (o.H.put H0.size (.loop { lp with state := .busy })).get b = o.H.get b := xE h4;exact (sd5.keep b hb3 (fun h => h2 (sd3.onew b h h1)) fun h => h3 (sd3.zBP b h h1)).trans (g2.trans g1)
   have hzk : ∀ b, Z b -> b < H.size -> s.H.get b = H.get b := fun b h1 h2 => keep b h2 (fun h => (aA a2.hp h).2 h1) (fun h => wd.nz a2.wd b h h1) fun e => a7 (e ▸ h1)
   have hz5 : ∀ b, Z b -> Z5 b := fun b h => sd5.zle b (sd3.zle b h)
   have hsz : H.size <= s.H.size := zKL sd3.size sd5.size;have hbase : s.H.base = H.base := sd5.base.trans sd3.base
   have hkr : KR (fun _ => false) (own m (qD hh.l)) (own m5' (qD h6.l)) := by
    refine KR.none ((kr3.trans kr5).trans (hfz.kr _)) fun k o hk => ?_
    rw [uQ] at hk;obtain ⟨o', q1, _⟩ := zKA.1 hk;show (nm.p k && !qC3 k ks) = false
    cases hmm : qC3 k ks with
    | true => simp
    | false =>
      exfalso;obtain ⟨r1, r2, r3⟩ := hks k fun hm => by rw [wO.2 hm] at hmm; cases hmm
      rw [n6 k r1 r2, r3] at q1;cases q1
   have zCY : ∀ b, bH (own m5' (qD h6.l)) b -> bH (own m5' (qD h5.l)) b := fun b ⟨k, ob, h1, h2⟩ => ⟨k, ob, hfz.zCJ h1, h2⟩
   have zDX : ∀ b, bH (own m5' (qD h6.l)) b -> b < H.size -> bH (own m (qD hh.l)) b := fun b h1 h2 => sd3.onew b (sd5.onew b (zCY b h1) (zJ7 h2 sd3.size)) h2
   have zE1 : ∀ b, D5 b -> b < H.size -> Dg b := fun b h1 h2 => sd3.zBP b (sd5.zBP b h1 (zJ7 h2 sd3.size)) h2
   have st6 : St P wd g5 (qB e6) (qD h6.l) Z5 s.H m5' q98 D5 := ⟨hfz.hp, a2.vrl.mono (p := fun _ => false) hz5 hsz hzk hkr (fun j hj => by cases hj), st5.wd, fun b h1 h2 => st5.dis b h1 (zCY b h2)⟩
   have st7 : St P wd g5 (qB e6) (qD h6.l) Z5 (s.H.put H0.size (.loop lp)) m5' q98 D5 := by
    refine st6.other (fun _ h => h) st6.hp.zlt (zJ3 _) rfl (fun b hb h => xE fun e => ?_) (fun b h => ?_)
    ·subst e;rcases h with h | h | h
     ·exact hl5 (zCY _ h)
     ·exact hD5 h
     ·exact hZ5 h
    ·rcases h with h | h
     ·exact (aA st6.hp h).2
     ·exact wd.nz st6.wd b h
   refine ⟨Z5, fun b => bH (own m5' (qD h6.l)) b ∨ D5 b ∨ b = H0.size, st6.hp.zlt, ⟨e6, h6, m5', D5, by rw [q0T]; exact hm6, by rw [q3Q]; exact st7, aV, zH3, fun h => hl5 (zCY _ h), hD5, hZ5, fun b => Iff.rfl, a9.trans hkr, fun b h1 h2 => a10 b (zDX b h1 (Nat.lt_trans h2 a4)) h2, fun b h1 h2 => a11 b (zE1 b h1 (Nat.lt_trans h2 a4)) h2, hbase.trans a12⟩, ?_⟩;refine ⟨hsz, hbase, hz5, fun b h1 _ h3 => ?_, fun b h1 h2 => ?_, fun b h1 _ => absurd h1 (qCD b), fun b h1 h2 => ?_⟩
   ·have hb : b ≠ H0.size := fun e => h3 ((a8 b).2 (.inr (.inr e)))
    exact (xE hb).trans (keep b h1 (fun h => h3 ((a8 b).2 (.inl h))) (fun h => h3 ((a8 b).2 (.inr (.inl h)))) hb)
   ·rcases sd5.zA6 b h1 (zJ7 h2 sd3.size) with h | h | h
    ·rcases sd3.zA6 b h h2 with h | h | h
     ·exact .inl h
     ·exact .inr (.inr ((a8 b).2 (.inl h)))
     ·exact .inr (.inr ((a8 b).2 (.inr (.inl h))))
    ·exact .inr (.inr ((a8 b).2 (.inl (sd3.onew b h h2))))
    ·exact .inr (.inr ((a8 b).2 (.inr (.inl (sd3.zBP b h h2)))))
   ·rcases h1 with h | h | h
    ·exact (a8 b).2 (.inl (zDX b h h2))
    ·exact (a8 b).2 (.inr (.inl (zE1 b h h2)))
    ·exact (a8 b).2 (.inr (.inr h))
theorem qTU {IT : List (FuncId × zAV)} (s : zA1 P good nat G tab) (hit : q3O P G IT) {sh : Sh} {v : Operand} {ps : Array Tmp} {bx bY : Code} {x y : ∀ {R' : Type}, Nm -> GV Γ -> List SV -> SH -> uN Γ R' -> q97 R'} {wx wy : List Nat} {hb : SH}
 (hx : ∀ {R' : Type} {nm : Nm} {g : GV Γ} {env : List SV} {h : SH} {K : uN Γ R'} {r : R'}, OkH P h -> okL h env -> env.length = N -> Keep hb h -> (x nm g env h K).run = some r -> qR P G true nm wd bx g (qB env) (qD h.l) (EQ P N wx env h K r))
 (hy : ∀ {R' : Type} {nm : Nm} {g : GV Γ} {env : List SV} {h : SH} {K : uN Γ R'} {r : R'}, OkH P h -> okL h env -> env.length = N -> Keep hb h -> (y nm g env h K).run = some r -> qR P G true nm wd bY g (qB env) (qD h.l) (EQ P N wy env h K r))
 {g : GV Γ} {env : List SV} {h : SH} {K : uN Γ R} (ho : OkH P h) (he : okL h env) (hl : env.length = N) (hbh : Keep hb h) (e : (q0M P G IT nm sh v ps bx bY x y g env h K).run = some r) :
 qR P G false nm wd (.rangeFunc v ps bx bY) g (qB env) (qD h.l) (EQ P N [] env h K r) := by
 obtain ⟨h1, wk1, kp1, ho1, e⟩ := qHF (nm := nm) ho he e;refine qR.pre' wk1 ?_;split at e
 case h_2 => cases e
 rename_i f caps hval;split at e
 case h_2 => cases e
 rename_i ent hent;split at e
 case h_2 => cases e
 rename_i z h2 hdc;split at e
 case h_2 => cases e
 rename_i b c os hbO hcB hos;split at e
 case h_2 => cases e
 rename_i ts hts;split at e
 case h_2 => cases e
 rename_i s0 hs0;obtain ⟨hck, e⟩ := qG e;simp only [zJ1] at hck;obtain ⟨hn, hbx, hps, hv, hcx, hcy⟩ := hck;obtain ⟨_, hh0, hm0, e⟩ := qAQ e;obtain ⟨q1, hF, e⟩ := run_bind e;obtain ⟨eq, hq, hmq, eK⟩ := qAQ e;have he0 := qFK hn hm0;have heq := qFK hn hmq;subst he0;subst heq;obtain ⟨kp2, ho2, hfr⟩ := qDY ho1 hdc;have he2 : okL h2 eq := qN (kp1.trans kp2) he;have zC6 := qES hos;obtain ⟨zGN, hIt⟩ := hit f ent hent;intro Z H m q98 D hs hbs;have hpv := qL hs.vrl v;rw [qO, hval] at hpv;simp only [SV.enc, qB] at hpv;generalize hiv : q98.val v = iv at hpv
 cases hpv with
 | fn hf hc hfc hcc =>
 rename_i fs cs
 have hfs : fs = #[] := by
  have : fs.size = 0 := by simpa using hf.symm
  exact zLK this
 subst hfs;obtain ⟨Z1, c1, r1⟩ := hfr Z H m cs.toList hs.hp ⟨by simpa using hc, fun i x v a b => hcc i x v a (by simpa using b)⟩;have hs2 : St P wd g (qB eq) (qD h2.l) Z1 H m q98 D := hs.step c1.hp (c1.vrl hs.vrl) c1.step
 have hw0 : qB (eB sh.d (svL ts s0) (blank [] 0 eq)).2 = qB (b ++ c) := by
  have hsd : sh.d = [] := by
   unfold noSh at hn;simp only [zJ1, List.isEmpty_iff] at hn;exact hn.1
  rw [hsd];exact (mU hs0).symm
 obtain ⟨ho0, _, zGO⟩ := qR2 ho2 ho2 hbO hcB hw0 hm0 zC6 (qKY hos) hbx (fun k o _ _ hk => y5 hk);have zCQ := Fz.drop hs2.hp (qE8 zGO);refine s.s.zFD hv hcx hcy hiv zGN fun lp p1 p2 p3 p4 p5 p6 => ?_
 have hHL : ∀ b, b < H.size -> (H.push (.loop lp)).get b = H.get b := fun b hb => jJ hb
 have hown0 : ∀ b, bH (own m (qD hh0.l)) b -> bH (own m (qD h2.l)) b := fun b ⟨k, ob, h1, h2⟩ => ⟨k, ob, zCQ.zCJ h1, h2⟩
 have hlo : ¬ bH (own m (qD hh0.l)) H.size := fun h => zNB _ (aA zCQ.hp h).1
 have hlD : ¬ D H.size := fun h => zNB _ (wd.lt hs2.wd _ h)
 have hlZ : ¬ Z1 H.size := fun h => zNB _ (c1.hp.zlt _ h)
 have st0 : St P wd g (qB eq) (qD hh0.l) Z1 H m q98 D := hs2.step zCQ.hp (zCQ.vrl hs2.vrl) zCQ.step
 have st1 : St P wd g (qB eq) (qD hh0.l) Z1 (H.push (.loop lp)) m q98 D := by
  refine st0.other (fun _ h => h) (fun b h => zLQ (c1.hp.zlt b h)) (zNO _) rfl (fun b hb _ => hHL b hb) fun b h => ?_
  rcases h with h | h
  ·exact (aA zCQ.hp h).2
  ·exact wd.nz hs2.wd b h
 have hWi : (rgW P wd eq h2 q98 H m D lp (mkS P [] sh ts os eq h2)).W (gj g s0) Z1 (H.push (.loop lp)) fun b => bH (own m (qD hh0.l)) b ∨ D b ∨ b = H.size :=
  ⟨eq, hh0, m, D, by rw [q0T]; exact hm0, by rw [q3Q]; exact st1, gF, zK0 _, hlo, hlD, hlZ, fun b => Iff.rfl, zCQ.kr _, fun b h _ => hown0 b h, fun b h _ => h, rfl⟩
 have hcall := hIt z (GS Γ (TyL ts)) _ _ _ hF (rgW P wd eq h2 q98 H m D lp (mkS P [] sh ts os eq h2)) H.size (fun q w q' bb hstp => by
  refine qXF (Γ := Γ) (ent := ent) hx hy ho2 he2 (hbh.trans (kp1.trans kp2)) hl hn zC6 (ks := h2.l.map (·.1) ++ (os.map (·.1) ++ sh.b.map (·.1))) (fun k hk => ?_) p1 p2 p3 p5 p6 ?_ (by rw [p4]; exact hstp)
  ·simp only [zLE, not_or] at hk;refine ⟨hk.2.1, hk.2.2, ?_⟩
   cases hq : slk k h2.l with
   | none => rfl
   | some o => exact absurd (zKT.2 ⟨(k, o), qLG hq, rfl⟩) hk.1
  ·rw [p4]; exact zJ2 hps) Z1 (H.push (.loop lp)) _ cs.toList (fun b h => zLQ (c1.hp.zlt b h)) (zKL hbs (zNO _)) (c1.hp.gl.mono c1.hp.zlt (fun _ h => h) fun b _ hb => hHL b hb) hWi (r1.none (fun _ h => h) (zNO _) (fun b hz hb => hHL b hb) fun _ => rfl)
 refine ⟨_, hcall, ?_⟩;rintro ⟨rv, H'⟩ ⟨Z', D', b1, ⟨e5, h5, m5, Dg, a1, a2, a3, a4, a5, a6, a7, a8, a9, a10, a11, a12⟩, sw⟩;rw [hmq] at a1;cases a1;refine qXS a3 p1 p2 fun lp' => ?_
 obtain ⟨n1, n2, n3, n4, n5, n6⟩ := dR ho2 he2 hmq;have zEK : Keep h hq := (kp1.trans kp2).trans n1
 have stf : St P wd (Go.Sv.g1 q1) (qB eq) (qD hq.l) Z' (H'.put H.size (.loop lp')) m5 q98 Dg := by
  refine a2.other (fun _ h => h) b1 (zJ3 _) rfl (fun b hb h => xE fun e => ?_) (fun b h => ?_)
  ·subst e;rcases h with h | h | h
   ·exact a5 h
   ·exact a6 h
   ·exact a7 h
  ·rcases h with h | h
   ·exact (aA a2.hp h).2
   ·exact wd.nz a2.wd b h
 have hsz : H.size <= H'.size := zKL (zNO _) sw.size;refine ⟨Z', m5, qB eq, qD hq.l, Go.Sv.g1 q1, Dg, stf, ⟨hsz, a12, fun b h => sw.zle b (c1.zle b h), fun b h1 h2 h3 => ?_, fun b h1 h2 => ?_, fun b h1 h2 => ?_, fun b h1 h2 => a11 b h1 h2⟩, ((c1.kr _).trans a9).up (fun k h => by cases h), eq, hq, rfl, rfl, n3, n2, hl, zEK, fun _ => ⟨n3, n2, zEK, fun _ _ => rfl, rfl⟩, eK⟩
 ·have hb : b ≠ H.size := Nat.ne_of_lt h1;refine (xE hb).trans ((sw.keep b (zLQ h1) (qCD b) ?_).trans (hHL b h1));rintro (q | q | q)
  ·obtain ⟨k, ob, w1, w2⟩ := hown0 b q;exact h2 ⟨k, ob, c1.zCJ w1, w2⟩
  ·exact h3 q
  ·exact hb q
 ·rcases sw.zA6 b h1 (zLQ h2) with q | q | q
  ·rcases c1.zA6 b q with q | q
   ·exact .inl q
   ·exact .inr (.inl q)
  ·exact absurd q (qCD b)
  ·rcases q with q | q | q
   ·obtain ⟨k, ob, w1, w2⟩ := hown0 b q;exact .inr (.inl ⟨k, ob, c1.zCJ w1, w2⟩)
   ·exact .inr (.inr q)
   ·exact absurd q (Nat.ne_of_lt h2)
 ·obtain ⟨k, ob, w1, w2⟩ := a10 b h1 h2;exact ⟨k, ob, c1.zCJ w1, w2⟩
end
end Go.Sv
namespace Go.Sv
open Go.Idl
noncomputable section
variable [Gc]
variable [Frs]
variable [Yl]
variable {P : Program} {Γ : Option Type} {R : Type} {r : R} {nm : Nm} {G : Nat -> Bool} {N : Nat} {rs : List Ty} {tab : uH} {nat : y7} {good : FuncId -> Bool} {wd : Wld (GV Γ)}
def q88 (an : An) (id : Nat) : List (Nat × TypeId) := match lkA id an.fz with
 | some l => l
 | none => []
def wr (an : An) : Code -> List Nat
 | .region id ops _ => (q88 an id).map (·.1) ++ ops.toList.filterMap (·.dst)
 | .seq a b => wr an a ++ wr an b
 | .cond _ a b => wr an a ++ wr an b
 | .block id x => match lkA id an.lp with
   | some sh => lpW (wr an x) sh
   | none => wr an x
 | .loop x => wr an x
 | .scope x => wr an x
 | _ => []
def nx2 : List Oper -> Option (Operand × Nat × Nat)
 | [⟨some d1, .next x false, _, _, _, none⟩, ⟨some d2, .extract (.tmp e1) 0, _, _, _, none⟩] => cond (Nat.beq d1 e1) (some (x, d1, d2)) none
 | _ => none
def q69 (id : Nat) (body : ∀ {R' : Type}, GV Γ -> List SV -> SH -> uN Γ R' -> q97 R') (K : uN Γ R) : Nat -> GV Γ -> List SV -> SH -> q97 R
 | 0, _, _, _ => .fail
 | n + 1, g, env, h => body g env h fun e g env h => match e with
   | .normal => q69 id body K n g env h
   | .exit i => cond (Nat.beq i id) (K .normal g env h) (K (.exit i) g env h)
   | .ret => K .ret g env h
   | .goto _ => .fail
def q9W (y : GV Γ -> List SV -> SH -> uN Γ R -> q97 R) (K : uN Γ R) : uN Γ R := fun e g env h => match e with
 | .normal => y g env h K
 | e => K e g env h
def q9T (K : uN Γ R) : uN Γ R := fun e g env h => match e with
 | .goto _ => .fail
 | e => K e g env h
def q8K : Operand -> Nat
 | .tmp t => t
 | _ => 0
section
variable (P : Program) (G : Nat -> Bool) (T : jE) (IT : List (FuncId × zAV)) (CI : CIT) (Y : YI (GV Γ)) (an : An) (rdv : List SV -> SH -> Option (TyL rs)) (en : TyL rs -> List SV) (hb : SH)
def ev : Code -> {R : Type} -> Bool -> Nm -> GV Γ -> List SV -> SH -> uN Γ R -> q97 R
 | .skip, _, _, _, g, env, h, K => K .normal g env h
 | .label _, _, _, _, g, env, h, K => K .normal g env h
 | .ret, _, _, _, g, env, h, K => K .ret g env h
 | .exit id, _, _, _, g, env, h, K => K (.exit id) g env h
 | .seq a b, _, rd, nm, g, env, h, K => ev a rd nm g env h (q9W (ev b rd nm) K)
 | .cond v a b, _, rd, nm, g, env, h, K => cond (kU G v) (match asB (xK env v) with
   | some t => .ite t (ev a rd nm g env h K) (ev b rd nm g env h K)
   | none => (match xK env v with
     | .bq => .both (ev a rd nm g env h K) (ev b rd nm g env h K)
     | _ => .fail)) .fail
 | .region id ops d, _, rd, nm, g, env, h, K => fzv P nm (q88 an id) env h fun env h => q78 P G T CI Y nm ops d g env h fun g env h => K .normal g env h
 | .block id (.loop y), _, rd, nm, g, env, h, K => (match lkA id an.lp with
   | some sh => (match lkA id an.ab with
     | none => q5D P nm (wr an y) (lpW (wr an y) sh) rdv en hb sh id (fun {_} => ev y rd nm) g env h K
     | some _ => .fail)
   | none => q69 id (fun {_} => ev y rd nm) K 24 g env h)
 | .block id x, _, rd, nm, g, env, h, K => (match lkA id an.lp with
   | some _ => .fail
   | none => ev x rd nm g env h (q84 id K))
 | .scope x, _, rd, nm, g, env, h, K => ev x rd nm g env h (q9T K)
 | .rangeFunc v ps x y, _, rd, nm, g, env, h, K => (match lkA (q8K v) an.rg with
   | some sh => cond rd .fail (q0M P G IT nm sh v ps x y (fun {_} => ev x true) (fun {_} => ev y true) g env h K)
   | none => .fail)
 | _, _, _, _, _, _, _, _ => .fail
end
theorem EQ.go {w w2 : List Nat} {env zAF : List SV} {h h1 : SH} {K : uN Γ R} {e : zA7} {g : GV Γ} {pe : List PV} {ph : PHp} (a : jR P w env h zAF h1) (b : EQ P N w2 zAF h1 K r e g pe ph) : EQ P N (w ++ w2) env h K r e g pe ph := by
 obtain ⟨env', h', b1, b2, b3, b4, b5, b0, b6, b7⟩ := b;exact ⟨env', h', b1, b2, b3, b4, b5, a.2.2.1.trans b0, fun hne => a.trans (b6 hne), b7⟩
theorem EQ.up {w w2 : List Nat} {env : List SV} {h : SH} {K : uN Γ R} {e : zA7} {g : GV Γ} {pe : List PV} {ph : PHp} (hw : ∀ i ∈ w, i ∈ w2) (b : EQ P N w env h K r e g pe ph) : EQ P N w2 env h K r e g pe ph := by
 obtain ⟨env', h', b1, b2, b3, b4, b5, b0, b6, b7⟩ := b;exact ⟨env', h', b1, b2, b3, b4, b5, b0, fun hne => (b6 hne).up hw, b7⟩
theorem EQ.now {w : List Nat} {env : List SV} {h : SH} {K : uN Γ R} {e : zA7} {g : GV Γ} (ho : OkH P h) (he : okL h env) (hl : env.length = N) (hk : (K e g env h).run = some r) : EQ P N w env h K r e g (qB env) (qD h.l) :=
 ⟨env, h, rfl, rfl, he, ho, hl, .refl _, fun _ => (jR.refl ho he).up fun i hi => by (cases hi), hk⟩
theorem q8A {id : Nat} {w : List Nat} {env : List SV} {h : SH} {K : uN Γ R} {e : zA7} {g : GV Γ} {pe : List PV} {ph : PHp} (b : EQ P N w env h (q84 id K) r e g pe ph) : BQY id (EQ P N w env h K r) e g pe ph := by
 obtain ⟨env', h', b1, b2, b3, b4, b5, b0, b6, b7⟩ := b
 cases e with
 | normal => exact BQY.go ⟨env', h', b1, b2, b3, b4, b5, b0, b6, b7⟩
 | ret => exact BQY.rt ⟨env', h', b1, b2, b3, b4, b5, b0, b6, b7⟩
 | goto l => exact ⟨env', h', b1, b2, b3, b4, b5, b0, b6, b7⟩
 | exit i =>
   have b8 : (cond (Nat.beq i id) (K .normal g env' h') (K (.exit i) g env' h')).run = some r := b7
   cases hi : Nat.beq i id with
   | true =>
     rw [hi] at b8;have := zJ2 hi;subst this;exact BQY.on ⟨env', h', b1, b2, b3, b4, b5, b0, fun _ => b6 fun h => by (cases h), b8⟩
   | false =>
     rw [hi] at b8;exact BQY.ex (fun h => by rw [h, rC] at hi; cases hi) ⟨env', h', b1, b2, b3, b4, b5, b0, b6, b8⟩
omit [Yl] in
theorem qZS {ops : List Oper} {i : Nat} (h : i ∉ ops.filterMap (·.dst)) : some i ∉ ops.map (·.dst) := fun hm => by
 obtain ⟨o, h1, h2⟩ := zKT.1 hm;exact h (zMA.2 ⟨o, h1, h2⟩)
def q6B (P : Program) (G : Nat -> Bool) (T : jE) (IT : List (FuncId × zAV)) (CI : CIT) (Y : YI (GV Γ)) (an : An) (rdv : List SV -> SH -> Option (TyL rs)) (en : TyL rs -> List SV) (hb : SH) (N : Nat) (wd : Wld (GV Γ)) (rd : Bool) (nm : Nm) (c : Code) : Prop :=
 ∀ {R : Type} {g : GV Γ} {env : List SV} {h : SH} {K : uN Γ R} {r : R}, OkH P h -> okL h env -> env.length = N -> Keep hb h -> (ev P G T IT CI Y an rdv en hb c rd nm g env h K).run = some r -> qR P G rd nm wd c g (qB env) (qD h.l) (EQ P N (wr an c) env h K r)
theorem q2B {w : List Nat} {id : Nat} {y : Code} {hb : SH} {body : ∀ {R' : Type}, GV Γ -> List SV -> SH -> uN Γ R' -> q97 R'} {rd : Bool}
 (hbody : ∀ {R' : Type} {g : GV Γ} {env : List SV} {h : SH} {K : uN Γ R'} {r : R'}, OkH P h -> okL h env -> env.length = N -> Keep hb h -> (body g env h K).run = some r -> qR P G rd nm wd y g (qB env) (qD h.l) (EQ P N w env h K r))
 {g : GV Γ} {env : List SV} {h : SH} {K : uN Γ R} {n : Nat} (ho : OkH P h) (he : okL h env) (hl : env.length = N) (hbh : Keep hb h) (e : (q69 id (fun {_} => body) K n g env h).run = some r) :
 qR P G rd nm wd (.block id (.loop y)) g (qB env) (qD h.l) (EQ P N w env h K r) := by
 refine qR.zGF (fun n g1 pe ph => ∃ zAF h1, pe = qB zAF ∧ ph = qD h1.l ∧ okL h1 zAF ∧ OkH P h1 ∧ zAF.length = N ∧ Keep h h1 ∧ jR P w env h zAF h1 ∧ (q69 id (fun {_} => body) K n g1 zAF h1).run = some r) ?_ (n := n) ⟨env, h, rfl, rfl, he, ho, hl, .refl _, (jR.refl ho he).up fun i hi => by (cases hi), e⟩;rintro n1 g1 pe ph ⟨zAF, h1, rfl, rfl, b3, b4, b5, b6, b7, b8⟩
 cases n1 with
 | zero => cases b8
 | succ n1 =>
   unfold q69 at b8;refine (hbody b4 b3 b5 (hbh.trans b6) b8).mono ?_;rintro x g2 pe ph ⟨env', h', rfl, rfl, c3, c4, c5, c0, c6, c7⟩
   have up : x ≠ .ret -> jR P w env h env' h' := fun hne => (b7.trans (c6 hne)).up fun i hi => by
    rcases zLE.1 hi with q | q <;> exact q
   cases x with
   | normal => exact ⟨n1, zK0 _, env', h', rfl, rfl, c3, c4, c5, b6.trans c0, up fun h => by (cases h), c7⟩
   | ret => exact BQY.rt ⟨env', h', rfl, rfl, c3, c4, c5, b6.trans c0, fun hne => absurd rfl hne, c7⟩
   | goto l => cases c7
   | exit i =>
     have c8 : (cond (Nat.beq i id) (K .normal g2 env' h') (K (.exit i) g2 env' h')).run = some r := c7
     cases hi : Nat.beq i id with
     | true =>
       rw [hi] at c8;have := zJ2 hi;subst this;exact BQY.on ⟨env', h', rfl, rfl, c3, c4, c5, b6.trans c0, fun _ => up fun h => by (cases h), c8⟩
     | false =>
       rw [hi] at c8;exact BQY.ex (fun h => by rw [h, rC] at hi; cases hi) ⟨env', h', rfl, rfl, c3, c4, c5, b6.trans c0, fun _ => up fun h => by (cases h), c8⟩
theorem qT5 {T : jE} {IT : List (FuncId × zAV)} {CI : CIT} {Y : YI (GV Γ)} {an : An} {rdv : List SV -> SH -> Option (TyL rs)} {en : TyL rs -> List SV} {hb : SH} {rd : Bool} {id : Nat} {y : Code} (s : zA1 P good nat G tab) (hrd : zC5 P nm N hb rdv en)
 (hY : q6B P G T IT CI Y an rdv en hb N wd rd nm y) (hZ : ∀ rid ops t j z, y = .seq (.region rid ops false) (.seq (.cond (.tmp t) .skip (.exit j)) z) -> q6B P G T IT CI Y an rdv en hb N wd rd nm z)
 {g : GV Γ} {env : List SV} {h : SH} {K : uN Γ R} (ho : OkH P h) (he : okL h env) (hl : env.length = N) (hbh : Keep hb h) (e : (ev P G T IT CI Y an rdv en hb (.block id (.loop y)) rd nm g env h K).run = some r) :
 qR P G rd nm wd (.block id (.loop y)) g (qB env) (qD h.l) (EQ P N (wr an (.block id (.loop y))) env h K r) := by
 have e1 := e;unfold ev at e1;split at e1
 ·rename_i sh hsh;have hw : wr an (.block id (.loop y)) = lpW (wr an y) sh := by simp only [wr, hsh]
  rw [hw];split at e1
  ·exact qXP hrd rfl hY ho he hl hbh e1
  ·cases e1
 ·rename_i hn;have hw : wr an (.block id (.loop y)) = wr an y := by simp only [wr, hn]
  rw [hw];exact q2B hY ho he hl hbh e1
theorem vP [zAX P G] {T : jE} {IT : List (FuncId × zAV)} {CI : CIT} {Y : YI (GV Γ)} {an : An} {rdv : List SV -> SH -> Option (TyL rs)} {en : TyL rs -> List SV} {hb : SH} (s : zA1 P good nat G tab) (ht : qQU tab T) (hit : q3O P G IT) (hci : qZ2 P G CI) (hy : YOk P G wd Y) (hrd : ∀ nm, zC5 P nm N hb rdv en) :
 ∀ (c : Code), (∀ rd nm, q6B P G T IT CI Y an rdv en hb N wd rd nm c) ∧ ∀ a b, c = .seq a b -> (∀ rd nm, q6B P G T IT CI Y an rdv en hb N wd rd nm b) ∧ ∀ a' b', b = .seq a' b' -> ∀ rd nm, q6B P G T IT CI Y an rdv en hb N wd rd nm b'
 | .skip => ⟨fun rd nm {_ g env h K r} ho he hl hbh e => .skip (.now ho he hl e), fun a b h => by cases h⟩
 | .label _ => ⟨fun rd nm {_ g env h K r} ho he hl hbh e => .label (.now ho he hl e), fun a b h => by cases h⟩
 | .ret => ⟨fun rd nm {_ g env h K r} ho he hl hbh e => .ret (.now ho he hl e), fun a b h => by cases h⟩
 | .exit id => ⟨fun rd nm {_ g env h K r} ho he hl hbh e => .exit (.now ho he hl e), fun a b h => by cases h⟩
 | .seq a b => by
   refine ⟨fun rd nm {_ g env h K r} ho he hl hbh e => ?_, fun a' b' hh => by
    cases hh
    exact ⟨(vP s ht hit hci hy hrd b).1, fun a2 b2 h2 => ((vP s ht hit hci hy hrd b).2 a2 b2 h2).1⟩⟩
   refine .seq (((vP s ht hit hci hy hrd a).1 _ _ ho he hl hbh e).mono fun x g' pe ph hq => ?_);obtain ⟨env', h', b1, b2, b3, b4, b5, b0, b6, b7⟩ := hq
   cases x with
   | normal =>
     have b7 : (ev P G T IT CI Y an rdv en hb b rd nm g' env' h' K).run = some r := b7;subst b1 b2;show qR P G rd nm wd b g' _ _ _;refine ((vP s ht hit hci hy hrd b).1 _ _ b4 b3 b5 (hbh.trans b0) b7).mono fun x g' pe ph hq => ?_
     exact EQ.go (b6 fun h => by (cases h)) hq
   | exit i => exact ⟨env', h', b1, b2, b3, b4, b5, b0, fun hne => (b6 hne).up fun i hi => zLL _ hi, b7⟩
   | ret => exact ⟨env', h', b1, b2, b3, b4, b5, b0, fun hne => absurd rfl hne, b7⟩
   | goto l => exact ⟨env', h', b1, b2, b3, b4, b5, b0, fun hne => (b6 hne).up fun i hi => zLL _ hi, b7⟩
 | .cond v a b => by
   refine ⟨fun rd nm {_ g env h K r} ho he hl hbh e => ?_, fun a b h => by cases h⟩;obtain ⟨c1, e1⟩ := qG e;split at e1
   ·rename_i t hv;have hpv : qK (qB env) v = fvv (.bool t) := by rw [qO]; exact oI hv
    rcases run_ite e1 with ⟨z, e2⟩ | ⟨z, e2⟩
    ·exact .cond c1 hpv (fun _ => ((vP s ht hit hci hy hrd a).1 _ _ ho he hl hbh e2).mono fun x g pe ph hq => hq.up fun i hi => zLL _ hi) (fun hf => by rw [z] at hf; cases hf)
    ·exact .cond c1 hpv (fun hf => by rw [z] at hf; cases hf) (fun _ => ((vP s ht hit hci hy hrd b).1 _ _ ho he hl hbh e2).mono fun x g pe ph hq => hq.up fun i hi => zLW _ hi)
   ·split at e1
    case h_2 => cases e1
    rename_i hv;have hpv : qK (qB env) v = .bq := by rw [qO, hv]; simp [SV.enc]
    obtain ⟨e2, e3⟩ := qXA e1;exact .zGE c1 hpv (((vP s ht hit hci hy hrd a).1 _ _ ho he hl hbh e2).mono fun x g pe ph hq => hq.up fun i hi => zLL _ hi) (((vP s ht hit hci hy hrd b).1 _ _ ho he hl hbh e3).mono fun x g pe ph hq => hq.up fun i hi => zLW _ hi)
 | .region id ops d => by
   refine ⟨fun rd nm {_ g env h K r} ho he hl hbh e => ?_, fun a b h => by cases h⟩;obtain ⟨zAF, h1, w1, q1, e1⟩ := q0H (nm := nm) ho he e;refine qR.pre' w1 ((q2D s ht hci hy q1.2.1 q1.1 e1).mono ?_);rintro x g' pe ph ⟨rfl, env', h', b1, b2, b3, b4⟩;refine EQ.go q1 ⟨env', h', b1, b2, b3.1, b3.2.1, by rw [b3.2.2.2.2, q1.2.2.2.2, hl], b3.2.2.1, fun _ => ⟨b3.1, b3.2.1, b3.2.2.1, fun i hi => b3.2.2.2.1 i (qZS hi), b3.2.2.2.2⟩, b4⟩
 | .block id x => by
   refine ⟨fun rd nm {_ g env h K r} ho he hl hbh e => ?_, fun a b h => by cases h⟩
   cases x with
   | loop y =>
     exact qT5 s (hrd nm) ((vP s ht hit hci hy hrd y).1 _ _) (fun rid ops t j z hz => ((vP s ht hit hci hy hrd y).2 _ _ hz).2 _ _ rfl _ _) ho he hl hbh e
   | _ =>
     all_goals
      have e1 := e;unfold ev at e1;split at e1
      ·cases e1
      ·rename_i hn;simp only [wr, hn];exact .block (((vP s ht hit hci hy hrd _).1 _ _ ho he hl hbh e1).mono fun x g pe ph hq => q8A hq)
 | .loop _ => ⟨fun rd nm {_ _ _ _ _ _} _ _ _ _ e => (by cases e), fun a b h => by cases h⟩
 | .rangeFunc v ps x y => by
   refine ⟨fun rd nm {_ g env h K r} ho he hl hbh e => ?_, fun a b h => by cases h⟩;unfold ev at e;split at e
   ·rename_i sh hsh
    cases rd with
    | true => cases e
    | false => exact qTU s hit (fun ho he hl hbh e => (vP s ht hit hci hy hrd x).1 _ _ ho he hl hbh e) (fun ho he hl hbh e => (vP s ht hit hci hy hrd y).1 _ _ ho he hl hbh e) ho he hl hbh e
   ·cases e
 | .scope x => by
   refine ⟨fun rd nm {_ g env h K r} ho he hl hbh e => ?_, fun a b h => by cases h⟩;refine .scope (((vP s ht hit hci hy hrd x).1 _ _ ho he hl hbh e).mono fun ex g' pe ph hq => ?_);obtain ⟨env', h', b1, b2, b3, b4, b5, b0, b6, b7⟩ := hq
   cases ex with
   | goto l => cases b7
   | normal => exact ⟨fun _ h => by (cases h), env', h', b1, b2, b3, b4, b5, b0, b6, b7⟩
   | ret => exact ⟨fun _ h => by (cases h), env', h', b1, b2, b3, b4, b5, b0, b6, b7⟩
   | exit i => exact ⟨fun _ h => by (cases h), env', h', b1, b2, b3, b4, b5, b0, b6, b7⟩
 | .goto _ => ⟨fun rd nm {_ _ _ _ _ _} _ _ _ _ e => (by cases e), fun a b h => by cases h⟩
 | .refuse _ => ⟨fun rd nm {_ _ _ _ _ _} _ _ _ _ e => (by cases e), fun a b h => by cases h⟩
theorem q3D [zAX P G] {T : jE} {IT : List (FuncId × zAV)} {CI : CIT} {Y : YI (GV Γ)} {an : An} {rdv : List SV -> SH -> Option (TyL rs)} {en : TyL rs -> List SV} {hb : SH} (s : zA1 P good nat G tab) (ht : qQU tab T) (hit : q3O P G IT) (hci : qZ2 P G CI) (hy : YOk P G wd Y) (hrd : ∀ nm, zC5 P nm N hb rdv en) :
 ∀ (c : Code) {R : Type} {rd : Bool} {nm : Nm} {g : GV Γ} {env : List SV} {h : SH} {K : uN Γ R} {r : R}, OkH P h -> okL h env -> env.length = N -> Keep hb h -> (ev P G T IT CI Y an rdv en hb c rd nm g env h K).run = some r -> qR P G rd nm wd c g (qB env) (qD h.l) (EQ P N (wr an c) env h K r) :=
 fun c {R rd nm g env h K r} ho he hl hbh e => (vP s ht hit hci hy hrd c).1 rd nm ho he hl hbh e
end
end Go.Sv
namespace Go.Sv
open Go.Idl
noncomputable section
variable [Gc]
variable [Frs]
variable [Yl]
variable {P : Program} {R : Type} {r : R} {nm : Nm} {G : Nat -> Bool} {N : Nat} {tab : uH} {good : FuncId -> Bool}
def uD (P : Program) (ty : TypeId) (t : Ty) : Bool := match qLY P ty with
 | some true => !t.one && (match szT P ty with
   | some n => Nat.beq n t.w
   | none => false)
 | some false => t.one
 | none => false
omit [Yl] in
theorem qP0 {ty : TypeId} {t : Ty} {x : t.sem} {ph : PHp} (e : uD P ty t = true) : bU P ty (qY6 t x) ph = some (t.pv x) := by
 unfold uD at e;show qMN P ty (t.cells x) 0 = _;unfold qMN Ty.pv;split at e
 ·rename_i h1;rw [h1];simp only;split at e
  ·rename_i n hn;rw [hn];rw [zJ1] at e;have h2 : n = t.w := zJ2 e.2;have h3 : t.one = false := by simpa using e.1
   subst h2;have h4 : Nat.ble (0 + t.w) (t.cells x).length = true := zKW (by rw [t.zAH]; omega);simp only [h4, cond_true, h3, cond_false, zMJ];rw [zK5 (by rw [t.zAH]; exact zJ3 _)]
  ·rw [zJ1] at e; cases e.2
 ·rename_i h1;rw [h1];simp only [e, cond_true];rw [Ty.cells_one e];rfl
 ·cases e
def qWG : ResultVar -> Nat
 | .tmp t => t
 | .cell a _ => a
def qQ2 : ResultVar -> Option TypeId
 | .tmp _ => none
 | .cell _ ty => some ty
def q6J (ty : TypeId) (v : SV) (h : SH) : Bool := match v with
 | .ref k _ _ => (match slk k h.l with
   | some (.cells el _ _) => Nat.beq el ty
   | _ => false)
 | _ => false
theorem qVK {ty : TypeId} {t : Ty} {v : SV} {h : SH} {x : t.sem} {h' : SH} (ho : OkH P h) (e : qBQ P t v h = some (x, h')) (hel : q6J ty v h = true) (h1 : t.one = false) : rt1 P ty (t.pv x) = t.pv x := by
 unfold qBQ at e;unfold q6J at hel;split at e
 case h_2 => cases e
 rename_i k off w;split at e
 case h_2 => cases e
 rename_i el w0 l hk;simp only [hk] at hel;have hel : el = ty := zJ2 hel;subst hel
 cases hc : (!spec P el && (Nat.beq off 0 && Nat.beq w l.length)) with
 | false => rw [hc] at e; cases e
 | true =>
   rw [hc] at e;simp only [cond_true] at e;split at e
   case h_2 => cases e
   rename_i y zAO h2 hd;cases e;have hd0 := dZ (k := k) ho;obtain ⟨a1, a2, a3, ys, a4, a5⟩ := qB8 hd0.2 (qN hd0.1 (ho.cells _ _ _ _ hk)) hd;unfold Ty.pv;rw [h1];show PV.agg (rtL (rtC P) (vF P 8 el) ((t.cells x).map .f)) = _;have := (a5 []).2;rw [zLM] at this;rw [this];cases zAO <;> simp [rtL]
def olL : List TypeId -> Ty -> Option (List TypeId)
 | tys, .pair a b => (match olL tys a with
   | some r => olL r b
   | none => none)
 | ty :: tys, .ol _ _ => cond (Gc.ol ty) (some tys) none
 | [], .ol _ _ => none
 | tys, t => cond t.nol (some (tys.drop t.w)) none
def q7P (t : Ty) (v : SV) : Option t.sem := match v with
 | .lp t' [x] 0 0 => if e : t' = t then some (e ▸ x) else none
 | _ => none
omit [Yl] in
theorem qXR {t : Ty} {v : SV} {x : t.sem} (e : q7P t v = some x) : v = .lp t [x] 0 0 := by
 unfold q7P at e;split at e
 ·rename_i t' y;split at e
  ·rename_i h;subst h;cases e;rfl
  ·cases e
 ·cases e
def qYP (P : Program) (c : Option TypeId) (ty : TypeId) (t : Ty) (v : SV) (h : SH) : Option (t.sem × SH) := match c with
 | none => q1T P ty t v h
 | some ty2 => match q7P t v with
   | some x => cond (uD P ty2 t && (t.nol || (!t.one && (olL (vF P 8 ty) t).isSome))) (some (x, h)) none
   | none => cond (uD P ty2 t && (t.nol || (!t.one && q6J ty v h))) (qBQ P t v h) none
def qGU (c : Option TypeId) (t : Ty) (x : t.sem) : SV := match c with
 | none => t.sv x
 | some _ => .lp t [x] 0 0
def qIJ (P : Program) : List (Option TypeId) -> List TypeId -> (ts : List Ty) -> List SV -> SH -> Option (TyL ts × SH)
 | [], _, [], [], h => some ((), h)
 | c :: cs, ty :: _, [t], v :: vs, h => (match cs, vs with
   | [], [] => qYP P c ty t v h
   | _, _ => none)
 | c :: cs, ty :: tys, t :: u :: ts, v :: vs, h => match qYP P c ty t v h with
   | some (x, h1) => (match qIJ P cs tys (u :: ts) vs h1 with
     | some (y, h2) => some ((x, y), h2)
     | none => none)
   | none => none
 | _, _, _, _, _ => none
def svM : List (Option TypeId) -> (ts : List Ty) -> TyL ts -> List SV
 | _, [], _ => []
 | c :: _, [t], x => [qGU c t x]
 | [], [t], x => [t.sv x]
 | c :: cs, t :: u :: ts, x => qGU c t x.1 :: svM cs (u :: ts) x.2
 | [], t :: u :: ts, x => t.sv x.1 :: svM [] (u :: ts) x.2
omit [Yl] in
theorem qRK {h : SH} (c : Option TypeId) (t : Ty) (x : t.sem) : (qGU c t x).ok h := by
 cases c with
 | none => exact qIS t x
 | some _ => simp [qGU, SV.ok]
omit [Yl] in
theorem qTY {h : SH} : ∀ (cs : List (Option TypeId)) (ts : List Ty) (x : TyL ts), okL h (svM cs ts x)
 | _, [], _ => by simp [svM, okL]
 | c :: _, [t], x => by simp only [svM, okL]; exact ⟨qRK c t x, trivial⟩
 | [], [t], x => by simp only [svM, okL]; exact ⟨qIS t x, trivial⟩
 | c :: cs, t :: u :: ts, x => by
   show okL h (qGU c t x.1 :: svM cs (u :: ts) x.2);simp only [okL];exact ⟨qRK c t x.1, qTY cs (u :: ts) x.2⟩
 | [], t :: u :: ts, x => by
   show okL h (t.sv x.1 :: svM [] (u :: ts) x.2);simp only [okL];exact ⟨qIS t x.1, qTY [] (u :: ts) x.2⟩
omit [Yl] in
theorem qMP : ∀ (cs : List (Option TypeId)) (ts : List Ty) (x : TyL ts), (svM cs ts x).length = ts.length
 | _, [], _ => by simp [svM]
 | c :: _, [t], x => rfl
 | [], [t], x => rfl
 | c :: cs, t :: u :: ts, x => by
   show (qGU c t x.1 :: svM cs (u :: ts) x.2).length = _;simp only [zKM, qMP cs (u :: ts)]
 | [], t :: u :: ts, x => by
   show (t.sv x.1 :: svM [] (u :: ts) x.2).length = _;simp only [zKM, qMP [] (u :: ts)]
theorem qOT (c : Option TypeId) (t : Ty) (x : t.sem) (Z : Nat -> Prop) (H : IH) (M M' : Nat -> Option (Nat × PO)) (v : Value) (h : VR P Z H M (qGU c t x).enc v) : VR P Z H M' (qGU c t x).enc v := by
 cases c with
 | none =>
   simp only [qGU, nH] at h ⊢;exact bG h (qUX t x)
 | some _ =>
   simp only [qGU, SV.enc] at h ⊢
   cases h with
   | lp a b c d => exact .lp a b c d
omit [Yl] in
theorem sK {ty : TypeId} : ∀ (t : Ty) (x : t.sem) (c : FV), t.nol = true -> c ∈ t.cells x -> rt0 P ty (.f c) = .f c
 | .int _, x, c, _, h => by simp only [Ty.cells, zL8] at h; subst h; rfl
 | .bool, x, c, _, h => by simp only [Ty.cells, zL8] at h; subst h; rfl
 | .str, x, c, _, h => by simp only [Ty.cells, zL8] at h; subst h; rfl
 | .raw, x, c, _, h => by simp only [Ty.cells, zL8] at h; subst h; rfl
 | .nif, x, c, _, h => by simp only [Ty.cells, zL8] at h; subst h; rfl
 | .list _ _, x, c, _, h => by simp only [Ty.cells, zL8] at h; subst h; rfl
 | .unit, x, c, _, h => by cases h
 | .pair a b, x, c, hn, h => by
   have h : c ∈ a.cells x.1 ++ b.cells x.2 := h;have hn : (a.nol && b.nol) = true := hn;rw [zJ1] at hn;rcases zLE.1 h with q | q
   ·exact sK a _ _ hn.1 q
   ·exact sK b _ _ hn.2 q
omit [Yl] in
theorem q0B {f : TypeId -> PV -> PV} : ∀ {ts : List TypeId} {xs : List PV}, (∀ t x, x ∈ xs -> f t x = x) -> rtL f ts xs = xs
 | [], xs, _ => by cases xs <;> rfl
 | t :: ts, [], _ => rfl
 | t :: ts, x :: xs, h => by
   show f t x :: rtL f ts xs = _;rw [h t x zKF, q0B fun t y hy => h t y (zJ9 _ hy)]
omit [Yl] in
theorem q0D {ty : TypeId} (t : Ty) (x : t.sem) (hn : t.nol = true) : rt1 P ty (t.pv x) = t.pv x := by
 unfold Ty.pv
 cases ht : t.one with
 | true => exact qBB (by rw [ht, hn]; rfl)
 | false =>
   show PV.agg (rtL (rtC P) (vF P 8 ty) ((t.cells x).map .f)) = _;rw [q0B]
   ·rfl
   ·intro ty2 y hy;obtain ⟨c, hc, rfl⟩ := zKT.1 hy;unfold rtC;rw [sK t x c hn hc];cases Gc.ol ty2 <;> rfl
omit [Yl] in
theorem qU8 {f : TypeId -> PV -> PV} : ∀ {ts : List TypeId} {xs rest : List PV}, (∀ t x, x ∈ xs -> f t x = x) -> rtL f ts (xs ++ rest) = xs ++ rtL f (ts.drop xs.length) rest
 | ts, [], rest, _ => by simp
 | [], x :: xs, rest, _ => by simp [rtL]
 | t :: ts, x :: xs, rest, h => by
   show f t x :: rtL f ts (xs ++ rest) = _;rw [h t x zKF, qU8 fun t y hy => h t y (zJ9 _ hy)];rfl
omit [Yl] in
theorem uW (t : Ty) (hn : t.nol = true) {tys zAO : List TypeId} (h : olL tys t = cond t.nol (some (tys.drop t.w)) none) (e : olL tys t = some zAO) (x : t.sem) (rest : List PV) : rtL (rtC P) tys ((t.cells x).map .f ++ rest) = (t.cells x).map .f ++ rtL (rtC P) zAO rest := by
 have hd : zAO = tys.drop t.w := by
  rw [h, hn] at e;cases e; rfl
 rw [qU8, hd, zKK, t.zAH];intro ty2 y hy;obtain ⟨c, hc, rfl⟩ := zKT.1 hy;unfold rtC;rw [sK t x c hn hc];cases Gc.ol ty2 <;> rfl
omit [Yl] in
theorem qR0 : ∀ (t : Ty) {tys zAO : List TypeId}, olL tys t = some zAO -> ∀ (x : t.sem) (rest : List PV), rtL (rtC P) tys ((t.cells x).map .f ++ rest) = (t.cells x).map .f ++ rtL (rtC P) zAO rest
 | .pair a b, tys, zAO, e, x, rest => by
   unfold olL at e;split at e
   ·rename_i r hr;show rtL (rtC P) tys ((a.cells x.1 ++ b.cells x.2).map .f ++ rest) = (a.cells x.1 ++ b.cells x.2).map .f ++ _;rw [zK8, zKY, qR0 a hr, qR0 b e, zKY]
   ·cases e
 | .ol el k, tys, zAO, e, x, rest => by
   cases tys with
   | nil => cases e
   | cons ty tys =>
     have e : cond (Gc.ol ty) (some tys) none = some zAO := e
     cases ho : Gc.ol ty with
     | false => rw [ho] at e; cases e
     | true =>
       rw [ho] at e;cases e;show rtC P ty (.f (fvo el k x)) :: rtL (rtC P) _ rest = .f (fvo el k x) :: _;unfold rtC;rw [ho]; rfl
 | .int k, tys, zAO, e, x, rest => uW (.int k) rfl (by cases tys <;> rfl) e x rest
 | .bool, tys, zAO, e, x, rest => uW .bool rfl (by cases tys <;> rfl) e x rest
 | .str, tys, zAO, e, x, rest => uW .str rfl (by cases tys <;> rfl) e x rest
 | .raw, tys, zAO, e, x, rest => uW .raw rfl (by cases tys <;> rfl) e x rest
 | .nif, tys, zAO, e, x, rest => uW .nif rfl (by cases tys <;> rfl) e x rest
 | .list el u, tys, zAO, e, x, rest => uW (.list el u) rfl (by cases tys <;> rfl) e x rest
 | .unit, tys, zAO, e, x, rest => uW .unit rfl (by cases tys <;> rfl) e x rest
theorem qMS {c : Option TypeId} {ty : TypeId} {t : Ty} {v : SV} {h : SH} {x : t.sem} {h' : SH} (ho : OkH P h) (hv : v.ok h) (e : qYP P c ty t v h = some (x, h')) :
 Keep h h' ∧ OkH P h' ∧ (∀ ty2, c = some ty2 -> uD P ty2 t = true) ∧ rt1 P ty (t.pv x) = t.pv x ∧ ∀ (Z : Nat -> Prop) (H : IH) (m : Nat -> Nat) (u : Value), Hp P Z H (own m (qD h.l)) -> VR P Z H (own m (qD h.l)) v.enc u -> ∃ Z', Fz P Z H m (qD h.l) Z' (qD h'.l) ∧ VR P Z' H (fun _ => none) (qGU c t x).enc u := by
 unfold qYP at e
 cases c with
 | none =>
   obtain ⟨y, a1, a2, a3, a4, a5⟩ := qAV ho hv e;refine ⟨a3, a4, fun _ h => by (cases h), a5, fun Z H m u hp hu => ?_⟩;obtain ⟨Z', c1, c2⟩ := qJI hp hu a1;refine ⟨Z', c1, ?_⟩;simp only [qGU, nH];rw [<- a2];exact qDK c2
 | some ty2 =>
   simp only at e
   cases hlp : q7P t v with
   | some y =>
     rw [hlp] at e;simp only at e;have hv2 := qXR hlp
     cases hcn : (uD P ty2 t && (t.nol || (!t.one && (olL (vF P 8 ty) t).isSome))) with
     | false => rw [hcn] at e; cases e
     | true =>
       rw [hcn] at e;cases e;obtain ⟨hc, hn⟩ : uD P ty2 t = true ∧ (t.nol || (!t.one && (olL (vF P 8 ty) t).isSome)) = true := by rwa [zJ1] at hcn
       refine ⟨.refl _, ho, fun _ h => by cases h; exact hc, ?_, fun Z H m u hp hu => ⟨Z, .refl hp, ?_⟩⟩
       ·rcases Bool.or_eq_true_iff.1 hn with q | q
        ·exact q0D t _ q
        ·rw [zJ1] at q;obtain ⟨zAO, ht⟩ := zK1.1 q.2;have h1 : t.one = false := by simpa using q.1
         unfold Ty.pv;rw [h1];show PV.agg (rtL (rtC P) (vF P 8 ty) ((t.cells _).map .f)) = _;have := qR0 (P := P) t ht x [];rw [zLM] at this;rw [this];cases zAO <;> simp [rtL]
       ·rw [hv2] at hu;simp only [qGU, SV.enc] at hu ⊢
        cases hu with
        | lp a b c d => exact .lp a b c d
   | none =>
   rw [hlp] at e;simp only at e
   cases hcn : (uD P ty2 t && (t.nol || (!t.one && q6J ty v h))) with
   | false => rw [hcn] at e; cases e
   | true =>
     rw [hcn] at e;obtain ⟨hc, hn⟩ : uD P ty2 t = true ∧ (t.nol || (!t.one && q6J ty v h)) = true := by rwa [zJ1] at hcn
     have hrt : rt1 P ty (t.pv x) = t.pv x := by
      rcases Bool.or_eq_true_iff.1 hn with q | q
      ·exact q0D t x q
      ·rw [zJ1] at q;exact qVK ho e q.2 (by simpa using q.1)
     obtain ⟨a1, a2, a3⟩ := qBO ho e;refine ⟨a1, a2, fun _ h => by cases h; exact hc, hrt, fun Z H m u hp hu => ?_⟩;obtain ⟨Z', c1, c2⟩ := a3 Z H m u hp hu;refine ⟨Z', c1, ?_⟩;simp only [qGU, SV.enc];simpa [qY6] using c2
structure zGP (P : Program) (cs : List (Option TypeId)) (tys : List TypeId) (ts : List Ty) (vs : List SV) (h : SH) (x : TyL ts) (h' : SH) : Prop where
 keep : Keep h h'
 ok : OkH P h'
 fz : ∀ (Z : Nat -> Prop) (H : IH) (m : Nat -> Nat) (us : List Value), Hp P Z H (own m (qD h.l)) -> VRL P Z H (own m (qD h.l)) (qB vs) us -> ∃ Z', Fz P Z H m (qD h.l) Z' (qD h'.l) ∧ VRL P Z' H (fun _ => none) (qB (svM cs ts x)) us
 any : ∀ (Z : Nat -> Prop) (H : IH) (M M' : Nat -> Option (Nat × PO)) (us : List Value), VRL P Z H M (qB (svM cs ts x)) us -> VRL P Z H M' (qB (svM cs ts x)) us
 rt : rtL (rt1 P) tys (pvL ts x) = pvL ts x
 load : ∀ (ph : PHp) (rv : List ResultVar) (env : List PV), rv.map qQ2 = cs -> (rv.map fun r => (zF env (qWG r)).getD .unk) = qB (svM cs ts x) -> qF2 P env ph rv = some (pvL ts x)
theorem q6N {c : Option TypeId} {t : Ty} {x : t.sem} (hc : ∀ ty2, c = some ty2 -> uD P ty2 t = true) {ph : PHp} {r : ResultVar} {env : List PV} (h1 : qQ2 r = c) (h2 : (zF env (qWG r)).getD .unk = (qGU c t x).enc) : qY0 P env ph r = some (t.pv x) := by
 subst h1
 cases r with
 | tmp i =>
   show some ((zF env i).getD .unk) = _;rw [show (zF env i).getD .unk = _ from h2];simp [qQ2, qGU, nH]
 | cell a ty =>
   show bU P ty ((zF env a).getD .unk) ph = _;rw [show (zF env a).getD .unk = _ from h2];have := qP0 (x := x) (ph := ph) (hc ty rfl);simpa [qQ2, qGU, SV.enc, qY6] using this
theorem qUW : ∀ {cs : List (Option TypeId)} {tys : List TypeId} {ts : List Ty} {vs : List SV} {h : SH} {x : TyL ts} {h' : SH}, OkH P h -> okL h vs -> qIJ P cs tys ts vs h = some (x, h') -> zGP P cs tys ts vs h x h'
 | [], tys, [], [], h, x, h', ho, hv, e => by
   unfold qIJ at e;cases e;refine ⟨.refl _, ho, fun Z H m us hp hu => ⟨Z, .refl hp, ?_⟩, fun Z H M M' us hu => ?_, (by cases tys <;> rfl), fun ph rv env h1 h2 => ?_⟩
   ·simp only [qB] at hu;rw [hu.zAD];simp only [svM, qB];exact .nil
   ·simp only [svM, qB] at hu ⊢;rw [hu.zAD];exact .nil
   ·cases rv with
    | nil => rfl
    | cons _ _ => cases h1
 | c :: cs, ty :: tys, [t], v :: vs, h, x, h', ho, hv, e => by
   unfold qIJ at e;split at e
   case h_2 => cases e
   simp only [okL] at hv;obtain ⟨a1, a2, a3, ar, a4⟩ := qMS ho hv.1 e;refine ⟨a1, a2, fun Z H m us hp hu => ?_, fun Z H M M' us hu => ?_, ?_, fun ph rv env h1 h2 => ?_⟩
   ·simp only [qB] at hu;obtain ⟨u, us', rfl, b1, b2⟩ := hu.zAA;obtain ⟨Z', c1, c2⟩ := a4 Z H m u hp b1;rw [b2.zAD];simp only [svM, qB];exact ⟨Z', c1, .cons c2 .nil⟩
   ·simp only [svM, qB] at hu ⊢;obtain ⟨u, us', rfl, b1, b2⟩ := hu.zAA;rw [b2.zAD];exact .cons (qOT c t x _ _ _ _ _ b1) .nil
   ·show rt1 P ty (t.pv x) :: rtL (rt1 P) tys [] = [t.pv x];rw [ar];cases tys <;> rfl
   ·match rv, h1, h2 with
    | [r], h1, h2 =>
      simp only [zKI, zMD, zKR, and_true] at h1;simp only [zKI, zMD, svM, qB, zKR, and_true] at h2;unfold qF2;rw [q6N a3 h1 h2];rfl
 | c :: cs, ty :: tys, t :: u :: ts, v :: vs, h, x, h', ho, hv, e => by
   unfold qIJ at e;simp only [okL] at hv;split at e
   case h_2 => cases e
   rename_i x1 h1 hd;split at e
   case h_2 => cases e
   rename_i y h2 hd2;cases e;obtain ⟨a1, a2, a3, ar, a4⟩ := qMS ho hv.1 hd;have ih := qUW a2 (qN a1 hv.2) hd2;have hsv : svM (c :: cs) (t :: u :: ts) (x1, y) = qGU c t x1 :: svM cs (u :: ts) y := rfl;refine ⟨a1.trans ih.keep, ih.ok, fun Z H m us hp hu => ?_, fun Z H M M' us hu => ?_, ?_, fun ph rv env g1 g2 => ?_⟩
   ·simp only [qB] at hu;obtain ⟨w, us', rfl, b1, b2⟩ := hu.zAA;obtain ⟨Z1, d1, d2⟩ := a4 Z H m w hp b1;obtain ⟨Z2, f1, f2⟩ := ih.fz Z1 H m us' d1.hp (d1.vrl b2);rw [hsv];simp only [qB];exact ⟨Z2, d1.trans f1, .cons (d2.mono (p := fun _ => false) f1.zle (zJ3 _) (fun _ _ _ => rfl) (.refl _ _) fun j hj => by cases hj) f2⟩
   ·rw [hsv] at hu ⊢;simp only [qB] at hu ⊢;obtain ⟨w, us', rfl, b1, b2⟩ := hu.zAA;exact .cons (qOT c t x1 _ _ _ _ _ b1) (ih.any _ _ _ _ _ b2)
   ·show rt1 P ty (t.pv x1) :: rtL (rt1 P) tys (pvL (u :: ts) y) = t.pv x1 :: pvL (u :: ts) y;rw [ar, ih.rt]
   ·cases rv with
    | nil => cases g1
    | cons r rv =>
      rw [hsv] at g2;simp only [zKI, zKR] at g1;simp only [zKI, qB, zKR] at g2;unfold qF2;rw [q6N a3 g1.1 g2.1, ih.load ph rv env g1.2 g2.2];rfl
 | [], _, [], _ :: _, _, _, _, _, _, e => by unfold qIJ at e; cases e
 | [], [], [_], _, _, _, _, _, _, e => by unfold qIJ at e; cases e
 | [], [], _ :: _ :: _, _, _, _, _, _, _, e => by unfold qIJ at e; cases e
 | [], _ :: _, [_], _, _, _, _, _, _, e => by unfold qIJ at e; cases e
 | [], _ :: _, _ :: _ :: _, _, _, _, _, _, _, e => by unfold qIJ at e; cases e
 | _ :: _, [], [], _, _, _, _, _, _, e => by unfold qIJ at e; cases e
 | _ :: _, _ :: _, [], _, _, _, _, _, _, e => by unfold qIJ at e; cases e
 | _ :: _, [], [_], _, _, _, _, _, _, e => by unfold qIJ at e; cases e
 | _ :: _, [], _ :: _ :: _, _, _, _, _, _, _, e => by unfold qIJ at e; cases e
 | _ :: _, _ :: _, [_], [], _, _, _, _, _, e => by unfold qIJ at e; cases e
 | _ :: _, _ :: _, _ :: _ :: _, [], _, _, _, _, _, e => by unfold qIJ at e; cases e
def rdR (P : Program) (hb : SH) (zCD : List TypeId) (rs : List Ty) (rv : List ResultVar) (env : List SV) (h : SH) : Option (TyL rs) := match qJR (rv.map qWG) env with
 | some vs => (match qIJ P (rv.map qQ2) zCD rs vs h with
   | some p => cond (eT [] hb p.2) (some p.1) none
   | none => none)
 | none => none
def enR (N : Nat) (rv : List ResultVar) (rs : List Ty) (v : TyL rs) : List SV := (eB (rv.map qWG) (svM (rv.map qQ2) rs v) (List.replicate N .unk)).1
omit [Yl] in
theorem qJT (h : SH) : ∀ (n : Nat), okL h (List.replicate n .unk)
 | 0 => by simp [okL]
 | n + 1 => by rw [zLP]; simp only [okL]; exact ⟨by simp [SV.ok], qJT h n⟩
theorem qBW : ∀ (n : Nat), qB (List.replicate n .unk) = List.replicate n .unk
 | 0 => by simp [qB]
 | n + 1 => by rw [zLP, zLP]; simp only [qB, qBW n, SV.enc]
theorem qMY {Z : Nat -> Prop} {H : IH} {M : Nat -> Option (Nat × PO)} {vals : List Value} : ∀ {rl : List Nat} {l base : List SV} {ws : List Value}, (∀ (j i : Nat), rl[j]? = some i -> vals[i]? = ws[j]?) -> VRL P Z H M (qB l) ws -> VRL P Z H M (qB base) vals -> VRL P Z H M (qB (eB rl l base).1) vals
 | [], l, base, ws, _, _, hb => hb
 | i :: is, [], base, ws, _, _, hb => hb
 | i :: is, c :: l, base, ws, hc, hl, hb => by
   simp only [qB] at hl;obtain ⟨w, ws', rfl, h1, h2⟩ := hl.zAA;show VRL P Z H M (qB (eB is l (y9 base i c)).1) vals;refine qMY (ws := ws') (fun j k hj => by simpa using hc (j + 1) k (by simpa using hj)) h2 ?_;rw [kC];exact hb.slot (v := w) (by simpa using hc 0 i rfl) h1
theorem qNE {Z : Nat -> Prop} {H : IH} {M : Nat -> Option (Nat × PO)} {env : List SV} {vals : List Value} (hv : VRL P Z H M (qB env) vals) : ∀ {rl : List Nat} {vs : List SV}, qJR rl env = some vs -> ∃ ws, VRL P Z H M (qB vs) ws ∧ ∀ (j i : Nat), rl[j]? = some i -> vals[i]? = ws[j]?
 | [], vs, e => by cases e; exact ⟨[], by simp only [qB]; exact .nil, fun j i h => by simp at h⟩
 | i :: is, vs, e => by
   unfold qJR at e;split at e
   ·rename_i v l hx hl;cases e;obtain ⟨ws, h1, h2⟩ := qNE hv hl;have hx2 : (qB env)[i]? = some v.enc := by rw [<- qF, zJ, hx]; rfl
    obtain ⟨w, hw, hr⟩ := hv.get hx2;refine ⟨w :: ws, by simp only [qB]; exact .cons hr h1, fun j k hj => ?_⟩
    cases j with
    | zero => simp at hj; subst hj; simpa using hw
    | succ j => simpa using h2 j k (by simpa using hj)
   ·cases e
omit [Yl] in
theorem q1O {Z : Nat -> Prop} {H : IH} {M : Nat -> Option (Nat × PO)} {vals : List Value} : VRL P Z H M (List.replicate vals.length .unk) vals := ⟨by simp, fun i z v h1 h2 => by
 rw [zM0] at h1;split at h1
 ·cases h1; exact .unk
 ·cases h1⟩
omit [Yl] in
theorem qEC {env : List SV} : ∀ {rl : List Nat} {vs : List SV}, qJR rl env = some vs -> ∀ z ∈ vs, z ∈ env
 | [], vs, e, z, hz => by cases e; cases hz
 | i :: is, vs, e, z, hz => by
   unfold qJR at e;split at e
   ·rename_i v l hx hl;cases e;rcases zKN.1 hz with q | q
    ·subst q; rw [qF] at hx; exact zKZ hx
    ·exact qEC hl z q
   ·cases e
theorem qLC {hb : SH} {zCD : List TypeId} {rs : List Ty} {rv : List ResultVar} {env : List SV} {h : SH} {v : TyL rs} (ho : OkH P h) (he : okL h env) (e : rdR P hb zCD rs rv env h = some v) :
 ∃ vs h', qJR (rv.map qWG) env = some vs ∧ zGP P (rv.map qQ2) zCD rs vs h v h' ∧ eT [] hb h' = true := by
 unfold rdR at e;split at e
 case h_2 => cases e
 rename_i vs hvs;split at e
 case h_2 => cases e
 rename_i p hp;obtain ⟨x, h'⟩ := p
 cases hc : eT [] hb h' with
 | false => rw [hc] at e; cases e
 | true =>
   rw [hc] at e;cases e;exact ⟨vs, h', hvs, qUW ho (yF.2 fun z hz => yF.1 he z (qEC hvs z hz)) hp, hc⟩
theorem qUA {hb : SH} (hob : OkH P hb) {zCD : List TypeId} {rs : List Ty} {rv : List ResultVar} : zC5 P nm N hb (rdR P hb zCD rs rv) (enR N rv rs) := by
 refine ⟨hob, fun env h v ho he hl hbh e => ?_, fun env h v ho he hbh e k o hk => ?_, fun v => by unfold enR; rw [qF5, zMM], fun v h => qLK (qTY _ rs v) (qJT h N)⟩
 ·obtain ⟨vs, h', hvs, hd, hkp⟩ := qLC ho he e;intro Z H m vals hh hv;obtain ⟨ws, h1, h2⟩ := qNE hv hvs;obtain ⟨Z', c1, r2⟩ := hd.fz Z H m ws hh h1;have hdr := Fz.drop c1.hp (ph' := qD hb.l) (qE8 fun k o hk => qAG hob (hbh.trans hd.keep) hkp (by simp) hk);have hlen : vals.length = N := by rw [<- hv.len, qY, hl]
  refine ⟨Z', m, hdr.hp, ?_, c1.step.trans hdr.step, (c1.kr _).trans (hdr.kr _)⟩;unfold enR;refine qMY h2 (hd.any _ _ _ _ _ r2) ?_;rw [qBW, <- hlen];exact q1O
 ·obtain ⟨vs, h', hvs, hd, hkp⟩ := qLC ho he e;have := qNK hob (hbh.trans hd.keep) hkp (by simp) hk;exact hd.keep.same k o this (zJ7 (hob.ver k o hk) hbh.next)
omit [Yl] in
theorem q64 (t : Ty) (x : t.sem) (ph : PHp) : fzP P ph (t.pv x) = some (t.pv x, ph) := by
 unfold Ty.pv
 cases t.one with
 | true => rfl
 | false => simp only [cond_false, fzP, qFB]
omit [Yl] in
theorem q0R {ph : PHp} : ∀ {xs : List PV}, (∀ y ∈ xs, fzP P ph y = some (y, ph)) -> fzA P xs ph = some (xs, ph)
 | [], _ => rfl
 | x :: xs, h => by
   simp only [fzA, h x zKF, q0R fun y hy => h y (zJ9 _ hy)]
omit [Yl] in
theorem q4H (rs : List Ty) (x : TyL rs) (ph : PHp) : fzR P ph (j5 rs x) = some (j5 rs x) := by
 have hm : ∀ y ∈ pvL rs x, ∃ (t : Ty) (z : t.sem), y = t.pv z := fun y hy => qAJ hy
 unfold j5;generalize pvL rs x = l at hm
 have hz : ∀ y ∈ l, fzP P ph y = some (y, ph) := fun y hy => by
  obtain ⟨t, z, rfl⟩ := hm y hy;exact q64 t z ph
 match l, hm, hz with
 | [], _, hz => rfl
 | [v], hm, hz =>
   obtain ⟨t, z, rfl⟩ := hm v zKF;have := hz _ zKF;show fzR P ph (t.pv z) = some (t.pv z);unfold fzR;unfold Ty.pv at this ⊢
   cases ht : t.one with
   | true => rw [ht] at this; simp only [cond_true] at this ⊢; rw [this]
   | false => rw [ht] at this; simp only [cond_false] at this ⊢; rw [this]
 | a :: b :: l, _, hz =>
   show (match fzA P (a :: b :: l) ph with
    | some (ys, _) => some (PV.tup ys)
    | none => none) = _
   rw [q0R hz]; rfl
omit [Yl] in
theorem qKT (rs : List Ty) (x : TyL rs) : q4N (j5 rs x) = true := by
 have hm : ∀ y ∈ pvL rs x, qIC y = true := fun y hy => by
  obtain ⟨t, z, rfl⟩ := qAJ hy;exact qUX t z
 have hm2 : ∀ y ∈ pvL rs x, ∃ (t : Ty) (z : t.sem), y = t.pv z := fun y hy => qAJ hy
 unfold j5;generalize pvL rs x = l at hm hm2
 match l, hm, hm2 with
 | [], _, _ => rfl
 | [v], hm, hm2 =>
   have h1 := hm v zKF;obtain ⟨t, z, rfl⟩ := hm2 v zKF;show q4N (t.pv z) = true;unfold Ty.pv at h1 ⊢
   cases ht : t.one with
   | true => rfl
   | false => rw [ht] at h1; exact h1
 | a :: b :: l, hm, _ => exact zJ4.2 hm
def qM2 : List Nat -> Bool
 | [] => true
 | i :: l => !qC3 i l && qM2 l
omit [Yl] in
theorem qNA : ∀ {rl : List Nat} {l base : List SV}, qM2 rl = true -> rl.length = l.length -> (∀ i ∈ rl, i < base.length) -> ∀ (j i : Nat), rl[j]? = some i -> zF (eB rl l base).1 i = l[j]?
 | [], l, base, _, _, _, j, i, h => by simp at h
 | k :: is, [], base, _, hl, _, j, i, h => by simp at hl
 | k :: is, c :: l, base, hn, hl, hb, j, i, h => by
   unfold qM2 at hn;rw [zJ1] at hn
   have hk : k ∉ is := fun hm => by
    have := wO.2 hm;rw [this] at hn;exact absurd hn.1 (by simp)
   show zF (eB is l (y9 base k c)).1 i = _
   cases j with
   | zero =>
     simp at h;subst h;rw [qET hk, zC, qF, zKX, if_pos rfl, if_pos (hb k zKF)];rfl
   | succ j =>
     have h2 : is[j]? = some i := by simpa using h
     rw [qNA (rl := is) (l := l) hn.2 (by simpa using hl) (fun i hi => by rw [jI]; exact hb i (zJ9 _ hi)) j i h2];rfl
def q9E {rs : List Ty} (rdv : List SV -> SH -> Option (TyL rs)) : uN none (TyL rs) := fun e _ env h => match e with
 | .normal => rdv env h
 | .ret => rdv env h
 | _ => none
def nm0 : Nm := ⟨0, fun _ => true⟩
def fnS (P : Program) (G : Nat -> Bool) (T : jE) (IT : List (FuncId × zAV)) (CI : CIT) (an : An) (as rs : List Ty) (fn : Func) (x : TyL as) : Option (TyL rs) := match fn.body with
 | some c => (ev (Γ := none) P G T IT CI yi0 an (rdR P ⟨0, []⟩ fn.resultTypes.toList rs fn.results.toList) (enR fn.ntmps fn.results.toList rs) ⟨0, []⟩ c false nm0 () (svL as x ++ List.replicate (fn.ntmps - as.length) .unk) ⟨0, []⟩ (q9E (rdR P ⟨0, []⟩ fn.resultTypes.toList rs fn.results.toList))).run
 | none => none
def qP4 (as rs : List Ty) (fn : Func) : Bool := match fn.body with
 | some _ => qM2 (fn.results.toList.map qWG) && (Nat.beq fn.results.toList.length rs.length && (Nat.ble as.length fn.ntmps && (fn.results.toList.map qWG).all fun i => Nat.blt i fn.ntmps))
 | none => false
omit [Yl] in
theorem Runs.zGQ {rd : Bool} {c : Code} {env : List PV} {ph : PHp} {Q : PQ} (h : Runs P G rd nm c env ph fun e pe p => ∃ pe' p', Wk P nm pe p pe' p' ∧ Q e pe' p') : Runs P G rd nm c env ph Q := by
 intro Z H m q98 hp hb he;refine (h Z H m q98 hp hb he).mono ?_;rintro o ⟨Z', m', env', ph', a, b, c, d, pe', p', hw, e⟩;obtain ⟨Z1, m1, a1, a2, a3, a4⟩ := hw Z' o.H m' o.env a b;exact ⟨Z1, m1, pe', p', a1, a2, c.trans a3, d.trans a4, e⟩
theorem q9S : YOk P G (Γ := GV none) q7K yi0 := fun g y g' b h => by cases h
theorem q59 [zAX P G] {nat : y7} {T : jE} {IT : List (FuncId × zAV)} {CI : CIT} {an : An} {as rs : List Ty} {g : FuncId} {fn : Func} (s : zA1 P good nat G tab) (ht : qQU tab T) (hit : q3O P G IT) (hci : qZ2 P G CI) (hfn : P.funcs[g]? = some fn) (hc : qP4 as rs fn = true) :
 q9I P G g nm0 (enL as) (fnS P G T IT CI an as rs fn) (j5 rs) := by
 unfold qP4 at hc;split at hc
 case h_2 => cases hc
 rename_i c hbody;simp only [zJ1] at hc;obtain ⟨c1, c2, c3, c4⟩ := hc;refine ⟨fn, c, hfn, hbody, fun x y hF => ⟨fn.ntmps, rfl, ?_⟩⟩;unfold fnS at hF;rw [hbody] at hF;have hF : (ev (Γ := none) P G T IT CI yi0 an (rdR P ⟨0, []⟩ fn.resultTypes.toList rs fn.results.toList) (enR fn.ntmps fn.results.toList rs) ⟨0, []⟩ c false nm0 () (svL as x ++ List.replicate (fn.ntmps - as.length) .unk) ⟨0, []⟩ (q9E (rdR P ⟨0, []⟩ fn.resultTypes.toList rs fn.results.toList))).run = some y := hF;have hal : as.length <= fn.ntmps := zKB c3
 have hlen : (svL as x ++ List.replicate (fn.ntmps - as.length) SV.unk).length = fn.ntmps := by
  rw [zKS, qFS, zMM]; omega
 have hrd : ∀ nm, zC5 P nm fn.ntmps ⟨0, []⟩ (rdR P ⟨0, []⟩ fn.resultTypes.toList rs fn.results.toList) (enR fn.ntmps fn.results.toList rs) := fun nm => qUA qA8
 have zAG : (enL as).p x ++ List.replicate (fn.ntmps - ((enL as).p x).length) PV.unk = qB (svL as x ++ List.replicate (fn.ntmps - as.length) .unk) := by
  have : (enL as).p x = qB (svL as x) := (tN as x).symm;rw [nP, qBW, this, qY, qFS]
 rw [zAG];have hrun := qR.runs (q3D (Γ := none) (wd := q7K) s ht hit hci q9S hrd c qA8 (aQ (qA6 as x) (qJT _ _)) hlen (.refl _) hF);refine Runs.zGQ (hrun.mono ?_);rintro e pe ph ⟨env', h', rfl, rfl, k1, k2, k3, k0, k4, k5⟩
 obtain ⟨he, hr⟩ : (e = .normal ∨ e = .ret) ∧ rdR P ⟨0, []⟩ fn.resultTypes.toList rs fn.results.toList env' h' = some y := by
  cases e with
  | normal => exact ⟨.inl rfl, k5⟩
  | ret => exact ⟨.inr rfl, k5⟩
  | exit _ => cases k5
  | goto _ => cases k5
 obtain ⟨_, _, _, hd, _⟩ := qLC k2 k1 hr;refine ⟨_, _, (hrd nm0).wk _ _ _ k2 k1 k3 k0 hr, he, j5 rs y, ?_, q4H rs y _⟩;unfold gL;have hll : (fn.results.toList.map qWG).length = (svM (fn.results.toList.map qQ2) rs y).length := by rw [qMP, zKK]; exact zJ2 c2
 have hl2 : (fn.results.toList.map fun r => (zF (qB (enR fn.ntmps fn.results.toList rs y)) (qWG r)).getD PV.unk) = qB (svM (fn.results.toList.map qQ2) rs y) := by
  apply zK9;intro j;rw [zKG, qZ (svM _ rs y), zKG]
  cases hj : fn.results.toList[j]? with
  | none =>
    have : (svM (fn.results.toList.map qQ2) rs y)[j]? = none := by
     rw [zMP] at hj ⊢;rw [zKK] at hll;omega
    rw [this]; rfl
  | some rr =>
    have hg := qNA (l := svM (fn.results.toList.map qQ2) rs y) (base := List.replicate fn.ntmps .unk) c1 hll (fun i hi => by
     have := zJ4.1 c4 i hi;rw [zMM]
     exact zKB this) j (qWG rr) (by rw [zKG, hj]; rfl)
    simp only [zKD];rw [zJ];unfold enR;rw [hg]
    have hlt : j < (svM (fn.results.toList.map qQ2) rs y).length := by
     rw [<- hll, zKK]; exact (zJ6.1 hj).1
    rw [zJ5 hlt];rfl
 rw [hd.load _ fn.results.toList _ rfl hl2];show some (qCJ (rtL (rt1 P) fn.resultTypes.toList (pvL rs y))) = some (j5 rs y);rw [hd.rt];rfl
end
end Go.Sv
namespace Go.Sv
open Go.Idl
variable {P : Program}
def q9H (s : ByteArray) (c : Int) : Int := s.foldl (fun n x => if x == c.toNat.toUInt8 then n + 1 else n) ((0 : Nat) : Int)
def q6R (s : ByteArray) (c : Int) : Int := match (List.range s.size).find? (fun i => s[i]! == c.toNat.toUInt8) with
 | some i => (i : Int)
 | none => -1
def qZ5 (x y c : Int) : Int := Int.ofNat ((x.toNat + y.toNat + c.toNat) % 18446744073709551616)
def q0A (x y c : Int) : Int := Int.ofNat ((x.toNat + y.toNat + c.toNat) / 18446744073709551616)
def qUH (x y c : Int) : Int := Int.ofNat ((x.toNat + 18446744073709551616 - y.toNat - c.toNat) % 18446744073709551616)
def qSH (x y c : Int) : Int := Int.ofNat (cond (Nat.blt x.toNat (y.toNat + c.toNat)) 1 0)
def q9L (fn : Func) : Nat := cond (fn.body.isNone && fn.origin == "") (cond (fn.name == "internal/bytealg.CountString") 1 (cond (fn.name == "internal/bytealg.IndexByteString") 2 (cond (fn.name == "math/bits.Add64") 3 (cond (fn.name == "math/bits.Sub64") 4 0)))) 0
def q2S (P : Program) (g : FuncId) : Nat := match P.funcs[g]? with
 | some fn => q9L fn
 | none => 0
theorem qF6 {P : Program} {g : FuncId} {n : Nat} (h : q2S P g = n + 1) : ∃ fn, P.funcs[g]? = some fn ∧ fn.body = none ∧ fn.origin = "" ∧ qMF P g = true ∧ ((n = 0 ∧ fn.name = "internal/bytealg.CountString") ∨ (n = 1 ∧ fn.name = "internal/bytealg.IndexByteString") ∨ (n = 2 ∧ fn.name = "math/bits.Add64") ∨ (n = 3 ∧ fn.name = "math/bits.Sub64")) := by
 unfold q2S at h;split at h
 case h_2 => cases h
 rename_i fn hfn;unfold q9L at h
 cases hc : (fn.body.isNone && fn.origin == "") with
 | false => rw [hc] at h; cases h
 | true =>
   rw [hc] at h;simp only [cond_true] at h;rw [zJ1] at hc
   have ho : fn.origin = "" := by simpa using hc.2
   have hb : fn.body = none := by simpa using hc.1
   have hx : ∀ s, fn.name = s -> (s == "internal/abi.NoEscape") = false -> qMF P g = true := fun s hs h0 => by
    unfold qMF;rw [hfn];simp only;rw [hc.1, hs, h0]; rfl
   refine ⟨fn, hfn, hb, ho, ?_⟩
   cases h1 : (fn.name == "internal/bytealg.CountString") with
   | true =>
     rw [h1] at h
     have h1 : fn.name = "internal/bytealg.CountString" := by simpa using h1
     have h : 1 = n + 1 := h;exact ⟨hx _ h1 (by decide), .inl ⟨by omega, h1⟩⟩
   | false =>
     rw [h1] at h
     cases h2 : (fn.name == "internal/bytealg.IndexByteString") with
     | true =>
       rw [h2] at h
       have h2 : fn.name = "internal/bytealg.IndexByteString" := by simpa using h2
       have h : 2 = n + 1 := h;exact ⟨hx _ h2 (by decide), .inr (.inl ⟨by omega, h2⟩)⟩
     | false =>
       rw [h2] at h
       cases h3 : (fn.name == "math/bits.Add64") with
       | true =>
         rw [h3] at h
         have h3 : fn.name = "math/bits.Add64" := by simpa using h3
         have h : 3 = n + 1 := h;exact ⟨hx _ h3 (by decide), .inr (.inr (.inl ⟨by omega, h3⟩))⟩
       | false =>
         rw [h3] at h
         cases h4 : (fn.name == "math/bits.Sub64") with
         | true =>
           rw [h4] at h
           have h4 : fn.name = "math/bits.Sub64" := by simpa using h4
           have h : 4 = n + 1 := h;exact ⟨hx _ h4 (by decide), .inr (.inr (.inr ⟨by omega, h4⟩))⟩
         | false => rw [h4] at h; cases h
theorem dX {α β : Type} (s : Sem α) (g : α -> Sem β) : zX P (s >>= g) = (zX P s).bind fun a => zX P (g a) := kI g s
theorem q8O : zX P program = some P := rfl
theorem q8W {q : Mark} : zX P (mark q) = some () := rfl
theorem rR {g : FuncId} {fn : Func} {e : Array Value -> Sem Value} {vs : Array Value} {v : Value} (hfn : P.funcs[g]? = some fn) (hb : fn.body = none) (hn : (fn.name == "runtime.NumGoroutine") = false) (h1 : Extern.findNext fn = none) (h2 : Extern.find fn = some e) (h3 : zX P (e vs) = some v) :
 zX P (callFunc g vs) = some (.value v) := by
 unfold callFunc;rw [dX, q8O, zKJ, hfn];simp only [hn, zLR, if_false, hb, Option.isNone_none, if_true, h1, h2];rw [dX, q8W, zKJ];show zX P (do pure (Next.value (<- e vs))) = _;rw [dX, h3];rfl
theorem qPN {fn : Func} (h : fn.name = "internal/bytealg.CountString") (ho : fn.origin = "") : Extern.findNext fn = none ∧ Extern.find fn = some Extern.BytealgCount.count := by
 unfold Extern.findNext Extern.find;simp only [h, ho];exact ⟨by kernel_rfl, by kernel_rfl⟩
theorem find_index {fn : Func} (h : fn.name = "internal/bytealg.IndexByteString") (ho : fn.origin = "") : Extern.findNext fn = none ∧ Extern.find fn = some Extern.BytealgIndexByte.indexByte := by
 unfold Extern.findNext Extern.find;simp only [h, ho];exact ⟨by kernel_rfl, by kernel_rfl⟩
theorem qUJ {g : FuncId} {s : ByteArray} {c : Int} (h : q2S P g = 1) : qMF P g = true ∧ zX P (callFunc g #[.string s, .int .u8 c]) = some (.value (.int .i64 (q9H s c))) := by
 obtain ⟨fn, h1, h2, h3, h4, h5⟩ := qF6 (n := 0) h
 rcases h5 with ⟨_, h5⟩ | ⟨h6, _⟩ | ⟨h6, _⟩ | ⟨h6, _⟩
 ·obtain ⟨a, b⟩ := qPN h5 h3;refine ⟨h4, rR h1 h2 (by rw [h5]; decide) a b ?_⟩;show zX P (do let b <- Extern.Bytes.bytesOf (.string s); let c <- Extern.Bytes.asByte (.int .u8 c); pure (goInt (b.foldl (fun n x => if x == c then n + 1 else n) (0 : Nat)))) = _;rw [dX, show zX P (Extern.Bytes.bytesOf (.string s)) = some s from rfl, zKJ, dX, show zX P (Extern.Bytes.asByte (.int .u8 c)) = some c.toNat.toUInt8 from rfl, zKJ];rfl
 all_goals cases h6
theorem qSU {g : FuncId} {s : ByteArray} {c : Int} (h : q2S P g = 2) : qMF P g = true ∧ zX P (callFunc g #[.string s, .int .u8 c]) = some (.value (.int .i64 (q6R s c))) := by
 obtain ⟨fn, h1, h2, h3, h4, h5⟩ := qF6 (n := 1) h
 rcases h5 with ⟨h6, _⟩ | ⟨_, h5⟩ | ⟨h6, _⟩ | ⟨h6, _⟩
 ·cases h6
 rotate_left
 ·cases h6
 ·cases h6
 ·obtain ⟨a, b⟩ := find_index h5 h3;refine ⟨h4, rR h1 h2 (by rw [h5]; decide) a b ?_⟩
  show zX P (match (List.range s.size).find? (fun i => s[i]! == c.toNat.toUInt8) with
   | some i => pure (goInt i)
   | none => pure (goInt (-1))) = _
  unfold q6R;cases (List.range s.size).find? (fun i => s[i]! == c.toNat.toUInt8) <;> rfl
def q9O : Array Value -> Sem Value := fun args => do
 let (x, y, c) <- Extern.MathBitsCarry.three "Add64" args
 pure (Extern.MathBitsCarry.pair ((x + y + c) % Extern.MathBitsCarry.m64) ((x + y + c) / Extern.MathBitsCarry.m64))
def q87 : Array Value -> Sem Value := fun args => do
 let (x, y, b) <- Extern.MathBitsCarry.three "Sub64" args
 pure (Extern.MathBitsCarry.pair ((x + Extern.MathBitsCarry.m64 - y - b) % Extern.MathBitsCarry.m64) (if x < y + b then 1 else 0))
theorem qZR {fn : Func} (h : fn.name = "math/bits.Add64") (ho : fn.origin = "") : Extern.findNext fn = none ∧ Extern.find fn = some q9O := by
 unfold Extern.findNext Extern.find;simp only [h, ho];exact ⟨by kernel_rfl, by kernel_rfl⟩
theorem qW1 {fn : Func} (h : fn.name = "math/bits.Sub64") (ho : fn.origin = "") : Extern.findNext fn = none ∧ Extern.find fn = some q87 := by
 unfold Extern.findNext Extern.find;simp only [h, ho];exact ⟨by kernel_rfl, by kernel_rfl⟩
theorem qNO {n : String} {x y : Int} : ∀ {c : Int}, Nat.ble c.toNat 1 = true -> zX P (Extern.MathBitsCarry.three n #[.int .u64 x, .int .u64 y, .int .u64 c]) = some (x.toNat, y.toNat, c.toNat)
 | .ofNat 0, _ => rfl
 | .ofNat 1, _ => rfl
 | .ofNat (n + 2), h => by
   have := zKB h;simp at this; omega
 | .negSucc m, _ => rfl
theorem q12 {g : FuncId} {x y c : Int} (h : q2S P g = 3) (hc : Nat.ble c.toNat 1 = true) : qMF P g = true ∧ zX P (callFunc g #[.int .u64 x, .int .u64 y, .int .u64 c]) = some (.value (.tuple #[.int .u64 (qZ5 x y c), .int .u64 (q0A x y c)])) := by
 obtain ⟨fn, h1, h2, h3, h4, h5⟩ := qF6 (n := 2) h
 rcases h5 with ⟨h6, _⟩ | ⟨h6, _⟩ | ⟨_, h5⟩ | ⟨h6, _⟩
 ·cases h6
 ·cases h6
 ·obtain ⟨a, b⟩ := qZR h5 h3;refine ⟨h4, rR h1 h2 (by rw [h5]; decide) a b ?_⟩;unfold q9O;rw [dX, qNO hc];rfl
 ·cases h6
theorem q2R {g : FuncId} {x y c : Int} (h : q2S P g = 4) (hc : Nat.ble c.toNat 1 = true) : qMF P g = true ∧ zX P (callFunc g #[.int .u64 x, .int .u64 y, .int .u64 c]) = some (.value (.tuple #[.int .u64 (qUH x y c), .int .u64 (qSH x y c)])) := by
 obtain ⟨fn, h1, h2, h3, h4, h5⟩ := qF6 (n := 3) h
 rcases h5 with ⟨h6, _⟩ | ⟨h6, _⟩ | ⟨h6, _⟩ | ⟨_, h5⟩
 ·cases h6
 ·cases h6
 ·cases h6
 ·obtain ⟨a, b⟩ := qW1 h5 h3;refine ⟨h4, rR h1 h2 (by rw [h5]; decide) a b ?_⟩;unfold q87;rw [dX, qNO hc];simp only [zKJ];show some (Extern.MathBitsCarry.pair ((x.toNat + 18446744073709551616 - y.toNat - c.toNat) % 18446744073709551616) (if x.toNat < y.toNat + c.toNat then 1 else 0)) = _;unfold qUH qSH Extern.MathBitsCarry.pair;by_cases hlt : x.toNat < y.toNat + c.toNat
  ·rw [if_pos hlt, show Nat.blt x.toNat (y.toNat + c.toNat) = true from zKW hlt]; rfl
  ·rw [if_neg hlt, show Nat.blt x.toNat (y.toNat + c.toNat) = false from zNK.2 fun h => hlt (zKB h)]; rfl
noncomputable section
variable [Gc]
class Hnd where
 ci : CIT
class zBJ (P : Program) (G : Nat -> Bool) [Hnd] : Prop where
 ok : ∀ [Yl], qZ2 P G Hnd.ci
instance (priority := low) zFH : Hnd := ⟨fun _ _ _ _ _ _ => .fail⟩
instance (priority := low) hndOk0 {G : Nat -> Bool} : @zBJ _ P G zFH := by
 letI : Hnd := zFH
 refine ⟨fun {_} => ?_⟩;intro R nm f as h K r ho ha e;cases e
variable [Yl] {R : Type} {r : R} {G : Nat -> Bool}
def q71 (P : Program) (f : FuncId) (as : List SV) (h : SH) (K : SV -> SH -> q97 R) (F : q97 R) : q97 R := match q2S P f, as with
 | 1, [x, y] => (match asS x, asI y with
   | some s, some (.u8, c) => K (.d (.int .i64) (q9H s c)) h
   | _, _ => .fail)
 | 2, [x, y] => (match asS x, asI y with
   | some s, some (.u8, c) => K (.d (.int .i64) (q6R s c)) h
   | _, _ => .fail)
 | 3, [x, y, z] => (match asI x, asI y, asI z with
   | some (.u64, a), some (.u64, b), some (.u64, c) => .ite (Nat.ble c.toNat 1) (K (.tup [.d (.int .u64) (qZ5 a b c), .d (.int .u64) (q0A a b c)]) h) .fail
   | _, _, _ => .fail)
 | 4, [x, y, z] => (match asI x, asI y, asI z with
   | some (.u64, a), some (.u64, b), some (.u64, c) => .ite (Nat.ble c.toNat 1) (K (.tup [.d (.int .u64) (qUH a b c), .d (.int .u64) (qSH a b c)]) h) .fail
   | _, _, _ => .fail)
 | _, _ => F
end
end Go.Sv
namespace Go.Sv
open Go.Idl
noncomputable section
variable [Gc]
variable [Frs]
variable [Yl]
variable {P : Program} {G : Nat -> Bool} {nm : Nm} {tab : uH} {nat : y7} {good : FuncId -> Bool} {T : jE} {IT : List (FuncId × zAV)}
omit [Yl] in
theorem qY8 {g : FuncId} {fn : Func} {c : Code} {N : Nat} {args : List PV} {ph : PHp} {R : PV -> PHp -> Prop} (hent : enters P g = true) (hfn : P.funcs[g]? = some fn) (hb : fn.body = some c) (hN : fn.ntmps = N)
 (h : Runs P G false nm c (args ++ List.replicate (N - args.length) .unk) ph fun e pe p => (e = .normal ∨ e = .ret) ∧ ∃ v, gL P fn pe p = some v ∧ R v p) :
 qCK P G nm g args ph R := by
 refine .inr ⟨hent, fun Z H m zAL hp hbs hv => ?_⟩;refine uS.of hfn hb hN ?_
 have zAG : VRL P Z H (own m ph) (args ++ List.replicate (N - args.length) .unk) (zAL ++ List.replicate (N - zAL.length) undef) := by
  rw [hv.len];refine VRL.append hv ⟨by simp, fun i z v h1 h2 => ?_⟩;rw [zM0] at h1;split at h1
  ·cases h1; exact .unk
  ·cases h1
 refine (h Z H m _ hp hbs zAG).mono ?_;rintro o ⟨Z', m', env', ph', a1, b1, c1, d1, he, v, hr, hR⟩;refine ⟨he, ?_⟩;obtain ⟨u, v1, v2⟩ := qA5 a1 b1 hr;exact ⟨u, v1, Z', m', v, ph', a1, v2, c1, d1, hR⟩
def rtS (P : Program) (ty : TypeId) : SV -> Option SV
 | .d t x => cond (t.one && t.nol) (some (.d t x)) none
 | .c (.slice none 0 0) => match zV P ty with
   | some el => (match qCU P 8 el with
     | some t => some (.d (.list el t) [])
     | none => none)
   | none => none
 | .c (.int k x) => some (.c (.int k x))
 | .c .nilIface => some (.c .nilIface)
 | .c (.bool b) => some (.c (.bool b))
 | .c (.string b) => some (.c (.string b))
 | .own k g n => some (.own k g n)
 | .sl k g n o m => some (.sl k g n o m)
 | .ref k o w => some (.ref k o w)
 | .elt k g n w j o => some (.elt k g n w j o)
 | .lp t xs j o => some (.lp t xs j o)
 | .fn f a b => some (.fn f a b)
 | _ => none
def q7U (P : Program) : List TypeId -> List SV -> Option (List SV)
 | ty :: tys, v :: l => (match cond (Gc.ol ty) (some v) (rtS P ty v), q7U P tys l with
   | some x, some y => some (x :: y)
   | _, _ => none)
 | [], l => some l
 | _ :: _, [] => some []
def q76 (P : Program) (ty : TypeId) : SV -> Option SV
 | .agg l => (match q7U P (vF P 8 ty) l with
   | some l' => some (.agg l')
   | none => none)
 | v => rtS P ty v
theorem qO7 {ty : TypeId} {v v' : SV} (e : rtS P ty v = some v') : (rt1 P ty v.enc = v'.enc ∧ rt0 P ty v.enc = v'.enc) ∧ ∀ h, v.ok h -> v'.ok h := by
 unfold rtS at e;split at e
 ·rename_i t x
  cases ht : (t.one && t.nol) with
  | true =>
    rw [ht] at e;cases e
    refine ⟨⟨?_, ?_⟩, fun h hv => hv⟩ <;>
    ·simp only [SV.enc];exact qBB ht
  | false => rw [ht] at e; cases e
 ·split at e
  ·rename_i el hel;split at e
   ·rename_i t ht;cases e
    refine ⟨⟨?_, ?_⟩, fun h _ => by simp [SV.ok]⟩ <;>
    ·simp only [SV.enc, fvv]
     show (match zV P ty with
      | some el => PV.f (.l el 0 [])
      | none => fvv (.slice none 0 0)) = _
     rw [hel];rfl
   ·cases e
  ·cases e
 all_goals first
  | (cases e; exact ⟨⟨by simp only [SV.enc]; rfl, by simp only [SV.enc]; rfl⟩, fun h hv => hv⟩)
  | cases e
theorem qUE : ∀ {tys : List TypeId} {l l' : List SV}, q7U P tys l = some l' -> rtL (rtC P) tys (qB l) = qB l' ∧ ∀ h, okL h l -> okL h l'
 | [], l, l', e => by
   have e : some l = some l' := by cases l <;> exact e
   cases e;exact ⟨by cases qB l <;> rfl, fun _ h => h⟩
 | ty :: tys, [], l', e => by
   cases e;exact ⟨by simp [qB, rtL], fun _ h => h⟩
 | ty :: tys, v :: l, l', e => by
   unfold q7U at e;split at e
   ·rename_i x y hx hy;cases e;obtain ⟨b1, b2⟩ := qUE hy
    have hv : rtC P ty v.enc = x.enc ∧ ∀ h, v.ok h -> x.ok h := by
     unfold rtC
     cases hc : Gc.ol ty with
     | true => rw [hc] at hx; cases hx; exact ⟨rfl, fun _ h => h⟩
     | false => rw [hc] at hx; exact ⟨(qO7 hx).1.2, (qO7 hx).2⟩
    refine ⟨?_, fun h hl => ?_⟩
    ·simp only [qB, rtL, hv.1, b1]
    ·simp only [okL] at hl ⊢;exact ⟨hv.2 h hl.1, b2 h hl.2⟩
   ·cases e
theorem q1J {ty : TypeId} {v v' : SV} (e : q76 P ty v = some v') : rt1 P ty v.enc = v'.enc ∧ ∀ h, v.ok h -> v'.ok h := by
 unfold q76 at e;split at e
 ·rename_i l;split at e
  ·rename_i l' hl;cases e;obtain ⟨a1, a2⟩ := qUE hl;refine ⟨?_, fun h hv => ?_⟩
   ·simp only [SV.enc];show PV.agg (rtL (rtC P) (vF P 8 ty) (qB l)) = _;rw [a1]
   ·simp only [SV.ok] at hv ⊢;exact a2 h hv
  ·cases e
 ·exact ⟨(qO7 e).1.1, (qO7 e).2⟩
def q4X (P : Program) : List TypeId -> List SV -> Option (List SV)
 | _, [] => some []
 | ty :: tys, v :: l => (match q76 P ty v, q4X P tys l with
   | some x, some y => some (x :: y)
   | _, _ => none)
 | [], _ :: _ => none
theorem qRI : ∀ {tys : List TypeId} {l l' : List SV}, q4X P tys l = some l' -> rtL (rt1 P) tys (qB l) = qB l' ∧ ∀ h, okL h l -> okL h l'
 | tys, [], l', e => by
   have : some [] = some l' := by cases tys <;> exact e
   cases this;exact ⟨by cases tys <;> simp [qB, rtL], fun h hl => hl⟩
 | ty :: tys, v :: l, l', e => by
   unfold q4X at e;split at e
   ·rename_i x y hx hy;cases e;obtain ⟨a1, a2⟩ := q1J hx;obtain ⟨b1, b2⟩ := qRI hy;refine ⟨?_, fun h hl => ?_⟩
    ·simp only [qB, rtL, a1, b1]
    ·simp only [okL] at hl ⊢;exact ⟨a2 h hl.1, b2 h hl.2⟩
   ·cases e
 | [], _ :: _, _, e => by cases e
def qQ6 : List SV -> SV
 | [v] => v
 | vs => .tup vs
def q72 {R : Type} (P : Program) (zCD : List TypeId) (rl : List Nat) (K : SV -> SH -> q97 R) : uN none R := fun e _ env h => match e with
 | .normal => (match qJR rl env with
   | some vs => (match q4X P zCD vs with
     | some ws => K (qQ6 ws) h
     | none => .fail)
   | none => .fail)
 | .ret => (match qJR rl env with
   | some vs => (match q4X P zCD vs with
     | some ws => K (qQ6 ws) h
     | none => .fail)
   | none => .fail)
 | _ => .fail
def q39 : List ResultVar -> Option (List Nat)
 | [] => some []
 | .tmp t :: l => (q39 l).map (t :: ·)
 | .cell _ _ :: _ => none
omit [Yl] in
theorem qIM {env : List PV} {ph : PHp} : ∀ {l : List ResultVar} {rl : List Nat}, q39 l = some rl -> qF2 P env ph l = some (rl.map fun t => (zF env t).getD .unk)
 | [], rl, e => by cases e; rfl
 | .tmp t :: l, rl, e => by
   obtain ⟨rl', h1, rfl⟩ := zKA.1 e;simp only [qF2, qY0, qIM h1, zKI]
 | .cell _ _ :: _, rl, e => by cases e
abbrev Ans := List (FuncId × (An × List Ty))
def ciN [Hnd] (P : Program) (G : Nat -> Bool) (T : jE) (IT : List (FuncId × zAV)) (ans : Ans) : Nat -> CIT
 | 0 => fun R nm f as h K => q71 P f as h K (Hnd.ci R nm f as h K)
 | n + 1 => fun R nm f as h K => match P.funcs[f]?, lkA f ans with
   | some fn, some (an, rs) => (match fn.body, q39 fn.results.toList with
     | some c, some rl => cond (enters P f && Nat.ble as.length fn.ntmps) (ev (Γ := none) P G T IT (ciN P G T IT ans n) yi0 an (rdR P h fn.resultTypes.toList rs fn.results.toList) (enR fn.ntmps fn.results.toList rs) h c false nm () (as ++ List.replicate (fn.ntmps - as.length) .unk) h (q72 P fn.resultTypes.toList rl K)) .fail
     | _, _ => .fail)
   | _, _ => q71 P f as h K (Hnd.ci R nm f as h K)
theorem qRS {R : Type} {nm : Nm} {f : FuncId} {as : List SV} {h : SH} {K : SV -> SH -> q97 R} {F : q97 R} {r : R} (ho : OkH P h) (e : (q71 P f as h K F).run = some r) :
 qCK P G nm f (qB as) (qD h.l) (fun v p => ∃ v' h', v = v'.enc ∧ p = qD h'.l ∧ Post P h h' v' ∧ (K v' h').run = some r) ∨ F.run = some r := by
 have go : ∀ {x y : SV} {s : ByteArray} {c z : Int}, asS x = some s -> asI y = some (.u8, c) -> qMF P f = true ∧ zX P (callFunc f #[.string s, .int .u8 c]) = some (.value (.int .i64 z)) -> (K (.d (.int .i64) z) h).run = some r ->
  qCK P G nm f (qB [x, y]) (qD h.l) (fun v p => ∃ v' h', v = v'.enc ∧ p = qD h'.l ∧ Post P h h' v' ∧ (K v' h').run = some r) := fun {x y s c z} hs hc hx hk => by
  refine .inl ⟨hx.1, [.string s, .int .u8 c], .int .i64 z, ?_, rfl, hx.2, rfl, _, h, ?_, rfl, ⟨.refl _, ho, ?_⟩, hk⟩
  ·simp only [qB, gN hs, yJ hc]; rfl
  ·simp [SV.enc, Ty.fv]; rfl
  ·simp [SV.ok]
 have go3 : ∀ {x y z : SV} {a b c u v : Int}, asI x = some (.u64, a) -> asI y = some (.u64, b) -> asI z = some (.u64, c) -> qMF P f = true ∧ zX P (callFunc f #[.int .u64 a, .int .u64 b, .int .u64 c]) = some (.value (.tuple #[.int .u64 u, .int .u64 v])) -> (K (.tup [.d (.int .u64) u, .d (.int .u64) v]) h).run = some r ->
  qCK P G nm f (qB [x, y, z]) (qD h.l) (fun v p => ∃ v' h', v = v'.enc ∧ p = qD h'.l ∧ Post P h h' v' ∧ (K v' h').run = some r) := fun {x y z a b c u v} ha hb hc hx hk => by
  refine .inl ⟨hx.1, [.int .u64 a, .int .u64 b, .int .u64 c], .tuple #[.int .u64 u, .int .u64 v], ?_, rfl, hx.2, rfl, _, h, ?_, rfl, ⟨.refl _, ho, ?_⟩, hk⟩
  ·simp only [qB, yJ ha, yJ hb, yJ hc]; rfl
  ·simp [SV.enc, qB, Ty.fv]; rfl
  ·simp [SV.ok, okL]
 unfold q71 at e;split at e
 ·rename_i x y hx;split at e
  ·rename_i s c hs hc;exact .inl (go hs hc (qUJ hx) e)
  ·cases e
 ·rename_i x y hx;split at e
  ·rename_i s c hs hc;exact .inl (go hs hc (qSU hx) e)
  ·cases e
 ·rename_i x y z hx;split at e
  ·rename_i a b c ha hb hc
   rcases run_ite e with ⟨q, e1⟩ | ⟨_, e1⟩
   ·exact .inl (go3 ha hb hc (q12 hx q) e1)
   ·cases e1
  ·cases e
 ·rename_i x y z hx;split at e
  ·rename_i a b c ha hb hc
   rcases run_ite e with ⟨q, e1⟩ | ⟨_, e1⟩
   ·exact .inl (go3 ha hb hc (q2R hx q) e1)
   ·cases e1
  ·cases e
 ·exact .inr e
theorem qNL {env : List SV} : ∀ {rl : List Nat} {vs : List SV}, qJR rl env = some vs -> (rl.map fun t => (zF (qB env) t).getD PV.unk) = qB vs
 | [], vs, e => by cases e; simp [qB]
 | i :: is, vs, e => by
   unfold qJR at e;split at e
   ·rename_i v l hx hl;cases e;rw [zKI, qNL hl, zJ, hx];simp [qB]
   ·cases e
theorem qZA (l : List SV) : (qQ6 l).enc = qCJ (qB l) := by
 match l with
 | [] => simp [qQ6, qCJ, SV.enc, qB]
 | [v] => simp [qQ6, qCJ, qB]
 | a :: b :: l => simp [qQ6, qCJ, SV.enc, qB]
omit [Yl] in
theorem q3G {h : SH} {l : List SV} (hl : okL h l) : (qQ6 l).ok h := by
 match l, hl with
 | [], hl => simp [qQ6, SV.ok, okL]
 | [v], hl => simp only [okL] at hl; exact hl.1
 | a :: b :: l, hl => simp only [qQ6, SV.ok]; exact hl
theorem qJJ [Hnd] [zBJ P G] [zAX P G] (s : zA1 P good nat G tab) (ht : qQU tab T) (hit : q3O P G IT) (ans : Ans) : ∀ n, qZ2 P G (ciN P G T IT ans n)
 | 0 => by
   intro nm f as h K r ho ha e;unfold ciN at e;rcases qRS (nm := nm) ho e with h1 | h1
   ·exact h1
   ·exact zBJ.ok (P := P) (G := G) nm f as h K r ho ha h1
 | n + 1 => by
   intro nm f as h K r ho ha e;unfold ciN at e;split at e
   case h_2 =>
    rcases qRS (nm := nm) ho e with h1 | h1
    ·exact h1
    ·exact zBJ.ok (P := P) (G := G) nm f as h K r ho ha h1
   rename_i fn an rs hfn hans;split at e
   case h_2 => cases e
   rename_i c rl hbody hrl;obtain ⟨hc, e⟩ := qG e;rw [zJ1] at hc;have hal : as.length <= fn.ntmps := zKB hc.2
   have hlen : (as ++ List.replicate (fn.ntmps - as.length) SV.unk).length = fn.ntmps := by
    rw [zKS, zMM]; omega
   refine qY8 hc.1 hfn hbody rfl ?_
   have zAG : qB as ++ List.replicate (fn.ntmps - (qB as).length) PV.unk = qB (as ++ List.replicate (fn.ntmps - as.length) .unk) := by
    rw [nP, qBW, qY]
   rw [zAG];refine (qR.runs (q3D (Γ := none) (wd := q7K) s ht hit (qJJ s ht hit ans n) q9S (fun nm => qUA ho) c ho (aQ ha (qJT _ _)) hlen (.refl _) e)).mono ?_;rintro ex pe ph ⟨env', h', rfl, rfl, k1, k2, k3, k0, k4, k5⟩
   have key : ∀ {vs ws : List SV}, qJR rl env' = some vs -> q4X P fn.resultTypes.toList vs = some ws -> (K (qQ6 ws) h').run = some r -> ∃ v, gL P fn (qB env') (qD h'.l) = some v ∧ ∃ v' h2, v = v'.enc ∧ qD h'.l = qD h2.l ∧ Post P h h2 v' ∧ (K v' h2).run = some r := fun {vs ws} hvs hws hk => by
    obtain ⟨a1, a2⟩ := qRI hws;refine ⟨(qQ6 ws).enc, ?_, qQ6 ws, h', rfl, rfl, ⟨k0, k2, q3G (a2 _ (yF.2 fun z hz => yF.1 k1 z (qEC hvs z hz)))⟩, hk⟩;unfold gL;rw [qIM hrl, qNL hvs, qZA, <- a1];rfl
   cases ex with
   | normal =>
     simp only [q72] at k5;split at k5
     ·split at k5
      ·exact ⟨.inl rfl, key ‹_› ‹_› k5⟩
      ·cases k5
     ·cases k5
   | ret =>
     simp only [q72] at k5;split at k5
     ·split at k5
      ·exact ⟨.inr rfl, key ‹_› ‹_› k5⟩
      ·cases k5
     ·cases k5
   | exit _ => cases k5
   | goto _ => cases k5
def q92 {γ : Type} : uN (some γ) γ := fun e g _ _ => match e with
 | .normal => some g
 | .ret => some g
 | _ => none
def fnI (P : Program) (G : Nat -> Bool) (T : jE) (IT : List (FuncId × zAV)) (CI : CIT) (an : An) (as ys : List Ty) (yt : List TypeId) (fn : Func) (x : TyL as) (γ : Type) (stp : γ -> TyL ys -> Option (γ × Bool)) (g0 : γ) : Option γ := match fn.body with
 | some c => (ev (Γ := some γ) (rs := []) P G T IT CI ⟨ys, yt, stp⟩ an (rdR P ⟨0, []⟩ [] [] []) (enR fn.ntmps [] []) ⟨0, []⟩ c false nm0 g0 (.yv :: (qKE as x ++ List.replicate (fn.ntmps - (as.length + 1)) .unk)) ⟨0, []⟩ q92).run
 | none => none
end
noncomputable section
variable [Gc]
variable [Frs]
variable {P : Program} {G : Nat -> Bool} {nm : Nm} {tab : uH} {nat : y7} {good : FuncId -> Bool} {T : jE} {IT : List (FuncId × zAV)}
theorem q1N [zAX P G] (s : zA1 P good nat G tab) (ht : ∀ [Yl], qQU tab T) (hit : ∀ [Yl], q3O P G IT) {CI : [Yl] -> CIT} (hci : ∀ [Yl], qZ2 P G CI) {an : An} {as ys : List Ty} {yt : List TypeId} {f : FuncId} {fn : Func} {F : TyL as -> (γ : Type) -> (γ -> TyL ys -> Option (γ × Bool)) -> γ -> Option γ}
 (hent : entered P f = true) (hfn : P.funcs[f]? = some fn) (hc : (Nat.ble (as.length + 1) fn.ntmps && fn.results.toList.isEmpty) = true) (hF : ∀ (y : Yl) x γ stp g0, @fnI _ _ y P G T IT CI an as ys yt fn x γ stp g0 = F x γ stp g0) [Yl] : q0G P G f ⟨as, ys, yt, F⟩ := by
 refine ⟨hent, fun x γ stp g0 g1 hx w l hst Z H D us hz hb hgl hW hv => ?_⟩
 letI : Yl := ⟨l⟩
 have hx : F x γ stp g0 = some g1 := hx;rw [<- hF ⟨l⟩] at hx;unfold fnI at hx;split at hx
 case h_2 => cases hx
 rename_i c hbody;rw [zJ1] at hc;have hal := zKB hc.1;have hres : fn.results = #[] := by simpa using hc.2
 have hlen : (SV.yv :: (qKE as x ++ List.replicate (fn.ntmps - (as.length + 1)) SV.unk)).length = fn.ntmps := by
  rw [zKM, zKS, qEN, zMM]; omega
 have hok : okL ⟨0, []⟩ (SV.yv :: (qKE as x ++ List.replicate (fn.ntmps - (as.length + 1)) SV.unk)) := by
  simp only [okL];exact ⟨by simp [SV.ok], aQ (qVJ as x) (qJT _ _)⟩
 have hy : YOk P G (Γ := GV (some γ)) w ⟨ys, yt, stp⟩ := fun g y g' b h => hst g y g' b h
 have hrun := q3D (Γ := some γ) (wd := w) s ht hit hci hy (fun nm => qUA qA8) c qA8 hok hlen (.refl _) hx;refine uS.of hfn hbody rfl ?_;have e0 : own (fun _ => 0) [] = fun _ => none := rfl
 have hp0 : Hp P Z H (own (fun _ => 0) []) := ⟨hz, fun k b ob hk => (by cases hk), fun k k' b b' ob ob' hk => (by cases hk), hgl⟩
 have zAG : VRL P Z H (own (fun _ => 0) []) (qB (SV.yv :: (qKE as x ++ List.replicate (fn.ntmps - (as.length + 1)) SV.unk))) ((.func (.yield l) #[] #[] :: us) ++ List.replicate (fn.ntmps - (Value.func (.yield l) #[] #[] :: us).length) undef) := by
  simp only [qB, nP, qEQ, qBW, zLZ];refine .cons .yl ?_;have hul : us.length = as.length := by rw [<- hv.len, <- qEQ, qY, qEN]
  rw [zKM, hul];refine VRL.append hv ⟨by simp, fun i z v h1 h2 => ?_⟩;rw [zM0] at h1;split at h1
  ·cases h1; exact .unk
  ·cases h1
 refine (hrun Z H (fun _ => 0) _ D ⟨hp0, zAG, hW, fun b _ => qCD b⟩ hb).mono ?_;rintro o ⟨Z', m', pe, ph, g', D', st, sd, kr, env', h', rfl, rfl, k1, k2, k3, k0, k4, k5⟩
 obtain ⟨he, hg⟩ : (o.e = .normal ∨ o.e = .ret) ∧ g' = g1 := by
  cases hoe : o.e with
  | normal => rw [hoe] at k5; exact ⟨.inl rfl, zK2 k5⟩
  | ret => rw [hoe] at k5; exact ⟨.inr rfl, zK2 k5⟩
  | exit _ => rw [hoe] at k5; cases k5
  | goto _ => rw [hoe] at k5; cases k5
 subst hg;refine ⟨he, .tuple #[], by unfold jK; rw [hres]; rfl, Z', D', st.hp.zlt, st.wd, ⟨sd.size, sd.base, sd.zle, fun b h1 h2 h3 => sd.keep b h1 h2 h3, fun b h1 h2 => sd.zA6 b h1 h2, fun b h1 _ => absurd h1 (qCD b), sd.zBP⟩⟩
def Lib (P : Program) (good : FuncId -> Bool) (G : Nat -> Bool) (T : jE) (IT : List (FuncId × zAV)) : Prop := ∃ nat tab, zA1 P good nat G tab ∧ (∀ [Yl], qQU tab T) ∧ ∀ [Yl], q3O P G IT
theorem Lib.zBT (L : Lib P good G T IT) (g : FuncId) (as rs : List Ty) (F : TyL as -> Option (TyL rs)) (hent : enters P g = true)
 (h : ∀ {nat : y7}, Setup P good nat G -> ∀ (x : TyL as) (y : TyL rs) (args : List Value) (H : IH), F x = some y -> (∃ Z : Nat -> Prop, VRL P Z H (fun _ => none) ((enL as).p x) args ∧ ∀ b, Z b -> b < H.size) -> H.base <= H.size -> GlH H -> uS P G g args H fun q => qY5 P (enL as) F (j5 rs) x args H q.1 q.2) : Lib P good G ((g, ⟨as, rs, F⟩) :: T) IT := by
 obtain ⟨nat, tab, s, ht, hit⟩ := L
 letI : Yl := ⟨0⟩
 refine ⟨_, _, s.zBT (enL as) F (j5 rs) hent (qKT rs) (h s.s), ?_, hit⟩;intro _ g' ent hg x;have hg : cond (Nat.beq g' g) (some (⟨as, rs, F⟩ : Ent)) (slT g' T) = some ent := hg;unfold q48
 cases hb : Nat.beq g' g with
 | true =>
   rw [hb] at hg;cases hg;exact qS1 (a := enL as) x
 | false =>
   rw [hb] at hg;exact ht g' ent hg x
theorem Lib.add [Hnd] [zBJ P G] [zAX P G] (L : Lib P good G T IT) (g : FuncId) (ans : Ans) (n : Nat) (an : An) (as rs : List Ty) (fn : Func) (F : TyL as -> Option (TyL rs)) (hent : enters P g = true) (hfn : P.funcs[g]? = some fn) (hc : qP4 as rs fn = true)
 (hF : ∀ (y : Yl) x, @fnS _ _ y P G T IT (ciN P G T IT ans n) an as rs fn x = F x) : Lib P good G ((g, ⟨as, rs, F⟩) :: T) IT := by
 obtain ⟨nat, tab, s, ht, hit⟩ := L
 letI : Yl := ⟨0⟩
 have hF2 : fnS P G T IT (ciN P G T IT ans n) an as rs fn = F := funext fun x => hF ⟨0⟩ x
 have zDY := q59 (an := an) (as := as) (rs := rs) s ht hit (qJJ s ht hit ans n) hfn hc;rw [hF2] at zDY;refine ⟨_, _, s.add (enL as) F (j5 rs) hent (qKT rs) zDY, ?_, hit⟩;intro _ g' ent hg x;have hg : cond (Nat.beq g' g) (some (⟨as, rs, F⟩ : Ent)) (slT g' T) = some ent := hg;unfold q48
 cases hb : Nat.beq g' g with
 | true =>
   rw [hb] at hg;cases hg;exact qS1 (a := enL as) x
 | false =>
   rw [hb] at hg;exact ht g' ent hg x
theorem Lib.zH4 [Hnd] [zBJ P G] [zAX P G] (L : Lib P good G T IT) (f : FuncId) (ans : Ans) (n : Nat) (an : An) (as ys : List Ty) (yt : List TypeId) (fn : Func) (F : TyL as -> (γ : Type) -> (γ -> TyL ys -> Option (γ × Bool)) -> γ -> Option γ) (hent : entered P f = true) (hfn : P.funcs[f]? = some fn) (hc : (Nat.ble (as.length + 1) fn.ntmps && fn.results.toList.isEmpty) = true)
 (hF : ∀ (y : Yl) x γ stp g0, @fnI _ _ y P G T IT (ciN P G T IT ans n) an as ys yt fn x γ stp g0 = F x γ stp g0) : Lib P good G T ((f, ⟨as, ys, yt, F⟩) :: IT) := by
 obtain ⟨nat, tab, s, ht, hit⟩ := L;refine ⟨nat, tab, s, ht, ?_⟩;intro _ f' ent hg;have hg : cond (Nat.beq f' f) (some (⟨as, ys, yt, F⟩ : zAV)) (slI f' IT) = some ent := hg
 cases hb : Nat.beq f' f with
 | true =>
   rw [hb] at hg;cases hg;rw [zJ2 hb];exact q1N s ht hit (CI := ciN P G T IT ans n) (qJJ s ht hit ans n) hent hfn hc hF
 | false =>
   rw [hb] at hg;exact hit f' ent hg
theorem Lib.zH5 [Hnd] [zBJ P G] [zAX P G] (L : Lib P good G T IT) (g : FuncId) (ans : Ans) (an : An) (as rs : List Ty) (fn : Func) (F : TyL as -> Option (TyL rs)) (hent : enters P g = true) (hfn : P.funcs[g]? = some fn) (hc : qP4 as rs fn = true)
 (hF : (fun (y : Yl) (x : TyL as) => @fnS _ _ y P G T IT (ciN P G T IT ans 3) an as rs fn x) = fun (_ : Yl) x => F x) : Lib P good G ((g, ⟨as, rs, F⟩) :: T) IT := L.add g ans 3 an as rs fn F hent hfn hc fun y x => congrFun (congrFun hF y) x
theorem Lib.zGR [Hnd] [zBJ P G] [zAX P G] (L : Lib P good G T IT) (f : FuncId) (ans : Ans) (an : An) (as ys : List Ty) (yt : List TypeId) (fn : Func) (F : TyL as -> (γ : Type) -> (γ -> TyL ys -> Option (γ × Bool)) -> γ -> Option γ) (hent : entered P f = true) (hfn : P.funcs[f]? = some fn) (hc : (Nat.ble (as.length + 1) fn.ntmps && fn.results.toList.isEmpty) = true)
 (hF : (fun (y : Yl) (x : TyL as) (γ : Type) (stp : γ -> TyL ys -> Option (γ × Bool)) (g0 : γ) => @fnI _ _ y P G T IT (ciN P G T IT ans 3) an as ys yt fn x γ stp g0) = fun (_ : Yl) x γ stp g0 => F x γ stp g0) : Lib P good G T ((f, ⟨as, ys, yt, F⟩) :: IT) :=
 L.zH4 f ans 3 an as ys yt fn F hent hfn hc fun y x γ stp g0 => congrFun (congrFun (congrFun (congrFun (congrFun hF y) x) γ) stp) g0
end
end Go.Sv
namespace Go.Sv
open Go.Idl
variable [Gc] {P : Program} {G : Nat -> Bool} {tab : uH} {nat : y7} {good : FuncId -> Bool}
theorem qVT {k : IntKind} : ∀ {cs : List FV}, cs.all (isK k) = true -> ∃ xs : List Int, cs = List.flatMap (Ty.int k).cells xs ∧ xs.length = cs.length
 | [], _ => ⟨[], rfl, rfl⟩
 | c :: cs, h => by
   rw [zK6, zJ1] at h;obtain ⟨xs, h1, h2⟩ := qVT h.2;have hc := h.1;unfold isK at hc;split at hc
   ·rename_i k' x;have : k = k' := of_decide_eq_true hc;subst this;exact ⟨x :: xs, by rw [zKV, <- h1]; rfl, by rw [zKM, zKM, h2]⟩
   ·cases hc
theorem q56 [Frs] (s : zA1 P good nat G tab) (h : ∀ g el, Frs.fr g = some el -> enters P g = true ∧ qMF P g = false ∧ szT P el = some 1 ∧ tab g [.f (.l el 0 [])] = some (.f (.l el 0 [])) ∧
 ∀ (xs : List Int), xs ≠ [] -> Nat.ble xs.length 1048576 = true -> qCK P G nm0 g [.f (.l el xs.length (List.flatMap (Ty.int Frs.fk).cells xs))] [] fun v p => ∃ k0, v = .own k0 xs.length 0 xs.length ∧ qA k0 p = some ⟨el, true, (List.flatMap (Ty.int Frs.fk).cells xs).map .f⟩) : zAX P G := by
 refine ⟨fun g el hg => ?_⟩;obtain ⟨h1, hx, hsz, h2, h3⟩ := h g el hg;refine ⟨h1, fun n cs hfo Z H zAL hp hb hv => ?_⟩;unfold qWE at hfo;rw [hsz] at hfo;simp only [zJ1] at hfo;obtain ⟨f1, f2, _, f3⟩ := hfo;obtain ⟨xs, rfl, hlen⟩ := qVT f3
 have hn : n = xs.length := by
  have := zJ2 f1;omega
 subst hn;by_cases hxs : xs = []
 ·subst hxs;obtain ⟨_, _, k, hk, hc⟩ := s.t g _ _ h2;intro args' f w hR hG ha;refine s.s.spec g k hk zAL args' H f w _ hR hG ha (hc Z H zAL hv hp.zlt hb hp.gl _ fun v H' Z' k1 k2 k3 k4 k5 => ?_);have hp2 : Hp P Z' H' (own (fun _ => 0) []) := hp.old k1 k2 k3 k4;exact ⟨Z', fun _ => 0, .f (.l el 0 []), [], hp2, k5, .old k1 k2 k4, .inl ⟨rfl, rfl⟩⟩
 ·rcases h3 xs hxs f2 with ⟨e, _⟩ | ⟨_, hc⟩
  ·rw [hx] at e; cases e
  ·refine (hc Z H (fun _ => 0) zAL hp hb hv).mono ?_;rintro r ⟨Z', m', pv, ph', a, b, c, d, k0, rfl, e⟩;refine ⟨Z', m', _, ph', a, b, c, .inr ⟨fun h => hxs (List.eq_nil_of_length_eq_zero h), k0, rfl, e⟩⟩
end Go.Sv
