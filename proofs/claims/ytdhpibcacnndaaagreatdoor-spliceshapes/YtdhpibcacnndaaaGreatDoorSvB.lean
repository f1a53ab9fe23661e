/- A symbolic run, part two. Conditions: none. -/
import Derived.Test.YtdhpibcacnndaaaGreatDoorSvA
set_option linter.all false
namespace Go.Sv
open Go.Idl
variable {env : List SV} {h : SH} {i s : Nat} {ob : PO} {ph ph' : PHp} {ty : TypeId} {v : SV} {x y : PV}
noncomputable section
variable [Gc]
variable [Yl]
variable {P : Program} {R : Type} {r : R} {G : Nat -> Bool} {nm : Nm} {rd : Bool}
def Wk (P : Program) (nm : Nm) (pe : List PV) (ph : PHp) (pe' : List PV) (ph' : PHp) : Prop :=
 ∀ (Z : Nat -> Prop) (H : IH) (m : Nat -> Nat) (vs : List Value), Hp P Z H (own m ph) -> VRL P Z H (own m ph) pe vs ->
  ∃ Z' m', Hp P Z' H (own m' ph') ∧ VRL P Z' H (own m' ph') pe' vs ∧ Step Z H (own m ph) Z' H (own m' ph') ∧ KR (inP nm) (own m ph) (own m' ph')
omit [Yl] in
theorem Wk.refl (pe : List PV) (ph : PHp) : Wk P nm pe ph pe ph := fun Z H m vs hp hv => ⟨Z, m, hp, hv, .refl _ _ _, .refl _ _⟩
omit [Yl] in
theorem Wk.trans {a b c : List PV} {p q s : PHp} (x : Wk P nm a p b q) (y : Wk P nm b q c s) : Wk P nm a p c s := fun Z H m vs hp hv => by
 obtain ⟨Z1, m1, a1, a2, a3, a4⟩ := x Z H m vs hp hv;obtain ⟨Z2, m2, b1, b2, b3, b4⟩ := y Z1 H m1 vs a1 a2;exact ⟨Z2, m2, b1, b2, a3.trans b3, a4.trans b4⟩
omit [Yl] in
theorem Wk.drop {a b : List PV} {p q : PHp} (hw : WkP a b) (hs : nX q p) : Wk P nm a p b q := fun Z H m vs hp hv => by
 have hf := Fz.drop hp hs;exact ⟨Z, m, hf.hp, hw.rel (hf.vrl hv), hf.step, hf.kr _⟩
omit [Yl] in
theorem qRW : ∀ {l m : List PV}, l.length = m.length -> (∀ i, zA m i = zA l i ∨ zA m i = some .unk) -> WkP l m
 | [], [], _, _ => .nil
 | [], _ :: _, h, _ => by cases h
 | _ :: _, [], h, _ => by cases h
 | x :: l, y :: m, h, hi => by
   have ih := qRW (l := l) (m := m) (by simpa using h) fun i => hi (i + 1)
   rcases hi 0 with q | q
   ·have q : some y = some x := q;cases q;exact .same ih
   ·have q : some y = some PV.unk := q;cases q;exact .any ih
def fzs (P : Program) : List (Nat × TypeId) -> List SV -> SH -> (List SV -> SH -> q9D R) -> q9D R
 | [], env, h, K => K env h
 | (i, ty) :: l, env, h, K => match zA env i, qDL P 8 ty with
   | some v, some t => (match q3A P ty t v h with
     | some (x, h') => fzs P l (yY env i (t.sv x)) h' K
     | none => .fail)
   | _, _ => .fail
def jN (P : Program) (w : List Nat) (env : List SV) (h : SH) (env' : List SV) (h' : SH) : Prop :=
 okL h' env' ∧ OkH P h' ∧ Keep h h' ∧ (∀ i, i ∉ w -> zA (qB env') i = zA (qB env) i) ∧ env'.length = env.length
theorem jN.trans {w w2 : List Nat} {env q9L q94 : List SV} {h h1 h2 : SH} (a : jN P w env h q9L h1) (b : jN P w2 q9L h1 q94 h2) : jN P (w ++ w2) env h q94 h2 :=
 ⟨b.1, b.2.1, a.2.2.1.trans b.2.2.1, fun i hi => by
   rw [zKI, not_or] at hi
   exact (b.2.2.2.1 i hi.2).trans (a.2.2.2.1 i hi.1), b.2.2.2.2.trans a.2.2.2.2⟩
theorem jN.refl {env : List SV} {h : SH} (ho : OkH P h) (he : okL h env) : jN P [] env h env h := ⟨he, ho, .refl _, fun _ _ => rfl, rfl⟩
theorem jN.up {w w2 : List Nat} {q9L : List SV} {h1 : SH} (a : jN P w env h q9L h1) (hw : ∀ i ∈ w, i ∈ w2) : jN P w2 env h q9L h1 :=
 ⟨a.1, a.2.1, a.2.2.1, fun i hi => a.2.2.2.1 i fun q => hi (hw i q), a.2.2.2.2⟩
theorem o7 {j : Nat} (h : i ≠ j) : zA (qB (yY env i v)) j = zA (qB env) j := by
 rw [xS, qY, qF, qF, zJ4, if_neg h]
theorem q5B {h' : SH} (hv : zA env i = some v) (hf : fzP P (qD h.l) v.enc = some (y, qD h'.l)) : Wk P nm (qB env) (qD h.l) (yY (qB env) i (rt1 P ty y)) (qD h'.l) := by
 intro Z H m vs hp hr
 have hi : (qB env)[i]? = some v.enc := by
  rw [qF] at hv;rw [qW, zJK, hv]; rfl
 obtain ⟨u, hu, hr2⟩ := hr.get hi;obtain ⟨Z', h1, h2⟩ := qGX hp hr2 hf;exact ⟨Z', m, h1.hp, (h1.vrl hr).slot hu (qDS (bF h2 (qOH hf))), h1.step, h1.kr _⟩
theorem q0D : ∀ {l : List (Nat × TypeId)} {env : List SV} {h : SH} {K : List SV -> SH -> q9D R}, OkH P h -> okL h env -> (fzs P l env h K).run = some r ->
 ∃ env' h', Wk P nm (qB env) (qD h.l) (qB env') (qD h'.l) ∧ jN P (l.map (·.1)) env h env' h' ∧ (K env' h').run = some r
 | [], env, h, K, ho, he, e => ⟨env, h, .refl _ _, .refl ho he, e⟩
 | (i, ty) :: l, env, h, K, ho, he, e => by
   unfold fzs at e;split at e
   ·rename_i v t hv ht;split at e
    ·rename_i x h' hd;obtain ⟨y, a1, a2, a3, a4, _⟩ := tZ ho (dW he hv) hd;have hw := q5B (nm := nm) (ty := ty) hv a1;have hs : yY (qB env) i (rt1 P ty y) = qB (yY env i (t.sv x)) := by rw [xS, eX, a2]
     rw [hs] at hw;obtain ⟨env', h2, b1, b2, b3⟩ := q0D (l := l) a4 (xP (t := i) (v := t.sv x) (qK a3 he) (qHL t x)) e;refine ⟨env', h2, hw.trans b1, ?_, b3⟩
     have h0 : jN P [i] env h (yY env i (t.sv x)) h' := ⟨xP (qK a3 he) (qHL t x), a4, a3, fun j hj => o7 fun q => hj (by rw [q]; exact zL3 j), kY _ _ _⟩
     exact h0.trans b2
    ·cases e
   ·cases e
omit [Yl] in
theorem Wk.zGW {env : List PV} (i k : Nat) (el : TypeId) (hi : zA env i = some (fvv (.slice none 0 0))) (hs : szT P el = some (s + 1)) (hf : fresh nm k env ph = true) : Wk P nm env ph (yY env i (.own k 0 0 0)) ((k, ⟨el, true, []⟩) :: ph) := by
 intro Z H m q9E hp he;rw [qF] at hi;obtain ⟨v, hv, hr⟩ := he.get hi;have hvn : v = .slice none 0 0 := yF hr rfl;subst hvn;obtain ⟨f1, f2, f3⟩ := q39 nm hf;have hnew : own m ((k, ⟨el, true, []⟩) :: ph) k = some (m k, ⟨el, true, []⟩) := by simp [own, qA]
 have hold : ∀ j, j ≠ k -> own m ((k, ⟨el, true, []⟩) :: ph) j = own m ph j := fun j hj => by
  unfold own; rw [zQ hj]
 have hkr : KR (fun j => j == k) (own m ph) (own m ((k, ⟨el, true, []⟩) :: ph)) := fun j b ob hk => by
  by_cases hj : j = k
  ·exact .inr (.inr (by simp [hj]))
  ·rw [hold j hj] at hk; exact .inl ⟨ob, hk, rfl, rfl, rfl⟩
 have mono : ∀ {xs : List PV} {vs : List Value}, VRL P Z H (own m ph) xs vs -> zR k xs = true -> VRL P Z H (own m ((k, ⟨el, true, []⟩) :: ph)) xs vs := fun h hn => h.mono (fun _ h => h) (zI7 _) (fun _ _ _ => rfl) hkr fun j hj => by
  have : j = k := by simpa using hj
  subst this; exact hn
 have hp' : Hp P Z H (own m ((k, ⟨el, true, []⟩) :: ph)) := by
  refine ⟨hp.zlt, fun j b ob hk => ?_, fun j j' b b' ob ob' h1 h2 r1 r2 hne => ?_, hp.gl⟩
  ·by_cases hj : j = k
   ·subst hj; rw [hnew] at hk; cases hk; exact .inl ⟨rfl, rfl⟩
   ·rw [hold j hj] at hk
    rcases hp.obj j b ob hk with h | ⟨a1, a2, a3, a4⟩
    ·exact .inl h
    ·exact .inr ⟨a1, a2, a3, a4.mono rfl fun _ a5 => mono a5 (jG f3 (wY hk).1)⟩
  ·by_cases hj : j = k
   ·subst hj; rw [hnew] at h1; cases h1; exact absurd ⟨rfl, rfl⟩ r1
   ·by_cases hj' : j' = k
    ·subst hj'; rw [hnew] at h2; cases h2; exact absurd ⟨rfl, rfl⟩ r2
    ·rw [hold j hj] at h1; rw [hold j' hj'] at h2;exact hp.inj j j' b b' ob ob' h1 h2 r1 r2 hne
 have hown : VR P Z H (own m ((k, ⟨el, true, []⟩) :: ph)) (.own k 0 0 0) (.slice none 0 0) := .own rfl fun b ob hM => by
  rw [hnew] at hM; cases hM;exact ⟨s + 1, hs, by omega, by simp, fun _ => .inl ⟨rfl, rfl, rfl, rfl, rfl⟩⟩
 have hst : Step Z H (own m ph) Z H (own m ((k, ⟨el, true, []⟩) :: ph)) := ⟨zI7 _, rfl, fun _ h => h, fun _ _ _ => rfl, fun b h _ => .inl h, fun b ⟨j, ob, h1, h2⟩ _ => by
  by_cases hj : j = k
  ·subst hj; rw [hnew] at h1; cases h1; exact absurd ⟨rfl, rfl⟩ h2
  ·rw [hold j hj] at h1; exact ⟨j, ob, h1, h2⟩⟩
 have hup : KR (inP nm) (own m ph) (own m ((k, ⟨el, true, []⟩) :: ph)) := hkr.up fun j hj => by
  have e : j = k := by simpa using hj
  rw [e]; exact f1
 exact ⟨Z, m, hp', (mono he f2).slot hv hown, hst, hup⟩
omit [Yl] in
theorem Wk.zFJ {env : List PV} (kb i k : Nat) (el : TypeId) (hk : qA kb ph = some ob) (hsp : spec P ob.el = false) (hgr : ob.gr = false) (hi : zA ob.cs i = some (fvv (.slice none 0 0))) (hs : szT P el = some (s + 1)) (hf : fresh nm k env ph = true) (hne : k ≠ kb) :
 Wk P nm env ph env ((k, ⟨el, true, []⟩) :: kD kb ⟨ob.el, false, yY ob.cs i (.own k 0 0 0)⟩ ph) := by
 intro Z H m q9E hp he;obtain ⟨f1, f2, f3⟩ := q39 nm hf;generalize zGX : (k, (⟨el, true, []⟩ : PO)) :: kD kb ⟨ob.el, false, yY ob.cs i (.own k 0 0 0)⟩ ph = ph'
 have hM' : ∀ j, own m ph' j = if j = k then some (m k, ⟨el, true, []⟩) else if j = kb then some (m kb, ⟨ob.el, false, yY ob.cs i (.own k 0 0 0)⟩) else own m ph j := fun j => by
  subst zGX;unfold own;by_cases h1 : j = k
  ·subst h1; simp [qA]
  ·rw [if_neg h1, zQ h1, qX];by_cases h2 : j = kb
   ·subst h2; rw [if_pos ⟨rfl, by rw [hk]; rfl⟩, if_pos rfl]; rfl
   ·rw [if_neg (fun h => h2 h.1), if_neg h2]
 have hnew : own m ph' k = some (m k, ⟨el, true, []⟩) := by rw [hM', if_pos rfl]
 have zAX : own m ph' kb = some (m kb, ⟨ob.el, false, yY ob.cs i (.own k 0 0 0)⟩) := by rw [hM', if_neg hne.symm, if_pos rfl]
 have hold : ∀ j, j ≠ k -> j ≠ kb -> own m ph' j = own m ph j := fun j h1 h2 => by rw [hM', if_neg h1, if_neg h2]
 have hkM : own m ph kb = some (m kb, ob) := qM hk
 have hkr : KR (fun j => j == k) (own m ph) (own m ph') := fun j b o hj => by
  by_cases h1 : j = k
  ·exact .inr (.inr (by simp [h1]))
  ·by_cases h2 : j = kb
   ·subst h2;rw [zAX] at hj;cases hj;exact .inl ⟨ob, hkM, by simp [qY], rfl, hgr⟩
   ·rw [hold j h1 h2] at hj; exact .inl ⟨o, hj, rfl, rfl, rfl⟩
 have mono : ∀ {xs : List PV} {vs : List Value}, VRL P Z H (own m ph) xs vs -> zR k xs = true -> VRL P Z H (own m ph') xs vs := fun h hn => h.mono (fun _ h => h) (zI7 _) (fun _ _ _ => rfl) hkr fun j hj => by
  have : j = k := by simpa using hj
  subst this; exact hn
 have hown : VR P Z H (own m ph') (.own k 0 0 0) (.slice none 0 0) := .own rfl fun b o hM => by
  rw [hnew] at hM; cases hM;exact ⟨s + 1, hs, by omega, by simp, fun _ => .inl ⟨rfl, rfl, rfl, rfl, rfl⟩⟩
 have zAF : ¬ (ob.gr = true ∧ ob.cs = []) := fun h => by rw [hgr] at h; cases h.1
 have hp' : Hp P Z H (own m ph') := by
  refine ⟨hp.zlt, fun j b o hj => ?_, fun j j' b b' o o' h1 h2 r1 r2 hn => ?_, hp.gl⟩
  ·by_cases h1 : j = k
   ·subst h1; rw [hnew] at hj; cases hj; exact .inl ⟨rfl, rfl⟩
   ·by_cases h2 : j = kb
    ·subst h2;rw [zAX] at hj; cases hj
     rcases hp.obj j _ ob hkM with h | ⟨a1, a2, a3, ⟨_, vs, a4, a5, a6⟩ | ⟨hs2, _⟩⟩
     rotate_right 1
     ·rw [hsp] at hs2; cases hs2
     ·exact absurd h zAF
     ·have hv := mono a5 (jG f3 hk);obtain ⟨v, hv1, hv2⟩ := a5.get (i := i) (by rw [<- qF]; exact hi);have : v = .slice none 0 0 := yF hv2 rfl;subst this;refine .inr ⟨a1, a2, a3, .inl ⟨hsp, vs, ?_, hv.slot hv1 hown, a6⟩⟩;rw [a4, hgr]
    ·rw [hold j h1 h2] at hj
     rcases hp.obj j b o hj with h | ⟨a1, a2, a3, a4⟩
     ·exact .inl h
     ·exact .inr ⟨a1, a2, a3, a4.mono rfl fun _ a5 => mono a5 (jG f3 (wY hj).1)⟩
  ·have tr : ∀ {j b o}, own m ph' j = some (b, o) -> ¬ (o.gr = true ∧ o.cs = []) -> ∃ o2, own m ph j = some (b, o2) ∧ ¬ (o2.gr = true ∧ o2.cs = []) := fun {j b o} hj hr => by
    by_cases h1 : j = k
    ·subst h1; rw [hnew] at hj; cases hj; exact absurd ⟨rfl, rfl⟩ hr
    ·by_cases h2 : j = kb
     ·subst h2; rw [zAX] at hj; cases hj; exact ⟨ob, hkM, zAF⟩
     ·rw [hold j h1 h2] at hj; exact ⟨o, hj, hr⟩
   obtain ⟨o2, q1, q2⟩ := tr h1 r1;obtain ⟨o3, q3, q4⟩ := tr h2 r2;exact hp.inj j j' b b' o2 o3 q1 q3 q2 q4 hn
 have hst : Step Z H (own m ph) Z H (own m ph') := ⟨zI7 _, rfl, fun _ h => h, fun _ _ _ => rfl, fun b h _ => .inl h, fun b ⟨j, o, h1, h2⟩ _ => by
  by_cases e1 : j = k
  ·subst e1; rw [hnew] at h1; cases h1; exact absurd ⟨rfl, rfl⟩ h2
  ·by_cases e2 : j = kb
   ·subst e2; rw [zAX] at h1; cases h1; exact ⟨j, ob, hkM, zAF⟩
   ·rw [hold j e1 e2] at h1; exact ⟨j, o, h1, h2⟩⟩
 exact ⟨Z, m, hp', mono he f2, hst, hkr.up fun j hj => by
  have e : j = k := by simpa using hj
  rw [e]; exact f1⟩
def qCZ : SV -> Bool
 | .c (.slice none 0 0) => true
 | _ => false
theorem qDI (e : qCZ v = true) : v.enc = fvv (.slice none 0 0) := by
 unfold qCZ at e;split at e
 ·simp [SV.enc]
 ·cases e
def qO9 (P : Program) (nm : Nm) : List (Nat × TypeId) -> List SV -> SH -> (List SV -> SH -> q9D R) -> q9D R
 | [], env, h, K => K env h
 | (i, el) :: l, env, h, K => match zA env i with
   | some v => cond (qCZ v) (match szT P el, qDL P 8 el with
     | some (s + 1), some t => cond (Nat.beq t.w (s + 1) && qDU nm (nm.b + i) env h) (qO9 P nm l (yY env i (.own (nm.b + i) h.next 0)) (h.new (nm.b + i) fun v => .list el true v v t []) K) .fail
     | _, _ => .fail) (qO9 P nm l env h K)
   | none => .fail
theorem sH : ∀ {l : List (Nat × TypeId)} {env : List SV} {h : SH} {K : List SV -> SH -> q9D R}, OkH P h -> okL h env -> (qO9 P nm l env h K).run = some r ->
 ∃ env' h', Wk P nm (qB env) (qD h.l) (qB env') (qD h'.l) ∧ jN P (l.map (·.1)) env h env' h' ∧ (K env' h').run = some r
 | [], env, h, K, ho, he, e => ⟨env, h, .refl _ _, .refl ho he, e⟩
 | (i, el) :: l, env, h, K, ho, he, e => by
   unfold qO9 at e;split at e
   ·rename_i v hv
    cases hn : qCZ v with
    | false =>
      rw [hn] at e;obtain ⟨env', h2, b1, b2, b3⟩ := sH (l := l) ho he e;exact ⟨env', h2, b1, b2.up fun j hj => zJD _ hj, b3⟩
    | true =>
      rw [hn] at e;simp only [cond_true] at e;split at e
      ·rename_i s t hs ht;obtain ⟨c, e1⟩ := qE e;rw [zI5] at c;have hw : t.w = s + 1 := zI6 c.1;have hn2 := xW (k := nm.b + i) (f := fun v => .list el true v v t []) ho ⟨rfl, rfl, by rw [hs, hw], by omega⟩
       have hfr : fresh nm (nm.b + i) (qB env) (qD h.l) = true := by
        have c2 := c.2;unfold qDU at c2;simp only [zI5] at c2;unfold fresh;rw [c2.1, c2.2.1, vY c2.2.2]; rfl
       have hwk : Wk P nm (qB env) (qD h.l) (qB (yY env i (.own (nm.b + i) h.next 0))) (qD (h.new (nm.b + i) fun v => .list el true v v t []).l) := by
        have := Wk.zGW (P := P) (nm := nm) (ph := qD h.l) i (nm.b + i) el (by rw [zD, hv, zJJ, qDI hn]) hs hfr;rw [xS];simpa [SV.enc, SH.new, qD, SO.enc] using this
       have hok : (SV.own (nm.b + i) h.next 0).ok (h.new (nm.b + i) fun v => .list el true v v t []) := vS (xs := ([] : List t.sem)) rfl;obtain ⟨env', h2, b1, b2, b3⟩ := sH (l := l) hn2.2 (xP (t := i) (qK hn2.1 he) hok) e1;refine ⟨env', h2, hwk.trans b1, ?_, b3⟩
       have h0 : jN P [i] env h (yY env i (.own (nm.b + i) h.next 0)) (h.new (nm.b + i) fun v => .list el true v v t []) := ⟨xP (qK hn2.1 he) hok, hn2.2, hn2.1, fun j hj => o7 fun q => hj (by rw [q]; exact zL3 j), kY _ _ _⟩
       exact h0.trans b2
      ·cases e
   ·cases e
omit [Yl] in
theorem qDZ {f : PHp -> PV -> Option (FV × PHp)} (hf : ∀ ph x y ph', f ph x = some (y, ph') -> nX ph' ph) : ∀ {l : List PV} {ph ph' : PHp} {ys : List FV}, qDM f l ph = some (ys, ph') -> nX ph' ph
 | [], ph, ph', ys, h => by cases h; exact .refl _
 | x :: l, ph, ph', ys, h => by
   unfold qDM at h;split at h
   ·rename_i y ph1 h1;split at h
    ·rename_i zs ph2 h2;cases h;exact fun k ob q => hf _ _ _ _ h1 k ob (qDZ hf h2 k ob q)
    ·cases h
   ·cases h
omit [Yl] in
theorem qME : ∀ (n : Nat) (ph : PHp) (x : PV) (y : FV) (ph' : PHp), fz1 P n ph x = some (y, ph') -> nX ph' ph
 | 0, ph, x, y, ph', h => by
   cases x with
   | f x =>
     have h : some (x, ph) = some (y, ph') := h;cases h; exact .refl _
   | _ =>
     have h : (none : Option (FV × PHp)) = some (y, ph') := h;cases h
 | n + 1, ph, x, y, ph', h => by
   cases x with
   | f x =>
     have h : some (x, ph) = some (y, ph') := h;cases h; exact .refl _
   | own k t o c =>
     unfold fz1 at h;split at h
     case h_2 => cases h
     split at h
     case h_2 => cases h
     obtain ⟨_, h⟩ := xK h;split at h
     case h_2 => cases h
     rename_i hq;cases h
     exact fun j ob q => by
      have q1 := qDZ (qME n) hq j ob q;rw [y8] at q1;split at q1
      ·cases q1
      ·exact q1
   | _ =>
     have h : (none : Option (FV × PHp)) = some (y, ph') := h;cases h
omit [Yl] in
theorem q04 (h : fzP P ph x = some (y, ph')) : nX ph' ph := by
 unfold fzP at h;split at h
 ·split at h
  ·rename_i hq;cases h; exact qDZ (qME 4) hq
  ·cases h
 ·split at h
  ·rename_i hq;cases h; exact qME 4 _ _ _ _ hq
  ·cases h
omit [Yl] in
theorem Wk.zGY {env : List PV} (kb i : Nat) (ty : TypeId) (hk' : qA kb ph' = some ob) (hsp : spec P ob.el = false) (hgr : ob.gr = false) (hi : zA ob.cs i = some x) (hf : fzP P ph x = some (y, ph')) (hk : qA kb ph = some ob) :
 Wk P nm env ph env (kD kb ⟨ob.el, false, yY ob.cs i (rt1 P ty y)⟩ ph') := by
 intro Z H m q9E hp he;have hkM : own m ph kb = some (m kb, ob) := qM hk;have zAF : ¬ (ob.gr = true ∧ ob.cs = []) := fun h => by rw [hgr] at h; cases h.1
 rcases hp.obj kb _ ob hkM with h | ⟨_, _, _, ⟨_, vs0, a40, a50, _⟩ | ⟨hs2, _⟩⟩
 rotate_right 1
 ·rw [hsp] at hs2; cases hs2
 ·exact absurd h zAF
 obtain ⟨v, hv1, hv2⟩ := a50.get (i := i) (by rw [<- qF]; exact hi);obtain ⟨Z', fz, hy⟩ := qGX hp hv2 hf;have hyr : ∀ M, VR P Z' H M (rt1 P ty y) v := fun M => qDS (bF hy (qOH hf))
 have hp1 := fz.hp;have zDN : own m ph' kb = some (m kb, ob) := qM hk';generalize zGZ : kD kb (⟨ob.el, false, yY ob.cs i (rt1 P ty y)⟩ : PO) ph' = ph2
 have hM' : ∀ j, own m ph2 j = if j = kb then some (m kb, ⟨ob.el, false, yY ob.cs i (rt1 P ty y)⟩) else own m ph' j := fun j => by
  subst zGZ;unfold own;rw [qX];by_cases h2 : j = kb
  ·subst h2; rw [if_pos ⟨rfl, by rw [hk']; rfl⟩, if_pos rfl]; rfl
  ·rw [if_neg (fun h => h2 h.1), if_neg h2]
 have zAX : own m ph2 kb = some (m kb, ⟨ob.el, false, yY ob.cs i (rt1 P ty y)⟩) := by rw [hM', if_pos rfl]
 have hold : ∀ j, j ≠ kb -> own m ph2 j = own m ph' j := fun j h2 => by rw [hM', if_neg h2]
 have hkr : ∀ p, KR p (own m ph') (own m ph2) := fun p j b o hj => by
  by_cases h2 : j = kb
  ·subst h2;rw [zAX] at hj;cases hj;exact .inl ⟨ob, zDN, by simp [qY], rfl, hgr⟩
  ·rw [hold j h2] at hj; exact .inl ⟨o, hj, rfl, rfl, rfl⟩
 have mono : ∀ {xs : List PV} {vs : List Value}, VRL P Z' H (own m ph') xs vs -> VRL P Z' H (own m ph2) xs vs := fun h => h.mono (fun _ h => h) (zI7 _) (fun _ _ _ => rfl) (hkr fun _ => false) fun j hj => by cases hj
 have hp' : Hp P Z' H (own m ph2) := by
  refine ⟨hp1.zlt, fun j b o hj => ?_, fun j j' b b' o o' h1 h2 r1 r2 hn => ?_, hp1.gl⟩
  ·by_cases h2 : j = kb
   ·subst h2;rw [zAX] at hj; cases hj
    rcases hp1.obj j _ ob zDN with h | ⟨a1, a2, a3, ⟨_, vs, a4, a5, a6⟩ | ⟨hs2, _⟩⟩
    rotate_right 1
    ·rw [hsp] at hs2; cases hs2
    ·exact absurd h zAF
    ·have hv := mono a5
     have hvv : vs = vs0 := by
      rw [a40] at a4;injection a4 with e1;injection e1 with e2;injection e2 with e3;exact e3.symm
     subst hvv;refine .inr ⟨a1, a2, a3, .inl ⟨hsp, vs, ?_, hv.slot hv1 (hyr _), a6⟩⟩;rw [a4, hgr]
   ·rw [hold j h2] at hj
    rcases hp1.obj j b o hj with h | ⟨a1, a2, a3, a4⟩
    ·exact .inl h
    ·exact .inr ⟨a1, a2, a3, a4.mono rfl fun _ a5 => mono a5⟩
  ·have tr : ∀ {j b o}, own m ph2 j = some (b, o) -> ¬ (o.gr = true ∧ o.cs = []) -> ∃ o2, own m ph' j = some (b, o2) ∧ ¬ (o2.gr = true ∧ o2.cs = []) := fun {j b o} hj hr => by
    by_cases h2 : j = kb
    ·subst h2; rw [zAX] at hj; cases hj; exact ⟨ob, zDN, zAF⟩
    ·rw [hold j h2] at hj; exact ⟨o, hj, hr⟩
   obtain ⟨o2, q1, q2⟩ := tr h1 r1;obtain ⟨o3, q3, q4⟩ := tr h2 r2;exact hp1.inj j j' b b' o2 o3 q1 q3 q2 q4 hn
 have hst : Step Z' H (own m ph') Z' H (own m ph2) := ⟨zI7 _, rfl, fun _ h => h, fun _ _ _ => rfl, fun b h _ => .inl h, fun b ⟨j, o, h1, h2⟩ _ => by
  by_cases e2 : j = kb
  ·subst e2; rw [zAX] at h1; cases h1; exact ⟨j, ob, zDN, zAF⟩
  ·rw [hold j e2] at h1; exact ⟨j, o, h1, h2⟩⟩
 exact ⟨Z', m, hp', mono (fz.vrl he), fz.step.trans hst, (fz.kr _).trans (hkr _)⟩
def q62 (P : Program) (i c : Nat) (ty : TypeId) (env : List SV) (h : SH) (K : List SV -> SH -> q9D R) : q9D R := match zA env i, qDL P 8 ty with
 | some (.ref kb _ _), some t => (match slk kb h.l with
   | some (.cells _ _ cs) => (match zA cs c with
     | some v => (match q3A P ty t v h with
       | some (x, h') => (match slk kb h'.l with
         | some (.cells e _ cs') => cond (!spec P e) (K env (h'.put kb fun v => .cells e v (yY cs' c (t.sv x)))) .fail
         | _ => .fail)
       | none => .fail)
     | none => .fail)
   | _ => .fail)
 | _, _ => .fail
theorem q1D {c : Nat} {K : List SV -> SH -> q9D R} (ho : OkH P h) (he : okL h env) (e : (q62 P i c ty env h K).run = some r) :
 ∃ env' h', Wk P nm (qB env) (qD h.l) (qB env') (qD h'.l) ∧ jN P [i] env h env' h' ∧ (K env' h').run = some r := by
 unfold q62 at e;split at e
 case h_2 => cases e
 rename_i kb _ _ t hi ht;split at e
 case h_2 => cases e
 rename_i eb wb cs hkb;split at e
 case h_2 => cases e
 rename_i v hv;split at e
 case h_2 => cases e
 rename_i x h' hd;split at e
 case h_2 => cases e
 rename_i e2 w2 cs2 hkb2;obtain ⟨hc, e1⟩ := qE e;have hvk : v.ok h := dW (ho.cells _ _ _ _ hkb) hv;obtain ⟨y, a1, a2, a3, a4, _⟩ := tZ ho hvk hd;have hsp : spec P e2 = false := by simpa using hc
 have hp2 := aB (k := kb) (f := fun v => .cells e2 v (yY cs2 c (t.sv x))) a4 hkb2 ⟨rfl, xP (a4.cells _ _ _ _ hkb2) (qHL t x)⟩;have hk2 := yT hkb2;have hk1 := yT hkb;have hsub := q04 a1 kb _ hk2
 have hcs : qB cs2 = qB cs := by
  rw [hk1] at hsub;injection hsub with q;injection q with q1 q2 q3;exact q3.symm
 refine ⟨env, h'.put kb fun v => .cells e2 v (yY cs2 c (t.sv x)), ?_, ⟨qK hp2.1 (qK a3 he), hp2.2, a3.trans hp2.1, fun _ _ => rfl, rfl⟩, e1⟩
 have := Wk.zGY (P := P) (nm := nm) (env := qB env) kb c ty hk2 hsp rfl (x := v.enc) (by
  show zA (qB cs2) c = _
  rw [hcs, zD, hv]; rfl) a1 hsub
 refine this.trans ?_
 have he2 : kD kb ⟨(SO.cells e2 w2 cs2).enc.el, false, yY (SO.cells e2 w2 cs2).enc.cs c (rt1 P ty y)⟩ (qD h'.l) = qD ((h'.put kb fun v => .cells e2 v (yY cs2 c (t.sv x))).l) := by
  show _ = qD (sst kb _ h'.l);rw [vG];simp [SO.enc, xS, eX, a2]
 rw [he2];exact .refl _ _
def q6Z (i : Nat) (env : List SV) (h : SH) (K : List SV -> SH -> q9D R) : q9D R := match zA env i with
 | some (.d (.list el (.int k)) xs) => .ite (List.isEmpty xs) .fail (K (yY env i (.d (.ol el k) xs)) h)
 | _ => .fail
theorem q0P {K : List SV -> SH -> q9D R} (ho : OkH P h) (he : okL h env) (e : (q6Z i env h K).run = some r) :
 ∃ env' h', Wk P nm (qB env) (qD h.l) (qB env') (qD h'.l) ∧ jN P [i] env h env' h' ∧ (K env' h').run = some r := by
 unfold q6Z at e;split at e
 ·rename_i el k xs hi
  rcases run_ite e with ⟨_, e1⟩ | ⟨hx, e1⟩
  ·cases e1
  ·refine ⟨_, h, ?_, ⟨xP he (by simp [SV.ok]), ho, .refl _, fun j hj => o7 fun q => hj (by rw [q]; exact zL3 j), kY _ _ _⟩, e1⟩
   have : qB (yY env i (.d (.ol el k) xs)) = qB env := by
    rw [xS]
    have h2 : (SV.d (.ol el k) xs).enc = (SV.d (.list el (.int k)) xs).enc := by
     cases xs with
     | nil => cases hx
     | cons x xs => simp [SV.enc, Ty.fv, fvo, Ty.cells]
    rw [h2, qY]
    have h3 : (qB env)[i]? = some (SV.d (.list el (.int k)) xs).enc := by
     rw [<- qF, zD, hi]; rfl
    obtain ⟨h4, h5⟩ := zJA.1 h3;rw [<- h5, List.set_getElem_self]
   rw [this];exact .refl _ _
 ·cases e
def fzv (P : Program) (nm : Nm) : List (Nat × TypeId) -> List SV -> SH -> (List SV -> SH -> q9D R) -> q9D R
 | [], env, h, K => K env h
 | (i, ty) :: l, env, h, K => cond (Nat.ble 2000000000 ty) ((cond (Nat.ble 4000000000 ty) (cond (Nat.ble 5000000000 ty) (q6Z i env h fun env h => fzv P nm l env h K) (q62 P i ((ty - 4000000000) / 100000) ((ty - 4000000000) % 100000) env h fun env h => fzv P nm l env h K)) .fail)) <| cond (Nat.ble 1000000000 ty) (qO9 P nm [(i, ty - 1000000000)] env h fun env h => fzv P nm l env h K) (fzs P [(i, ty)] env h fun env h => fzv P nm l env h K)
theorem qZP : ∀ {l : List (Nat × TypeId)} {env : List SV} {h : SH} {K : List SV -> SH -> q9D R}, OkH P h -> okL h env -> (fzv P nm l env h K).run = some r ->
 ∃ env' h', Wk P nm (qB env) (qD h.l) (qB env') (qD h'.l) ∧ jN P (l.map (·.1)) env h env' h' ∧ (K env' h').run = some r
 | [], env, h, K, ho, he, e => ⟨env, h, .refl _ _, .refl ho he, e⟩
 | (i, ty) :: l, env, h, K, ho, he, e => by
   unfold fzv at e
   have go : ∀ {q9L h1}, Wk P nm (qB env) (qD h.l) (qB q9L) (qD h1.l) -> jN P [i] env h q9L h1 -> (fzv P nm l q9L h1 K).run = some r -> ∃ env' h', Wk P nm (qB env) (qD h.l) (qB env') (qD h'.l) ∧ jN P (((i, ty) :: l).map (·.1)) env h env' h' ∧ (K env' h').run = some r := fun a b e => by
    obtain ⟨env', h', c1, c2, c3⟩ := qZP (l := l) b.2.1 b.1 e;exact ⟨env', h', a.trans c1, b.trans c2, c3⟩
   cases hb2 : Nat.ble 2000000000 ty with
   | true =>
     rw [hb2] at e
     cases hb4 : Nat.ble 4000000000 ty with
     | true =>
       rw [hb4] at e
       cases hb5 : Nat.ble 5000000000 ty with
       | true =>
         rw [hb5] at e;have e : (q6Z i env h fun env h => fzv P nm l env h K).run = some r := e;obtain ⟨q9L, h1, a, b, e1⟩ := q0P (nm := nm) ho he e;exact go a b e1
       | false =>
       rw [hb5] at e;have e : (q62 P i ((ty - 4000000000) / 100000) ((ty - 4000000000) % 100000) env h fun env h => fzv P nm l env h K).run = some r := e;obtain ⟨q9L, h1, a, b, e1⟩ := q1D (nm := nm) ho he e;exact go a b e1
     | false =>
       rw [hb4] at e;cases e
   | false =>
   rw [hb2] at e
   cases hb : Nat.ble 1000000000 ty with
   | true =>
     rw [hb] at e;obtain ⟨q9L, h1, a, b, e1⟩ := sH (nm := nm) ho he e;exact go a b e1
   | false =>
     rw [hb] at e;obtain ⟨q9L, h1, a, b, e1⟩ := q0D (nm := nm) ho he e;exact go a b e1
def qGV (P : Program) (nm : Nm) : List (Nat × Nat × TypeId × Nat) -> List SV -> SH -> (List SV -> SH -> q9D R) -> q9D R
 | [], env, h, K => K env h
 | (kb, i, el, k) :: l, env, h, K => match slk kb h.l with
   | some (.cells e _ cs) => (match zA cs i with
     | some v => cond (qCZ v) (match szT P el, qDL P 8 el with
       | some (s + 1), some t => cond (Nat.beq t.w (s + 1) && (qDU nm k env h && (!Nat.beq k kb && !spec P e))) (qGV P nm l env ((h.new k fun v => .list el true v v t []).put kb fun v => .cells e v (yY cs i (.own k h.next 0))) K) .fail
       | _, _ => .fail) (qGV P nm l env h K)
     | none => .fail)
   | _ => .fail
theorem tV : ∀ {l : List (Nat × Nat × TypeId × Nat)} {env : List SV} {h : SH} {K : List SV -> SH -> q9D R}, OkH P h -> okL h env -> (qGV P nm l env h K).run = some r ->
 ∃ h', Wk P nm (qB env) (qD h.l) (qB env) (qD h'.l) ∧ Keep h h' ∧ OkH P h' ∧ (K env h').run = some r
 | [], env, h, K, ho, he, e => ⟨h, .refl _ _, .refl _, ho, e⟩
 | (kb, i, el, k) :: l, env, h, K, ho, he, e => by
   unfold qGV at e;split at e
   case h_2 => cases e
   rename_i eb wb cs hkb;split at e
   case h_2 => cases e
   rename_i v hv
   cases hn : qCZ v with
   | false =>
     rw [hn] at e;exact tV (l := l) ho he e
   | true =>
     rw [hn] at e;simp only [cond_true] at e;split at e
     case h_2 => cases e
     rename_i s t hs ht;obtain ⟨c, e1⟩ := qE e;simp only [zI5] at c;have hw : t.w = s + 1 := zI6 c.1
     have hne : k ≠ kb := fun q => by
      have := c.2.2.1;rw [q, pU] at this;cases this
     have hsp : spec P eb = false := by simpa using c.2.2.2
     have hn2 := xW (k := k) (f := fun v => .list el true v v t []) ho ⟨rfl, rfl, by rw [hs, hw], by omega⟩;have hok : (SV.own k h.next 0).ok (h.new k fun v => .list el true v v t []) := vS (xs := ([] : List t.sem)) rfl
     have zG0 : slk kb (h.new k fun v => .list el true v v t []).l = some (.cells eb wb cs) := by
      rw [show slk kb (h.new k fun v => .list el true v v t []).l = slk kb h.l from zX hne.symm]; exact hkb
     have hcs : okL (h.new k fun v => .list el true v v t []) cs := qK hn2.1 (ho.cells _ _ _ _ hkb);have hp2 := aB (k := kb) (f := fun v => .cells eb v (yY cs i (.own k h.next 0))) hn2.2 zG0 ⟨rfl, xP hcs hok⟩
     have hfr : fresh nm k (qB env) (qD h.l) = true := by
      have c2 := c.2.1;unfold qDU at c2;simp only [zI5] at c2;unfold fresh;rw [c2.1, c2.2.1, vY c2.2.2]; rfl
     obtain ⟨h', b1, b2, b3, b4⟩ := tV (l := l) hp2.2 (qK hp2.1 (qK hn2.1 he)) e1;refine ⟨h', ?_, hn2.1.trans (hp2.1.trans b2), b3, b4⟩;have hk := yT hkb
     have := Wk.zFJ (P := P) (nm := nm) (env := qB env) kb i k el hk hsp rfl (by
      show zA (qB cs) i = _
      rw [zD, hv, zJJ, qDI hn]) hs hfr hne
     refine Wk.trans this ?_
     have he2 : (k, (⟨el, true, []⟩ : PO)) :: kD kb ⟨(SO.cells eb wb cs).enc.el, false, yY (SO.cells eb wb cs).enc.cs i (.own k 0 0 0)⟩ (qD h.l) = qD (((h.new k fun v => .list el true v v t []).put kb fun v => .cells eb v (yY cs i (.own k h.next 0))).l) := by
      show _ = qD (sst kb _ ((k, _) :: h.l));have : (kb == k) = false := by simpa using hne.symm
      show _ = qD (cond (kb == k) _ ((k, _) :: sst kb _ h.l));rw [this];show _ = (k, _) :: qD (sst kb _ h.l);rw [vG];simp [SO.enc, xS, SV.enc]
     rw [he2];exact b1
def qE7 (P : Program) : List Nat -> SH -> SH
 | [], h => h
 | kb :: l, h => match slk kb h.l with
   | some (.cells el _ cs) => (match qDL P 8 el with
     | some t => (match t.zBV cs with
       | some x => qE7 P l (h.put kb fun v => .cells el v (t.svs x))
       | none => qE7 P l h)
     | none => qE7 P l h)
   | _ => qE7 P l h
theorem nU : ∀ {bs : List Nat} {h : SH}, OkH P h -> Keep h (qE7 P bs h) ∧ OkH P (qE7 P bs h) ∧ ∀ l, qA l (qD (qE7 P bs h).l) = qA l (qD h.l)
 | [], h, ho => ⟨.refl _, ho, fun _ => rfl⟩
 | kb :: bs, h, ho => by
   unfold qE7;split
   ·rename_i el w cs hk;split
    ·rename_i t ht;split
     ·rename_i x hx;have hp := aB (k := kb) (f := fun v => .cells el v (t.svs x)) ho hk ⟨rfl, qDA t x⟩;obtain ⟨a1, a2, a3⟩ := nU (bs := bs) hp.2;refine ⟨hp.1.trans a1, a2, fun l => (a3 l).trans ?_⟩;show qA l (qD (sst kb _ h.l)) = _;rw [vG, qX];split
      ·rename_i e;rw [e.1, yT hk];show some (⟨el, false, qB (t.svs x)⟩ : PO) = some ⟨el, false, qB cs⟩;rw [uY, nN hx]
      ·rfl
     ·exact nU (bs := bs) ho
    ·exact nU (bs := bs) ho
   ·exact nU (bs := bs) ho
omit [Yl] in
theorem Wk.ext {pe : List PV} {a b : PHp} (h : ∀ l, qA l b = qA l a) : Wk P nm pe a pe b := fun Z H m vs hp hv => by
 have e : own m b = own m a := qB1 h;exact ⟨Z, m, by rw [e]; exact hp, by rw [e]; exact hv, by rw [e]; exact .refl _ _ _, by rw [e]; exact .refl _ _⟩
def qTS (P : Program) (nm : Nm) (bs : List Nat) (bv : List (Nat × Nat × TypeId × Nat)) (env : List SV) (h : SH) (K : List SV -> SH -> q9D R) : q9D R := qGV P nm bv env h fun env h => K env (qE7 P bs h)
theorem qGZ {bs : List Nat} {l : List (Nat × Nat × TypeId × Nat)} {K : List SV -> SH -> q9D R} (ho : OkH P h) (he : okL h env) (e : (qTS P nm bs l env h K).run = some r) :
 ∃ h', Wk P nm (qB env) (qD h.l) (qB env) (qD h'.l) ∧ Keep h h' ∧ OkH P h' ∧ (K env h').run = some r := by
 obtain ⟨h', a1, a2, a3, a4⟩ := tV (nm := nm) ho he e;obtain ⟨b1, b2, b3⟩ := nU (bs := bs) a3;exact ⟨_, a1.trans (.ext b3), a2.trans b1, b2, a4⟩
end
end Go.Sv
namespace Go.Sv
open Go.Idl
noncomputable section
variable [Gc]
variable [Yl]
variable {P : Program} {R : Type} {r : R} {nm : Nm}
def q8Q : SV -> Option Ty
 | .d t _ => cond t.one (some t) none
 | .c (.int k _) => some (.int k)
 | .c (.bool _) => some .bool
 | .c (.string _) => some .str
 | _ => none
def tyV : SV -> Option Ty
 | .agg l => tyL (l.map q8Q)
 | v => q8Q v
def q74 : List SV -> Option (List Ty)
 | [] => some []
 | v :: l => match tyV v, q74 l with
   | some t, some ts => some (t :: ts)
   | _, _ => none
def q6T (t : Ty) (v : SV) : Option t.sem := cond t.one (t.zDL v) (match v with
 | .agg l => t.zBV l
 | _ => none)
theorem qMR {t : Ty} {v : SV} {x : t.sem} (e : q6T t v = some x) : v.enc = t.pv x := by
 unfold q6T at e;unfold Ty.pv
 cases ht : t.one with
 | true => rw [ht] at e; exact (rJ e).1
 | false =>
   rw [ht] at e;simp only [cond_false] at e ⊢;split at e
   ·simp only [SV.enc, nN e]
   ·cases e
def qCE : (ts : List Ty) -> List SV -> Option (TyL ts)
 | [], [] => some ()
 | [t], [v] => q6T t v
 | t :: u :: ts, v :: vs => match q6T t v with
   | some x => (match qCE (u :: ts) vs with
     | some y => some (x, y)
     | none => none)
   | none => none
 | _, _ => none
theorem nE : ∀ {ts : List Ty} {l : List SV} {s : TyL ts}, qCE ts l = some s -> qB l = qB (svL ts s)
 | [], [], s, e => by simp [svL]
 | [t], [v], s, e => by
   unfold qCE at e;simp only [svL, qB, eX, qMR e]
 | t :: u :: ts, v :: vs, s, e => by
   unfold qCE at e;split at e
   ·rename_i x hx;split at e
    ·rename_i y hy;cases e;have ih := nE hy;show qB (v :: vs) = qB (t.sv x :: svL (u :: ts) y);simp only [qB, eX, qMR hx, ih]
    ·cases e
   ·cases e
 | [], _ :: _, _, e => by cases e
 | t :: ts, [], _, e => by cases ts <;> (unfold qCE at e; cases e)
 | [_], _ :: _ :: _, _, e => by unfold qCE at e; cases e
def qGW : List Nat -> List SV -> Option (List SV)
 | [], _ => some []
 | i :: is, env => match zA env i, qGW is env with
   | some v, some l => some (v :: l)
   | _, _ => none
def spD : SpO -> Option SV
 | .map es => some (.d .raw es)
 | .iter s pos => some (.agg [.d .str s, .d (.int .i64) (pos : Int)])
 | .mit _ _ _ _ _ => none
def obD : SO -> Option (SV × Bool)
 | .list el gr _ _ u xs => cond (Nat.beq el 1000000001) none (some (.d (.list el u) xs, gr))
 | .spc _ x => (spD x).map fun v => (v, false)
 | .cells _ _ _ => none
def qVU : List Nat -> SH -> Option (List SV)
 | [], _ => some []
 | k :: ks, h => match slk k h.l, qVU ks h with
   | some ob, some l => (match obD ob with
     | some p => some (p.1 :: l)
     | none => none)
   | _, _ => none
def q1A : List Nat -> SH -> Option (List (Nat × Bool))
 | [], _ => some []
 | k :: ks, h => match slk k h.l, q1A ks h with
   | some ob, some l => (match obD ob with
     | some p => some ((k, p.2) :: l)
     | none => none)
   | _, _ => none
def qC4 (i : Nat) : List Nat -> Bool
 | [] => false
 | j :: l => cond (Nat.beq i j) true (qC4 i l)
omit [Yl] in
theorem wG {i : Nat} : ∀ {l : List Nat}, qC4 i l = true ↔ i ∈ l
 | [] => by simp [qC4]
 | j :: l => by
   unfold qC4;rw [zJR]
   cases h : Nat.beq i j with
   | true => simp [zI6 h]
   | false =>
     have : i ≠ j := fun e => by subst e; rw [pU] at h; cases h
     simp only [cond_false, wG (l := l), this, false_or]
def blank (W : List Nat) : Nat -> List SV -> List SV
 | _, [] => []
 | i, x :: l => cond (qC4 i W) .unk x :: blank W (i + 1) l
omit [Yl] in
theorem qA5 (W : List Nat) : ∀ (i : Nat) (l : List SV), (blank W i l).length = l.length
 | _, [] => rfl
 | i, x :: l => by simp [blank, qA5 W (i + 1) l]
omit [Yl] in
theorem qBW (W : List Nat) : ∀ (i j : Nat) (l : List SV), zA (blank W i l) j = (zA l j).map fun x => cond (qC4 (i + j) W) SV.unk x
 | _, _, [] => rfl
 | i, 0, x :: l => rfl
 | i, j + 1, x :: l => by
   show zA (blank W (i + 1) l) j = (zA l j).map _;rw [qBW W (i + 1) j l, zKX, zLX 1 j]
omit [Yl] in
theorem qNI {h : SH} {W : List Nat} : ∀ {i : Nat} {l : List SV}, okL h l -> okL h (blank W i l)
 | _, [], _ => by simp [blank, okL]
 | i, x :: l, hl => by
   simp only [okL] at hl;show okL h (cond (qC4 i W) .unk x :: blank W (i + 1) l);simp only [okL];refine ⟨?_, qNI hl.2⟩;cases qC4 i W
   ·exact hl.1
   ·simp [SV.ok]
def dZ : List Nat -> List SV -> List SV -> List SV × List SV
 | [], l, env => (env, l)
 | i :: is, c :: l, env => dZ is l (yY env i c)
 | _ :: _, [], env => (env, [])
def q30 (P : Program) (gr : Bool) : SV -> Option (Nat -> SO)
 | .d (.list el u) xs => (match szT P el with
   | some n => cond (Nat.beq n u.w && (Nat.ble 1 n && !Nat.beq el 1000000001)) (some fun v => .list el gr v v u xs) none
   | none => none)
 | .d .raw es => some fun v => .spc v (.map es)
 | .agg [.d .str s, .d (.int .i64) p] => some fun v => .spc v (.iter s (Int.toNat p))
 | _ => none
def q1I (P : Program) : List (Nat × Bool) -> List SV -> SH -> Option SH
 | [], [] => fun h => some h
 | (k, gr) :: ks, c :: l => fun h => (match q30 P gr c with
   | some f => q1I P ks l ((h.del k).new k f)
   | none => none)
 | _, _ => fun _ => none
def mkM : Nat := 1000000000000000
def qZ9 : List (Nat × Nat) -> SH -> List SV -> Option (List SV)
 | [], _, env => some env
 | (i, k) :: l, h, env => cond (Nat.ble mkM k) (qZ9 l h (yY env i (.mp (k - mkM)))) (match slk k h.l with
   | some (.list _ _ g _ _ xs) => qZ9 l h (yY env i (.own k g (List.length xs)))
   | _ => none)
def q58 (j : Nat) : Bool := Nat.beq j 1000000000
def q7I (k w : Nat) : SV -> Option Bool
 | .ref k' off w' => cond (Nat.beq k k' && (Nat.beq off 0 && Nat.beq w w')) (some true) none
 | .c (.pointer none) => some false
 | .opt b k' off w' => cond (Nat.beq k k' && (Nat.beq off 0 && Nat.beq w w')) (some b) none
 | _ => none
theorem qXS {k w : Nat} {v : SV} {b : Bool} (e : q7I k w v = some b) : v.enc = (SV.opt b k 0 w).enc := by
 have eqs : ∀ {k' off w' : Nat} {x y : Option Bool}, cond (Nat.beq k k' && (Nat.beq off 0 && Nat.beq w w')) x none = y -> y ≠ none -> k = k' ∧ off = 0 ∧ w = w' ∧ x = y := fun {k' off w' x y} h hy => by
  cases hc : (Nat.beq k k' && (Nat.beq off 0 && Nat.beq w w')) with
  | false => rw [hc] at h; exact absurd h.symm hy
  | true =>
    rw [hc] at h;simp only [zI5] at hc;exact ⟨zI6 hc.1, zI6 hc.2.1, zI6 hc.2.2, h⟩
 unfold q7I at e;split at e
 ·obtain ⟨rfl, rfl, rfl, h⟩ := eqs e (by simp);cases h; simp [SV.enc]
 ·cases e; simp [SV.enc]
 ·obtain ⟨rfl, rfl, rfl, h⟩ := eqs e (by simp);cases h; simp [SV.enc]
 ·cases e
def qZE (k w : Nat) : List (Option Nat) -> List SV -> Option (List SV)
 | [], [] => some []
 | none :: ds, v :: l => (match qZE k w ds l with
   | some r => some (v :: r)
   | none => none)
 | some j :: ds, v :: l => cond (q58 j) (match q7I k w v, qZE k w ds l with
   | some b, some r => some (.d .bool b :: r)
   | _, _ => none) (qZE k w ds l)
 | _, _ => none
def qLP (k : Nat) (v : SV) (h : SH) : Bool := match v with
 | .own k' g _ => Nat.beq k' k && (match slk k' h.l with
   | some (.list _ _ g' _ _ _) => Nat.beq g g'
   | _ => false)
 | _ => false
def q1K : List (Option Nat) -> List SV -> SH -> Bool
 | some k :: ds, v :: l, h => cond (q58 k) true (qLP k v h) && q1K ds l h
 | none :: ds, _ :: l, h => q1K ds l h
 | _, _, _ => true
def mkB (kb w : Nat) : List (Option Nat) -> List SV -> SH -> Option (List SV × List SV)
 | [], l, _ => some ([], l)
 | none :: ds, c :: l, h => (match mkB kb w ds l h with
   | some p => some (c :: p.1, p.2)
   | none => none)
 | some k :: ds, l, h => cond (q58 k) (match l with
   | c :: l' => (match asB c, mkB kb w ds l' h with
     | some b, some p => some (.opt b kb 0 w :: p.1, p.2)
     | _, _ => none)
   | [] => none) (match slk k h.l with
   | some (.list _ _ g _ _ xs) => (match mkB kb w ds l h with
     | some p => some (.own k g (List.length xs) :: p.1, p.2)
     | none => none)
   | _ => none)
 | none :: _, [], _ => none
def q36 (h1 : SH) : List (Nat × List (Option Nat)) -> List SV -> SH -> Option SH
 | [], _, h => some h
 | (k, ds) :: bs, l, h => match slk k h1.l with
   | some (.cells el _ _) => (match mkB k (List.length ds) ds l h with
     | some p => q36 h1 bs p.2 ((h.del k).new k fun v => .cells el v p.1)
     | none => none)
   | _ => none
def qZA : List (Nat × List (Option Nat)) -> SH -> Option (List SV)
 | [], _ => some []
 | (k, ds) :: bs, h => match slk k h.l with
   | some (.cells _ _ l) => (match qZE k (List.length ds) ds l, qZA bs h with
     | some a, some b => some (a ++ b)
     | _, _ => none)
   | _ => none
def qE1 (L : List Nat) (bs : List (Nat × List (Option Nat))) (h1 h : SH) : Bool := bs.all fun p => qC4 p.1 L && ((p.2.all fun x => match x with
 | some k => !qC4 k L
 | none => true) && (match slk p.1 h1.l, slk p.1 h.l with
 | some (.cells e1 _ _), some (.cells e2 _ l) => Nat.beq e1 e2 && q1K p.2 l h
 | _, _ => false))
def mkS (P : Program) (W : List Nat) (sh : Sh) (ts : List Ty) (os : List (Nat × Bool)) (env : List SV) (h : SH) (s : TyL ts) : Option (List SV × SH) :=
 match q1I P os ((dZ sh.d (svL ts s) (blank W 0 env)).2.take os.length) h with
 | some h2 => (match q36 h sh.b ((dZ sh.d (svL ts s) (blank W 0 env)).2.drop os.length) h2 with
   | some h3 => (match qZ9 sh.s h3 (dZ sh.d (svL ts s) (blank W 0 env)).1 with
     | some e2 => some (e2, h3)
     | none => none)
   | none => none)
 | none => none
omit [Yl] in
theorem qFS {l m : List PV} {i : Nat} {x : PV} (h : WkP l m) (hx : zA l i = some x) : WkP l (yY m i x) := by
 rw [qY];rw [qF] at hx
 have hl : l.length = (m.set i x).length := by
  rw [zL5];clear hx
  induction h with
  | nil => rfl
  | same _ ih => simp [ih]
  | any _ ih => simp [ih]
 have hp : ∀ j : Nat, m[j]? = l[j]? ∨ m[j]? = some PV.unk := by
  clear hx hl
  induction h with
  | nil => intro j; exact .inl rfl
  | same _ ih => intro j; cases j with
    | zero => exact .inl rfl
    | succ j => exact ih j
  | any _ ih => intro j; cases j with
    | zero => exact .inr rfl
    | succ j => exact ih j
 refine qRW hl fun j => ?_
 rw [qF, qF, zJ4];by_cases e : i = j
 ·subst e;rw [if_pos rfl];split
  ·exact .inl hx.symm
  ·rename_i hlt;have hlt' : i < l.length := (zJA.1 hx).1;rw [hl, zL5] at hlt';exact absurd hlt' hlt
 ·rw [if_neg e];exact hp j
theorem qT3 : ∀ {is : List Nat} {env l b m rest : List SV}, qGW is env = some l -> qB (l ++ b) = qB m -> WkP (qB env) (qB rest) -> WkP (qB env) (qB (dZ is m rest).1) ∧ qB (dZ is m rest).2 = qB b
 | [], env, l, b, m, rest, e, hm, hw => by
   cases e;exact ⟨hw, hm.symm⟩
 | i :: is, env, l, b, m, rest, e, hm, hw => by
   unfold qGW at e;split at e
   ·rename_i v l' hv hl';cases e
    cases m with
    | nil => simp [qB] at hm
    | cons c m =>
      simp only [zK3, qB, zJV] at hm;show WkP (qB env) (qB (dZ is m (yY rest i c)).1) ∧ qB (dZ is m (yY rest i c)).2 = qB b;refine qT3 hl' hm.2 ?_;rw [xS, <- hm.1];exact qFS hw (by rw [zD, hv]; rfl)
   ·cases e
omit [Yl] in
theorem qEV : ∀ (is : List Nat) (l env : List SV), (dZ is l env).1.length = env.length
 | [], l, env => rfl
 | i :: is, [], env => rfl
 | i :: is, c :: l, env => by
   show (dZ is l (yY env i c)).1.length = _;rw [qEV is l, kY]
omit [Yl] in
theorem qLN {h : SH} : ∀ {is : List Nat} {l env : List SV}, okL h l -> okL h env -> okL h (dZ is l env).1
 | [], l, env, _, he => he
 | i :: is, [], env, _, he => he
 | i :: is, c :: l, env, hl, he => by
   simp only [okL] at hl;show okL h (dZ is l (yY env i c)).1;exact qLN hl.2 (xP he hl.1)
omit [Yl] in
theorem qFO : ∀ {is : List Nat} {l env : List SV} {j : Nat}, j ∉ is -> zA (dZ is l env).1 j = zA env j
 | [], l, env, j, _ => rfl
 | i :: is, [], env, j, _ => rfl
 | i :: is, c :: l, env, j, hj => by
   rw [zJR, not_or] at hj;show zA (dZ is l (yY env i c)).1 j = _;rw [qFO hj.2, qY, qF, qF, zJ4, if_neg (fun e => hj.1 e.symm)]
omit [Yl] in
theorem qGO {k : Nat} {gr : Bool} {ks : List (Nat × Bool)} {c : SV} {l : List SV} {h h2 : SH} (e : q1I P ((k, gr) :: ks) (c :: l) h = some h2) :
 ∃ f, q30 P gr c = some f ∧ q1I P ks l ((h.del k).new k f) = some h2 := by
 unfold q1I at e;split at e
 ·rename_i f hf; exact ⟨f, hf, e⟩
 ·cases e
omit [Yl] in
theorem qWR {gr : Bool} {c : SV} {f : Nat -> SO} (e : q30 P gr c = some f) (h : SH) (n : Nat) : q42 P h n (f n) := by
 unfold q30 at e;split at e
 ·rename_i el u xs;split at e
  ·rename_i m hm
   cases hc : (Nat.beq m u.w && (Nat.ble 1 m && !Nat.beq el 1000000001)) with
   | false => rw [hc] at e; cases e
   | true =>
     rw [hc] at e;cases e;simp only [zI5] at hc;have hw : m = u.w := zI6 hc.1;have h1 := zJE hc.2.1;exact ⟨rfl, rfl, by rw [hm, hw], by omega⟩
  ·cases e
 ·cases e; rfl
 ·cases e; rfl
 ·cases e
omit [Yl] in
theorem qMA : ∀ {os : List (Nat × Bool)} {l : List SV} {h h2 : SH}, OkH P h -> q1I P os l h = some h2 -> Keep h h2 ∧ OkH P h2 ∧ ∀ k, k ∉ os.map (·.1) -> slk k h2.l = slk k h.l
 | [], [], h, h2, ho, e => by cases e; exact ⟨.refl _, ho, fun _ _ => rfl⟩
 | (k, gr) :: ks, c :: l, h, h2, ho, e => by
   obtain ⟨f, hf, e1⟩ := qGO e;have hd := dR (k := k) ho;have hn2 := xW (h := h.del k) (k := k) (f := f) hd.2 (qWR hf _ _);obtain ⟨a1, a2, a3⟩ := qMA hn2.2 e1;refine ⟨hd.1.trans (hn2.1.trans a1), a2, fun j hj => ?_⟩;rw [zJM, zJR, not_or] at hj;rw [a3 j hj.2];show slk j ((k, _) :: (h.del k).l) = _;rw [zX hj.1];exact jB hj.1 _
 | [], _ :: _, _, _, _, e => by cases e
 | _ :: _, [], _, _, _, e => by cases e
def qYK : List FV -> List (Value × Value)
 | .v k :: .v x :: l => (k, x) :: qYK l
 | _ => []
omit [Yl] in
theorem qF7 : ∀ (es : List (Value × Value)), qYK (bR es) = es
 | [] => rfl
 | p :: es => by
   show (p.1, p.2) :: qYK (bR es) = _;rw [qF7 es]
def obE (gr : Bool) : PV -> Option PO
 | .f (.l el _ cs) => cond (Nat.beq el 1000000001) (some (SpO.map (qYK cs)).enc) (some ⟨el, gr, cs.map .f⟩)
 | .agg [.f (.v (.string s)), .f (.v (.int _ p))] => some (SpO.iter s p.toNat).enc
 | _ => none
theorem q43 {gr : Bool} {c : SV} {f : Nat -> SO} (e : q30 P gr c = some f) (n : Nat) : obE gr c.enc = some (f n).enc := by
 unfold q30 at e;split at e
 ·rename_i el u xs;split at e
  ·rename_i m hm
   cases hc : (Nat.beq m u.w && (Nat.ble 1 m && !Nat.beq el 1000000001)) with
   | false => rw [hc] at e; cases e
   | true =>
     rw [hc] at e;cases e;simp only [zI5, zKA] at hc;simp only [SV.enc, Ty.fv, obE, hc.2.2, cond_false];rfl
  ·cases e
 ·rename_i es;cases e;simp only [SV.enc, Ty.fv, obE];show cond (Nat.beq 1000000001 1000000001) _ _ = _;rw [qF7]; rfl
 ·cases e;simp only [SV.enc, qB, Ty.fv, obE];rfl
 ·cases e
theorem q7F {ob : SO} {p : SV × Bool} (e : obD ob = some p) : obE p.2 p.1.enc = some ob.enc := by
 unfold obD at e;split at e
 ·rename_i el gr g w u xs
  cases hc : Nat.beq el 1000000001 with
  | true => rw [hc] at e; cases e
  | false =>
    rw [hc] at e;cases e;simp only [SV.enc, Ty.fv, obE, hc, cond_false];rfl
 ·rename_i w x
  cases x with
  | map es =>
    cases e;simp only [SV.enc, Ty.fv, obE];show cond (Nat.beq 1000000001 1000000001) _ _ = _;rw [qF7]; rfl
  | iter s pos =>
    cases e;simp only [SV.enc, qB, Ty.fv, obE];rfl
  | mit t j si la seen => cases e
 ·cases e
theorem qOO {q : PHp} {B : Nat -> Prop} : ∀ {os : List (Nat × Bool)} {l : List SV} {h h2 : SH}, q1I P os l h = some h2 -> (∀ k o, ¬ B k -> k ∉ os.map (·.1) -> slk k h.l = some o -> qA k q = some o.enc) ->
 (∀ (i : Nat) k gr c, os[i]? = some (k, gr) -> l[i]? = some c -> qA k q = obE gr c.enc) -> ∀ k o, ¬ B k -> slk k h2.l = some o -> qA k q = some o.enc
 | [], [], h, h2, e, h0, _, k, o, hB, hk => by
   cases e;exact h0 k o hB (by simp) hk
 | (j, gr) :: ks, c :: l, h, h2, e, h0, h1, k, o, hB, hk => by
   obtain ⟨f, hf, e1⟩ := qGO e;refine qOO (q := q) (B := B) e1 (fun k2 o2 hB2 hk2 ho2 => ?_) (fun i k2 gr2 c2 a1 a2 => h1 (i + 1) k2 gr2 c2 (by simpa using a1) (by simpa using a2)) k o hB hk;by_cases hj : k2 = j
   ·subst hj;rw [show slk k2 ((h.del k2).new k2 f).l = some (f (h.del k2).next) from vF] at ho2;cases ho2;rw [h1 0 k2 gr c rfl rfl];exact q43 hf _
   ·rw [show slk k2 ((h.del j).new j f).l = slk k2 (h.del j).l from zX hj, show slk k2 (h.del j).l = slk k2 h.l from jB hj _] at ho2;exact h0 k2 o2 hB2 (by rw [zJM, zJR, not_or]; exact ⟨hj, hk2⟩) ho2
 | [], _ :: _, _, _, e, _, _, _, _, _, _ => by cases e
 | _ :: _, [], _, _, e, _, _, _, _, _, _ => by cases e
omit [Yl] in
theorem qA3 {h : SH} : ∀ {is : List Nat} {l env : List SV}, okL h l -> okL h (dZ is l env).2
 | [], l, env, hl => hl
 | i :: is, [], env, _ => by simp [dZ, okL]
 | i :: is, c :: l, env, hl => by
   simp only [okL] at hl;show okL h (dZ is l (yY env i c)).2;exact qA3 hl.2
omit [Yl] in
theorem qOZ {h : SH} {l : List SV} (n : Nat) (hl : okL h l) : okL h (l.drop n) := zW.2 fun x hx => zW.1 hl x (zLS hx)
theorem qRQ (l : List SV) (n : Nat) : qB (l.take n) = (qB l).take n := by rw [qW, qW, zLH]
theorem qRC (l : List SV) (n : Nat) : qB (l.drop n) = (qB l).drop n := by rw [qW, qW, zLG]
omit [Yl] in
theorem qL1 {h : SH} (ho : OkH P h) : ∀ {l : List (Nat × Nat)} {env e2 : List SV}, okL h env -> qZ9 l h env = some e2 -> okL h e2 ∧ e2.length = env.length ∧ ∀ j, j ∉ l.map (·.1) -> zA e2 j = zA env j
 | [], env, e2, he, e => by cases e; exact ⟨he, rfl, fun _ _ => rfl⟩
 | (i, k) :: l, env, e2, he, e => by
   unfold qZ9 at e
   cases hmk : Nat.ble mkM k with
   | true =>
     rw [hmk] at e;simp only [cond_true] at e;obtain ⟨a1, a2, a3⟩ := qL1 ho (xP (t := i) he (v := .mp (k - mkM)) (by simp [SV.ok])) e;refine ⟨a1, a2.trans (kY _ _ _), fun j hj => ?_⟩;rw [zJM, zJR, not_or] at hj;rw [a3 j hj.2, qY, qF, qF, zJ4, if_neg (fun e => hj.1 e.symm)]
   | false =>
   rw [hmk] at e;simp only [cond_false] at e;split at e
   ·rename_i el gr g w u xs hk;have hg := (ho.list _ _ _ _ _ _ _ hk).1
    have hok : (SV.own k g (List.length xs)).ok h := by
     simp only [SV.ok];exact ⟨hg, fun el2 gr2 w2 t2 xs2 hk2 => by rw [hk] at hk2; cases hk2; rfl⟩
    obtain ⟨a1, a2, a3⟩ := qL1 ho (xP (t := i) he hok) e;refine ⟨a1, a2.trans (kY _ _ _), fun j hj => ?_⟩;rw [zJM, zJR, not_or] at hj;rw [a3 j hj.2, qY, qF, qF, zJ4, if_neg (fun e => hj.1 e.symm)]
   ·cases e
omit [Yl] in
theorem qHB {kb w : Nat} {h : SH} (ho : OkH P h) : ∀ {ds : List (Option Nat)} {l : List SV} {p : List SV × List SV}, okL h l -> mkB kb w ds l h = some p -> okL h p.1 ∧ okL h p.2
 | [], l, p, hl, e => by cases e; exact ⟨by simp [okL], hl⟩
 | none :: ds, c :: l, p, hl, e => by
   unfold mkB at e;simp only [okL] at hl;split at e
   ·rename_i q hq;cases e;have ih := qHB ho hl.2 hq;exact ⟨by simp only [okL]; exact ⟨hl.1, ih.1⟩, ih.2⟩
   ·cases e
 | some k :: ds, l, p, hl, e => by
   unfold mkB at e
   cases hm : q58 k with
   | true =>
     rw [hm] at e;simp only [cond_true] at e;split at e
     ·simp only [okL] at hl;split at e
      ·rename_i b q hb hq;cases e;have ih := qHB ho hl.2 hq;exact ⟨by simp only [okL]; exact ⟨by simp [SV.ok], ih.1⟩, ih.2⟩
      ·cases e
     ·cases e
   | false =>
   rw [hm] at e;simp only [cond_false] at e;split at e
   ·rename_i el gr g w u xs hk;split at e
    ·rename_i q hq;cases e;have ih := qHB ho hl hq;have hg := (ho.list _ _ _ _ _ _ _ hk).1;refine ⟨?_, ih.2⟩;simp only [okL, SV.ok];exact ⟨⟨hg, fun el2 gr2 w2 t2 xs2 hk2 => by rw [hk] at hk2; cases hk2; rfl⟩, ih.1⟩
    ·cases e
   ·cases e
 | none :: _, [], _, _, e => by cases e
omit [Yl] in
theorem qJZ {h1 : SH} : ∀ {bs : List (Nat × List (Option Nat))} {l : List SV} {h h2 : SH}, OkH P h -> okL h l -> q36 h1 bs l h = some h2 -> Keep h h2 ∧ OkH P h2 ∧ ∀ k, k ∉ bs.map (·.1) -> slk k h2.l = slk k h.l
 | [], l, h, h2, ho, hl, e => by cases e; exact ⟨.refl _, ho, fun _ _ => rfl⟩
 | (k, ds) :: bs, l, h, h2, ho, hl, e => by
   unfold q36 at e;split at e
   ·rename_i el w0 l0 hk0;split at e
    ·rename_i p hp;obtain ⟨m1, m2⟩ := qHB ho hl hp;have hd := dR (k := k) ho;have hn2 := xW (h := h.del k) (k := k) (f := fun v => .cells el v p.1) hd.2 ⟨rfl, qK hd.1 m1⟩;obtain ⟨a1, a2, a3⟩ := qJZ hn2.2 (qK hn2.1 (qK hd.1 m2)) e;refine ⟨hd.1.trans (hn2.1.trans a1), a2, fun j hj => ?_⟩;rw [zJM, zJR, not_or] at hj;rw [a3 j hj.2];show slk j ((k, _) :: (h.del k).l) = _;rw [zX hj.1];exact jB hj.1 _
    ·cases e
   ·cases e
theorem qKE {h h2 : SH} (ho : OkH P h) (ho2 : OkH P h2) {k : Nat} {v : SV} {el : TypeId} {gr : Bool} {g w : Nat} {u : Ty} {xs : List u.sem} (hv : v.ok h) (c : qLP k v h = true) (hk : slk k h2.l = some (.list el gr g w u xs)) (h1 : qA k (qD h.l) = some (SO.list el gr g w u xs).enc) :
 v.enc = (SV.own k g xs.length).enc := by
 unfold qLP at c;split at c
 ·rename_i k' g' n';rw [zI5] at c;have hkk : k' = k := zI6 c.1;subst hkk;have c2 := c.2;split at c2
  ·rename_i el3 gr3 g3 w3 u3 xs3 hk3;have hg : g' = g3 := zI6 c2;subst hg;simp only [SV.ok] at hv;have hn := hv.2 _ _ _ _ _ hk3;rw [yT hk3] at h1;have h1 := zJ5 h1;have e1 : el3 = el := congrArg PO.el h1
   have e2' : xs3.length * u3.w = xs.length * u.w := by
    have := congrArg (fun o : PO => o.cs.length) h1;simp only [qR] at this;exact this
   have l1 := ho.list _ _ _ _ _ _ _ hk3;have l2 := ho2.list _ _ _ _ _ _ _ hk
   have hww : u3.w = u.w := by
    have a1 := l1.2.1;have a2 := l2.2.1;rw [e1, a2] at a1;exact (zJ5 a1).symm
   have hlen : xs3.length = xs.length := by
    rw [hww] at e2';exact Nat.eq_of_mul_eq_mul_right l2.2.2 e2'
   simp only [SV.enc, hn, hlen]
  ·cases c2
 ·cases c
theorem qD0 {kb w : Nat} {hn h : SH} (hon : OkH P hn) (ho : OkH P h) : ∀ {ds : List (Option Nat)} {l ln dl rest : List SV} {p : List SV × List SV}, mkB kb w ds l h = some p -> qZE kb w ds ln = some dl -> q1K ds ln hn = true -> qB (dl ++ rest) = qB l -> okL hn ln ->
 (∀ k o, some k ∈ ds -> slk k h.l = some o -> qA k (qD hn.l) = some o.enc) -> qB p.1 = qB ln ∧ qB p.2 = qB rest
 | [], l, ln, dl, rest, p, e, ec, eo, hl, hok, hq => by
   cases e
   cases ln with
   | nil => cases ec; exact ⟨rfl, hl.symm⟩
   | cons _ _ => cases ec
 | none :: ds, c :: l, ln, dl, rest, p, e, ec, eo, hl, hok, hq => by
   unfold mkB at e;split at e
   ·rename_i q hm;cases e
    cases ln with
    | nil => cases ec
    | cons v ln =>
      unfold qZE at ec;split at ec
      ·rename_i r hr;cases ec;simp only [zK3, qB, zJV] at hl;simp only [okL] at hok;obtain ⟨a1, a2⟩ := qD0 hon ho hm hr (by unfold q1K at eo; exact eo) hl.2 hok.2 fun k o hk ho => hq k o (zJD _ hk) ho
       exact ⟨by simp only [qB, a1, hl.1], a2⟩
      ·cases ec
   ·cases e
 | some k :: ds, l, ln, dl, rest, p, e, ec, eo, hl, hok, hq => by
   unfold mkB at e
   cases hmk : q58 k with
   | true =>
     rw [hmk] at e;simp only [cond_true] at e;split at e
     case h_2 => cases e
     rename_i c l';split at e
     case h_2 => cases e
     rename_i b q hb hm;cases e
     cases ln with
     | nil => cases ec
     | cons v ln =>
       unfold qZE at ec;rw [hmk] at ec;simp only [cond_true] at ec;split at ec
       case h_2 => cases ec
       rename_i b2 r hb2 hr;cases ec;simp only [okL] at hok;unfold q1K at eo;rw [zI5] at eo;simp only [zK3, qB, zJV] at hl;obtain ⟨a1, a2⟩ := qD0 hon ho hm hr eo.2 hl.2 hok.2 fun k o hk ho => hq k o (zJD _ hk) ho
       refine ⟨?_, a2⟩
       have hbb : b2 = b := by
        have := hl.1;rw [pK hb] at this;simp only [SV.enc, Ty.fv, fvv] at this;injection this with this;injection this with this;injection this
       simp only [qB, a1, qXS hb2, hbb]
   | false =>
   rw [hmk] at e;simp only [cond_false] at e;split at e
   ·rename_i el gr g w u xs hk;split at e
    ·rename_i q hm;cases e
     cases ln with
     | nil => cases ec
     | cons v ln =>
       unfold qZE at ec;rw [hmk] at ec;simp only [cond_false] at ec;simp only [okL] at hok;unfold q1K at eo;rw [hmk, zI5] at eo;simp only [cond_false] at eo;obtain ⟨a1, a2⟩ := qD0 hon ho hm ec eo.2 hl hok.2 fun k o hk ho => hq k o (zJD _ hk) ho
       refine ⟨?_, a2⟩;simp only [qB, a1];rw [qKE hon ho hok.1 eo.1 hk (hq k _ zJI hk)]
    ·cases e
   ·cases e
 | none :: _, [], _, _, _, _, e, _, _, _, _, _ => by cases e
theorem qMQ {hn h1 : SH} {L : List Nat} (hon : OkH P hn) : ∀ {bs : List (Nat × List (Option Nat))} {l c rest : List SV} {h h2 : SH}, OkH P h -> okL h l -> q36 h1 bs l h = some h2 -> qZA bs hn = some c -> qB (c ++ rest) = qB l -> qE1 L bs h1 hn = true ->
 (∀ k o, slk k h.l = some o -> k ∉ bs.map (·.1) -> qA k (qD hn.l) = some o.enc) -> (∀ k o, slk k h.l = some o -> k ∉ L -> qA k (qD hn.l) = some o.enc) -> ∀ k o, slk k h2.l = some o -> qA k (qD hn.l) = some o.enc
 | [], l, c, rest, h, h2, ho, hl, e, ec, hc, hb, hq, _, k, o, hk => by
   cases e;exact hq k o hk (by simp)
 | (j, ds) :: bs, l, c, rest, h, h2, ho, hl, e, ec, hc, hb, hq, hqL, k, o, hk => by
   unfold qE1 at hb;rw [zKB, zI5, zI5, zI5] at hb;obtain ⟨⟨b0, b1, b2⟩, b3⟩ := hb;unfold q36 at e;split at e
   case h_2 => cases e
   rename_i el w0 l0 hk0;split at e
   case h_2 => cases e
   rename_i p hp;rw [hk0] at b2;simp only at b2;unfold qZA at ec;split at ec
   case h_2 => cases ec
   rename_i el2 w2 ln hkn;rw [hkn] at b2;simp only [zI5] at b2;split at ec
   case h_2 => cases ec
   rename_i a b ha hb2;cases ec;have hel : el = el2 := zI6 b2.1;subst hel;obtain ⟨m1, m2⟩ := qHB ho hl hp
   obtain ⟨q1, q2⟩ := qD0 hon ho hp ha b2.2 (rest := b ++ rest) (by rw [<- zJ0]; exact hc) (hon.cells _ _ _ _ hkn) (fun k o hk ho2 => hqL k o ho2 fun hm => by
    have := zI8.1 b1 (some k) hk;simp only [wG.2 hm] at this
    cases this)
   have hd := dR (k := j) ho;have hn2 := xW (h := h.del j) (k := j) (f := fun v => .cells el v p.1) hd.2 ⟨rfl, qK hd.1 m1⟩
   have look : ∀ i, i ≠ j -> slk i ((h.del j).new j fun v => .cells el v p.1).l = slk i h.l := fun i hi => by
    show slk i ((j, _) :: (h.del j).l) = _;rw [zX hi];exact jB hi _
   have zD2 : slk j ((h.del j).new j fun v => .cells el v p.1).l = some (.cells el (h.del j).next p.1) := vF
   have zAX : qA j (qD hn.l) = some (SO.cells el (h.del j).next p.1).enc := by
    rw [yT hkn];simp [SO.enc, q1]
   refine qMQ hon (bs := bs) (c := b) (rest := rest) hn2.2 (qK hn2.1 (qK hd.1 m2)) e hb2 q2.symm b3 (fun i o2 hi hni => ?_) (fun i o2 hi hni => ?_) k o hk
   ·by_cases hij : i = j
    ·subst hij;rw [zD2] at hi; cases hi; exact zAX
    ·rw [look i hij] at hi;exact hq i o2 hi (by rw [zJM, zJR, not_or]; exact ⟨hij, hni⟩)
   ·by_cases hij : i = j
    ·subst hij;rw [zD2] at hi; cases hi; exact zAX
    ·rw [look i hij] at hi;exact hqL i o2 hi hni
end
end Go.Sv
namespace Go.Sv
open Go.Idl
noncomputable section
variable [Gc]
variable [Yl]
variable {P : Program} {R : Type} {r : R} {nm : Nm}
def qZN (os : List (Nat × Bool)) (h : SH) : Bool := os.all fun p => match slk p.1 h.l with
 | some ob => (match obD ob with
   | some q => q.2 == p.2
   | none => false)
 | none => false
def qL3 (l : List (Nat × Nat)) (env : List SV) (h : SH) : Bool := l.all fun p => cond (Nat.ble mkM p.2) (match zA env p.1 with
 | some (.mp k) => Nat.beq k (p.2 - mkM)
 | _ => false) (match zA env p.1 with
 | some (.own k g _) => Nat.beq k p.2 && (match slk k h.l with
   | some (.list _ _ g' _ _ _) => Nat.beq g g'
   | _ => false)
 | _ => false)
def eZ (ls : List Nat) (hh h : SH) : Bool := hh.l.all fun p => qC4 p.1 ls || (match slk p.1 h.l with
 | some o => Nat.beq o.w p.2.w
 | none => false)
omit [Yl] in
theorem qKM {k : Nat} {o : SO} : ∀ {l : List (Nat × SO)}, slk k l = some o -> (k, o) ∈ l
 | (j, p) :: l, h => by
   have h1 : cond (k == j) (some p) (slk k l) = some o := h;clear h
   cases hj : k == j with
   | true =>
     rw [hj] at h1;have h2 : p = o := zJ5 h1;have : k = j := by simpa using hj
     rw [this, h2];exact zJI
   | false =>
     rw [hj] at h1;exact zJD _ (qKM (l := l) h1)
omit [Yl] in
theorem qEX : ∀ {ks : List Nat} {h : SH} {os : List (Nat × Bool)}, q1A ks h = some os -> os.map (·.1) = ks
 | [], h, os, e => by cases e; rfl
 | k :: ks, h, os, e => by
   unfold q1A at e;split at e
   ·rename_i hk hl;split at e
    ·cases e;rw [zJM, qEX hl]
    ·cases e
   ·cases e
omit [Yl] in
theorem qKZ : ∀ {ks : List Nat} {h : SH} {os : List (Nat × Bool)}, q1A ks h = some os -> qZN os h = true
 | [], h, os, e => by cases e; rfl
 | k :: ks, h, os, e => by
   unfold q1A at e;split at e
   ·rename_i ob os' hk hl;split at e
    ·rename_i p hp;cases e;have ih := qKZ hl;unfold qZN at ih ⊢;rw [zKB, ih];simp only [hk, hp];simp
    ·cases e
   ·cases e
omit [Yl] in
theorem qR6 : ∀ {ks : List Nat} {h : SH} {b : List SV}, qVU ks h = some b -> ∀ (i : Nat) k, ks[i]? = some k -> ∃ ob p, slk k h.l = some ob ∧ obD ob = some p ∧ b[i]? = some p.1
 | [], h, b, e, i, k, hk => by simp at hk
 | j :: ks, h, b, e, i, k, hk => by
   unfold qVU at e;split at e
   ·rename_i ob l hj hl;split at e
    ·rename_i p hp;cases e
     cases i with
     | zero =>
       simp at hk;subst hk;exact ⟨ob, p, hj, hp, rfl⟩
     | succ i => exact qR6 hl i k (by simpa using hk)
    ·cases e
   ·cases e
omit [Yl] in
theorem qOA : ∀ {ks : List Nat} {h : SH} {b : List SV}, qVU ks h = some b -> b.length = ks.length
 | [], h, b, e => by cases e; rfl
 | k :: ks, h, b, e => by
   unfold qVU at e;split at e
   ·rename_i hk hl;split at e
    ·cases e;simp only [zJN, qOA hl]
    ·cases e
   ·cases e
theorem qJ0 {h h2 : SH} {env : List SV} (ho : OkH P h) (ho2 : OkH P h2) (hs : ∀ k o, slk k h2.l = some o -> qA k (qD h.l) = some o.enc) (hen : okL h env) : ∀ {l : List (Nat × Nat)} {m e2 : List SV}, qL3 l env h = true -> qZ9 l h2 m = some e2 -> WkP (qB env) (qB m) -> WkP (qB env) (qB e2)
 | [], m, e2, _, e, hw => by cases e; exact hw
 | (i, k) :: l, m, e2, hc, e, hw => by
   unfold qL3 at hc;rw [zKB, zI5] at hc;unfold qZ9 at e;have c0 := hc.1;simp only at c0
   cases hmk : Nat.ble mkM k with
   | true =>
     rw [hmk] at e c0;simp only [cond_true] at e c0;refine qJ0 ho ho2 hs hen hc.2 e ?_;split at c0
     ·rename_i k' hi;have hkk := zI6 c0;rw [xS];refine qFS hw ?_;rw [zD, hi, hkk];rfl
     ·cases c0
   | false =>
   rw [hmk] at e c0;simp only [cond_false] at e c0;split at e
   ·rename_i el gr g w u xs hk;refine qJ0 ho ho2 hs hen hc.2 e ?_;have c1 := c0;split at c1
    ·rename_i k' g' n' hi;have c3 : qLP k (.own k' g' n') h = true := c1;rw [xS];refine qFS hw ?_;rw [zD, hi];show some (SV.own k' g' n').enc = _;rw [qKE ho ho2 (dW hen hi) c3 hk (hs k _ hk)]
    ·cases c1
   ·cases e
theorem qTB {W : List Nat} {sh : Sh} {ts : List Ty} {os : List (Nat × Bool)} {q9L e2 b c : List SV} {h1 h h2 : SH} {s : TyL ts} (ho : OkH P h) (ho1 : OkH P h1)
 (hb : qVU sh.o h = some b) (hcB : qZA sh.b h = some c) (w2 : qB (dZ sh.d (svL ts s) (blank W 0 q9L)).2 = qB (b ++ c)) (hm : mkS P W sh ts os q9L h1 s = some (e2, h2)) (hos : os.map (·.1) = sh.o) (hgr : qZN os h = true) (hbx : qE1 (sh.b.map (·.1)) sh.b h1 h = true)
 (hkept : ∀ k o, k ∉ sh.o -> k ∉ sh.b.map (·.1) -> slk k h1.l = some o -> qA k (qD h.l) = some o.enc) :
 OkH P h2 ∧ qZ9 sh.s h2 (dZ sh.d (svL ts s) (blank W 0 q9L)).1 = some e2 ∧ ∀ k o, slk k h2.l = some o -> qA k (qD h.l) = some o.enc := by
 unfold mkS at hm;split at hm
 case h_2 => cases hm
 rename_i h3 hso;split at hm
 case h_2 => cases hm
 rename_i h4 hsb;split at hm
 case h_2 => cases hm
 rename_i e3 hss;cases hm;have hlen : os.length = b.length := by rw [qOA hb, <- hos, zJO]
 have t1 : qB ((dZ sh.d (svL ts s) (blank W 0 q9L)).2.take os.length) = qB b := by
  rw [qRQ, w2, qW, qW, zJ9, hlen, <- zJO (as := b) (f := SV.enc), List.take_left]
 have t2 : qB ((dZ sh.d (svL ts s) (blank W 0 q9L)).2.drop os.length) = qB c := by
  rw [qRC, w2, qW, qW, zJ9, hlen, <- zJO (as := b) (f := SV.enc), List.drop_left]
 have zD3 : ∀ k o, ¬ k ∈ sh.b.map (·.1) -> slk k h3.l = some o -> qA k (qD h.l) = some o.enc := by
  refine qOO (B := fun k => k ∈ sh.b.map (·.1)) hso (fun k o hB hk hk2 => hkept k o (by rw [<- hos]; exact hk) hB hk2) ?_;intro i k gr x hi hx;have hki : sh.o[i]? = some k := by rw [<- hos, zJK, hi]; rfl
  obtain ⟨ob, p, q1, q0, q2⟩ := qR6 hb i k hki
  have hce : x.enc = p.1.enc := by
   have e1 : (qB b)[i]? = some p.1.enc := by rw [qW, zJK, q2]; rfl
   rw [<- t1, qW, zJK, hx] at e1;exact zJ5 e1
  have hg : p.2 = gr := by
   unfold qZN at hgr;have := zI8.1 hgr (k, gr) (zJ8 hi);simp only [q1, q0] at this;simpa using this
  rw [hce, yT q1, <- hg, q7F q0]
 obtain ⟨k3, ho3, _⟩ := qMA ho1 hso;have hrest : okL h3 ((dZ sh.d (svL ts s) (blank W 0 q9L)).2.drop os.length) := qOZ _ (qA3 (qAT ts s));have hsub := qMQ (L := sh.b.map (·.1)) ho (c := c) (rest := []) ho3 hrest hsb hcB (by rw [zKR]; exact t2.symm) hbx (fun k o hk hn => zD3 k o hn hk) (fun k o hk hn => zD3 k o hn hk);obtain ⟨_, ho4, _⟩ := qJZ ho3 hrest hsb;exact ⟨ho4, hss, hsub⟩
theorem qEK {h h2 : SH} (hsub : ∀ k o, slk k h2.l = some o -> qA k (qD h.l) = some o.enc) : nX (qD h2.l) (qD h.l) := fun k ob hk => by
 rw [uM] at hk;obtain ⟨o, h1, h2⟩ := zJF.1 hk;rw [hsub k o h1, h2]
theorem q5S {W : List Nat} {sh : Sh} {ts : List Ty} {os : List (Nat × Bool)} {q9L env e2 a b c : List SV} {h1 h h2 : SH} {s : TyL ts} (ho : OkH P h) (ho1 : OkH P h1) (hen : okL h env)
 (ha : qGW sh.d env = some a) (hb : qVU sh.o h = some b) (hcB : qZA sh.b h = some c) (hd : qCE ts (a ++ (b ++ c)) = some s) (hm : mkS P W sh ts os q9L h1 s = some (e2, h2)) (hos : os.map (·.1) = sh.o) (hgr : qZN os h = true) (hown : qL3 sh.s env h = true) (hbx : qE1 (sh.b.map (·.1)) sh.b h1 h = true)
 (hkept : ∀ k o, k ∉ sh.o -> k ∉ sh.b.map (·.1) -> slk k h1.l = some o -> qA k (qD h.l) = some o.enc) (hbl : WkP (qB env) (qB (blank W 0 q9L))) :
 WkP (qB env) (qB e2) ∧ nX (qD h2.l) (qD h.l) := by
 have hde := nE hd;obtain ⟨w1, w2⟩ := qT3 (m := svL ts s) ha hde hbl;obtain ⟨ho4, hss, hsub⟩ := qTB ho ho1 hb hcB w2 hm hos hgr hbx hkept;exact ⟨qJ0 ho ho4 hsub hen hown hss w1, qEK hsub⟩
theorem dK {W : List Nat} {sh : Sh} {ts : List Ty} {os : List (Nat × Bool)} {q9L e2 : List SV} {h1 h2 : SH} {s : TyL ts} (ho1 : OkH P h1) (he1 : okL h1 q9L) (hm : mkS P W sh ts os q9L h1 s = some (e2, h2)) :
 Keep h1 h2 ∧ OkH P h2 ∧ okL h2 e2 ∧ e2.length = q9L.length ∧ (∀ j, j ∉ W -> j ∉ sh.d -> j ∉ sh.s.map (·.1) -> zA (qB e2) j = zA (qB q9L) j) ∧ ∀ k, k ∉ os.map (·.1) -> k ∉ sh.b.map (·.1) -> slk k h2.l = slk k h1.l := by
 unfold mkS at hm;split at hm
 case h_2 => cases hm
 rename_i h3 hso;split at hm
 case h_2 => cases hm
 rename_i h4 hsb;split at hm
 case h_2 => cases hm
 rename_i e3 hss;cases hm;obtain ⟨a1, a2, a3⟩ := qMA ho1 hso;have hrest : okL h3 ((dZ sh.d (svL ts s) (blank W 0 q9L)).2.drop os.length) := qOZ _ (qA3 (qAT ts s));obtain ⟨c1, c2, c3⟩ := qJZ a2 hrest hsb;have hok : okL h2 (dZ sh.d (svL ts s) (blank W 0 q9L)).1 := qLN (qAT ts s) (qNI (qK c1 (qK a1 he1)));obtain ⟨b1, b2, b3⟩ := qL1 c2 hok hss;refine ⟨a1.trans c1, c2, b1, by rw [b2, qEV, qA5], fun j hj hjd hjs => ?_, fun k hk hk2 => (c3 k hk2).trans (a3 k hk)⟩;rw [zD, zD, b3 j hjs, qFO hjd, qBW]
 have : qC4 (0 + j) W = false := by
  cases hq : qC4 (0 + j) W with
  | false => rfl
  | true => rw [zJS] at hq; exact absurd (wG.1 hq) hj
 rw [this];cases zA q9L j <;> rfl
theorem qN7 {W : List Nat} {env q9L : List SV} (hl : env.length = q9L.length) (h : ∀ i, i ∉ W -> zA (qB env) i = zA (qB q9L) i) : WkP (qB env) (qB (blank W 0 q9L)) := by
 refine qRW (by rw [qV, qV, qA5, hl]) fun i => ?_
 rw [zD (blank W 0 q9L), qBW, zJS]
 cases hq : qC4 i W with
 | true =>
   cases hx : zA q9L i with
   | none =>
     left
     have : zA env i = none := by
      rw [qF] at hx ⊢;rw [zLQ] at hx ⊢;omega
     rw [zD, this]; rfl
   | some x => right; simp [SV.enc]
 | false =>
   left
   have hni : i ∉ W := fun hm => by
    rw [wG.2 hm] at hq;cases hq
   rw [h i hni, zD q9L];cases zA q9L i <;> rfl
end
end Go.Sv
namespace Go.Sv
open Go.Idl
noncomputable section
abbrev uE (Γ : Option Type) (R : Type) := zAD -> GV Γ -> List SV -> SH -> q9D R
def q9D.sum {R : Type} {α β : Type} (x : α ⊕ β) (f : α -> q9D R) (g : β -> q9D R) : q9D R := Sum.rec f g x
variable [Gc]
variable [Yl]
variable {P : Program} {Γ : Option Type} {R : Type} {r : R} {nm : Nm} {G : Nat -> Bool} {rd : Bool} {N : Nat} {rs : List Ty} {wd : Wld (GV Γ)}
def EQ (P : Program) (N : Nat) (w : List Nat) (env : List SV) (h : SH) (K : uE Γ R) (r : R) : YQ (GV Γ) := fun e g pe ph =>
 ∃ env' h', pe = qB env' ∧ ph = qD h'.l ∧ okL h' env' ∧ OkH P h' ∧ env'.length = N ∧ Keep h h' ∧ (e ≠ .ret -> jN P w env h env' h') ∧ (K e g env' h').run = some r
def q8A (id : Nat) (K : uE Γ R) : uE Γ R := fun e g env h => match e with
 | .exit i => cond (Nat.beq i id) (K .normal g env h) (K (.exit i) g env h)
 | e => K e g env h
def q3M : List Nat -> Nat -> (Nat -> q9D R) -> q9D R
 | [], _, _ => .fail
 | a :: l, j, K => .ite (Nat.beq j a) (K a) (q3M l j K)
omit [Yl] in
theorem qON : ∀ {l : List Nat} {j : Nat} {K : Nat -> q9D R}, (q3M l j K).run = some r -> (K j).run = some r
 | [], j, K, e => by cases e
 | a :: l, j, K, e => by
   rcases run_ite e with ⟨z, e1⟩ | ⟨z, e1⟩
   ·rw [zI6 z]; exact e1
   ·exact qON e1
def bk (sh : Sh) (os : List (Nat × Bool)) (ts : List Ty) (mk : TyL ts -> Option (List SV × SH)) (h1 hh : SH) (env : List SV) (h : SH) : Option (TyL ts) := match qGW sh.d env, qVU sh.o h, qZA sh.b h with
 | some a, some b, some c => (match qCE ts (a ++ (b ++ c)) with
   | some s => cond (qZN os h && (qL3 sh.s env h && (qE1 (sh.b.map (·.1)) sh.b h1 h && (eZ (sh.o ++ sh.b.map (·.1)) hh h && (mk s).isSome)))) (some s) none
   | none => none)
 | _, _, _ => none
def mkL : Nat := 2000000000000000
def lbL (y : Nat) : Nat := y - mkL
def nY : List (Nat × TypeId) -> List SV -> SH -> List SV -> List SV
 | [], _, _, e => e
 | (i, y) :: l, e0, h, e => cond (Nat.ble mkL y) (match slk (lbL y) h.l, zA e0 i with
   | some (.list _ _ g _ _ xs), some (.sl _ _ _ o m) => nY l e0 h (yY e i (.sl (lbL y) g (List.length xs) o m))
   | _, _ => nY l e0 h e) (nY l e0 h e)
def slG : List (Nat × TypeId) -> List SV -> SH -> Bool
 | [], _, _ => true
 | (i, y) :: l, e0, h => cond (slG l e0 h) (cond (Nat.ble mkL y) (match slk (lbL y) h.l, zA e0 i with
   | some (.list _ _ _ _ _ xs), some (.sl _ _ _ o m) => Nat.ble (o + m) (List.length xs)
   | _, _ => false) true) false
def q8P (k : Nat) (v : SV) (h : SH) : Bool := match v with
 | .sl k' g n _ _ => qLP k (.own k' g n) h
 | _ => false
def q0E (l : List (Nat × TypeId)) (env : List SV) (h : SH) : Bool := l.all fun p => cond (Nat.ble mkL p.2) (match zA env p.1 with
 | some v => q8P (lbL p.2) v h
 | none => false) true
def slW (wb : List Nat) (l : List (Nat × TypeId)) : Bool := l.all fun p => cond (Nat.ble mkL p.2) (!qC4 p.1 wb) true
def isP (k o m : Nat) (x : Option SV) : Prop := ∃ g n, x = some (.sl k g n o m)
omit [Yl] in
theorem qM1 {k o m j g0 n0 k0 : Nat} {e0 : List SV} {h : SH} (h0 : zA e0 j = some (.sl k0 g0 n0 o m)) : ∀ {l : List (Nat × TypeId)} {e : List SV}, (∀ y, (j, y) ∈ l -> Nat.ble mkL y = true -> lbL y = k) -> isP k o m (zA e j) -> isP k o m (zA (nY l e0 h e) j)
 | [], e, _, he => he
 | (i, y) :: l, e, hy, he => by
   have ih := fun {e : List SV} => qM1 (k := k) (h := h) h0 (l := l) (e := e) fun y hm => hy y (zJD _ hm)
   unfold nY
   cases hb : Nat.ble mkL y with
   | false => exact ih he
   | true =>
     simp only [cond_true];split
     ·rename_i hk hi;refine ih ?_;by_cases hij : i = j
      ·subst hij;rw [h0] at hi;cases hi;rw [hy y zJI hb];obtain ⟨g, n, h2⟩ := he
       have hlt : i < e.length := by
        rw [qF] at h2;exact (zJA.1 h2).1
       exact ⟨_, _, by rw [qY, qF, List.getElem?_set_self hlt]⟩
      ·rw [qY, qF, List.getElem?_set_ne hij, <- qF]; exact he
     ·exact ih he
omit [Yl] in
theorem qM3 {k o m j y0 g0 n0 k0 : Nat} {e0 : List SV} {h : SH} (h0 : zA e0 j = some (.sl k0 g0 n0 o m)) : ∀ {l : List (Nat × TypeId)} {e : List SV}, (∀ y, (j, y) ∈ l -> Nat.ble mkL y = true -> lbL y = k) -> (j, y0) ∈ l -> Nat.ble mkL y0 = true -> slG l e0 h = true -> j < e.length -> isP k o m (zA (nY l e0 h e) j)
 | (i, y) :: l, e, hy, hm, hy0, hg, hlt => by
   have hy' : ∀ y, (j, y) ∈ l -> Nat.ble mkL y = true -> lbL y = k := fun y hm => hy y (zJD _ hm)
   unfold slG at hg
   cases hgl : slG l e0 h with
   | false => rw [hgl] at hg; cases hg
   | true =>
   rw [hgl, cond_true] at hg;have len : ∀ {x : SV}, j < (yY e i x).length := fun {x} => by rw [kY]; exact hlt
   rcases zJR.1 hm with hq | hq
   ·cases hq;unfold nY;rw [hy0, cond_true] at hg ⊢;split at hg
    ·rename_i el gr g w t xs k2 g2 n2 o2 m2 hk hi;rw [h0] at hi;cases hi;refine qM1 h0 hy' ?_;rw [hy y0 zJI hy0];exact ⟨_, _, by rw [qY, qF, List.getElem?_set_self hlt]⟩
    ·cases hg
   ·unfold nY
    cases hb : Nat.ble mkL y with
    | false => exact qM3 h0 hy' hq hy0 hgl hlt
    | true =>
      simp only [cond_true];split
      ·exact qM3 h0 hy' hq hy0 hgl len
      ·exact qM3 h0 hy' hq hy0 hgl hlt
omit [Yl] in
theorem qH9 {j : Nat} {e0 : List SV} {h : SH} : ∀ {l : List (Nat × TypeId)} {e : List SV}, j ∉ l.map (·.1) -> zA (nY l e0 h e) j = zA e j
 | [], e, _ => rfl
 | (i, y) :: l, e, hj => by
   rw [zJM, zJR, not_or] at hj;unfold nY
   cases Nat.ble mkL y with
   | false => exact qH9 hj.2
   | true =>
     simp only [cond_true];split
     ·rw [qH9 hj.2, qY, qF, List.getElem?_set_ne (fun q => hj.1 q.symm), <- qF]
     ·exact qH9 hj.2
omit [Yl] in
theorem qRP {e0 : List SV} {h : SH} (ho : OkH P h) : ∀ {l : List (Nat × TypeId)} {e : List SV}, okL h e -> slG l e0 h = true -> okL h (nY l e0 h e) ∧ (nY l e0 h e).length = e.length
 | [], e, he, _ => ⟨he, rfl⟩
 | (i, y) :: l, e, he, hg => by
   unfold slG at hg
   cases hgl : slG l e0 h with
   | false => rw [hgl] at hg; cases hg
   | true =>
   rw [hgl, cond_true] at hg;unfold nY
   cases hb : Nat.ble mkL y with
   | false => exact qRP ho he hgl
   | true =>
     rw [hb, cond_true] at hg;simp only [cond_true];split at hg
     ·rename_i el gr g w t xs k' g' n' o m hk hi
      have hv : (SV.sl (lbL y) g (List.length xs) o m).ok h := by
       simp only [SV.ok];refine ⟨⟨(ho.list _ _ _ _ _ _ _ hk).1, fun el2 gr2 w2 t2 xs2 h2 => ?_⟩, zJE hg⟩;rw [hk] at h2;cases h2;rfl
      obtain ⟨a1, a2⟩ := qRP ho (xP (t := i) he hv) hgl;exact ⟨a1, a2.trans (kY _ _ _)⟩
     ·cases hg
theorem qRZ {h h3 : SH} {env e0 : List SV} (ho : OkH P h) (ho3 : OkH P h3) (hs : nX (qD h3.l) (qD h.l)) (hen : okL h env) : ∀ {l : List (Nat × TypeId)} {m : List SV}, q0E l env h = true ->
 (∀ i y k g n o q, (i, y) ∈ l -> Nat.ble mkL y = true -> zA e0 i = some (.sl k g n o q) -> ∃ k' g' n', zA env i = some (.sl k' g' n' o q)) -> WkP (qB env) (qB m) -> WkP (qB env) (qB (nY l e0 h3 m))
 | [], m, _, _, hw => hw
 | (i, y) :: l, m, hc, hom, hw => by
   unfold q0E at hc;rw [zKB, zI5] at hc;have zG1 := fun i y k g n o q hm => hom i y k g n o q (zJD _ hm)
   have ih := fun {m : List SV} => qRZ ho ho3 hs hen (l := l) (m := m) hc.2 zG1
   unfold nY
   cases hb : Nat.ble mkL y with
   | false => exact ih hw
   | true =>
     have c0 := hc.1;simp only [hb, cond_true] at c0 ⊢;split
     ·rename_i el gr g w t xs k0 g0 n0 o q hk hi;refine ih ?_;obtain ⟨k', g', n', hi2⟩ := hom i y _ _ _ _ _ zJI hb hi;rw [hi2] at c0;have c3 : qLP (lbL y) (.own k' g' n') h = true := c0
      have hv : (SV.own k' g' n').ok h := by
       have := dW hen hi2;simp only [SV.ok] at this ⊢;exact this.1
      have he := qKE ho ho3 hv c3 hk (hs _ _ (yT hk));rw [xS];refine qFS hw ?_;rw [zD, hi2, zJJ];simp only [SV.enc, PV.own.injEq] at he ⊢;obtain ⟨e1, e2, _, _⟩ := he;rw [e1, e2]
     ·exact ih hw
theorem qS9 {l : List (Nat × TypeId)} {env : List SV} {h : SH} (hc : q0E l env h = true) {i y : Nat} (hm : (i, y) ∈ l) (hb : Nat.ble mkL y = true) : ∃ g n o q, zA env i = some (.sl (lbL y) g n o q) := by
 unfold q0E at hc;have := zI8.1 hc (i, y) hm;simp only [hb, cond_true] at this;split at this
 ·rename_i v hv;unfold q8P at this;split at this
  ·rename_i k g n o q;unfold qLP at this;simp only [zI5] at this;have hk := zI6 this.1;rw [hk] at hv;exact ⟨g, n, o, q, hv⟩
  ·exact absurd this zLM
 ·exact absurd this zLM
def qUJ (rdv : List SV -> SH -> Option (TyL rs)) (id : Nat) (sh : Sh) (os : List (Nat × Bool)) (ts : List Ty) (mk : TyL ts -> Option (List SV × SH)) (h1 hh : SH) : uE Γ (GS Γ (TyL ts) ⊕ (GS Γ (TyL ts) ⊕ (GS Γ (TyL rs) ⊕ GS Γ (Nat × TyL ts)))) := fun e g env h => match e with
 | .normal => cond (q0E sh.v env h) (match bk sh os ts mk h1 hh env h with
   | some s => .ret (.inl (gj g s))
   | none => .fail) .fail
 | .exit j => cond (q0E sh.v env h) (match bk sh os ts mk h1 hh env h with
   | some s => .ret (.inr (cond (Nat.beq j id) (.inl (gj g s)) (.inr (.inr (gj g (j, s))))))
   | none => .fail) .fail
 | .ret => (match rdv env h with
   | some v => .ret (.inr (.inr (.inl (gj g v))))
   | none => .fail)
 | .goto _ => .fail
def goS {α : Type} (o : Option (α × SH)) (K : α -> SH -> q9D R) : q9D R := match o with
 | some p => K p.1 p.2
 | none => .fail
omit [Yl] in
theorem qBE {α : Type} {o : Option (α × SH)} {K : α -> SH -> q9D R} (e : (goS o K).run = some r) : ∃ a h, o = some (a, h) ∧ (K a h).run = some r := by
 unfold goS at e;split at e
 ·exact ⟨_, _, rfl, e⟩
 ·cases e
def q5Y (P : Program) (nm : Nm) (wb w : List Nat) (rdv : List SV -> SH -> Option (TyL rs)) (en : TyL rs -> List SV) (hb : SH) (sh : Sh) (id : Nat) (body : ∀ {R' : Type}, GV Γ -> List SV -> SH -> uE Γ R' -> q9D R') (g : GV Γ) (env : List SV) (h : SH) (K : uE Γ R) : q9D R :=
 qO9 P nm sh.v env h fun q9L h0 => qTS P nm (sh.b.map (·.1)) sh.bv q9L h0 fun q9L h1 => match qGW sh.d q9L, qVU sh.o h1, qZA sh.b h1, q1A sh.o h1 with
  | some a, some b, some c, some os => (match q74 (a ++ (b ++ c)) with
    | some ts => (match qCE ts (a ++ (b ++ c)) with
      | some s0 => cond ((qL3 sh.s q9L h1 && qE1 (sh.b.map (·.1)) sh.b h1 h1) && (q0E sh.v q9L h1 && slW wb sh.v))
         (.loop (fun s => goS (mkS P w sh ts os q9L h1 (g2 s)) fun e hh => .ite (slG sh.v q9L hh) (body (g1 s) (nY sh.v q9L hh e) hh (qUJ rdv id sh os ts (mkS P w sh ts os q9L h1) h1 hh)) .fail) (gj g s0)
           fun q => q9D.sum q (fun s => goS (mkS P w sh ts os q9L h1 (g2 s)) fun e hh => .ite (slG sh.v q9L hh) (K .normal (g1 s) (nY sh.v q9L hh e) hh) .fail)
            fun q2 => q9D.sum q2 (fun v => K .ret (g1 v) (en (g2 v)) ⟨h.next, hb.l⟩)
             fun p => q3M sh.ex (g2 p).1 fun j => goS (mkS P w sh ts os q9L h1 (g2 p).2) fun e hh => .ite (slG sh.v q9L hh) (K (.exit j) (g1 p) (nY sh.v q9L hh e) hh) .fail) .fail
      | none => .fail)
    | none => .fail)
  | _, _, _, _ => .fail
def lpW (w : List Nat) (sh : Sh) : List Nat := sh.v.map (·.1) ++ (w ++ (sh.d ++ sh.s.map (·.1)))
structure zB9 (P : Program) (nm : Nm) (N : Nat) (hb : SH) (rdv : List SV -> SH -> Option (TyL rs)) (en : TyL rs -> List SV) : Prop where
 ob : OkH P hb
 wk : ∀ env h v, OkH P h -> okL h env -> env.length = N -> Keep hb h -> rdv env h = some v -> Wk P nm (qB env) (qD h.l) (qB (en v)) (qD hb.l)
 kept : ∀ env h v, OkH P h -> okL h env -> Keep hb h -> rdv env h = some v -> ∀ k o, slk k hb.l = some o -> slk k h.l = some o
 len : ∀ v, (en v).length = N
 ok : ∀ v h, okL h (en v)
omit [Yl] in
theorem q4Y {h : SH} (a : OkH P h) {n : Nat} (hn : h.next <= n) : OkH P ⟨n, h.l⟩ := by
 have hk : ∀ {x : SV}, x.ok h -> x.ok ⟨n, h.l⟩ := fun {x} hx => SV.ok.keep (h := h) (h' := ⟨n, h.l⟩) ⟨hn, fun k ob hh _ => hh, fun k el gr g w t xs hh _ => ⟨w, xs, hh, rfl⟩⟩ hx
 exact ⟨fun k ob hh => zJB (a.ver k ob hh) hn, fun k el w l hh => zW.2 fun x hx => hk (zW.1 (a.cells k el w l hh) x hx), fun k el gr g w t xs hh => by
  have := a.list k el gr g w t xs hh
  exact ⟨zJB this.1 hn, this.2⟩⟩
omit [Yl] in
theorem qAB : OkH P ⟨0, []⟩ := ⟨fun k ob h => (by cases h), fun k el w l h => (by cases h), fun k el gr g w t xs h => (by cases h)⟩
omit [Yl] in
theorem qQC {σ ρ : Type} {f : σ -> Option (σ ⊕ ρ)} {s : σ} {q : ρ} (h : yK f s = some q) : ∃ y, f s = some y := by
 rw [qFF] at h
 cases hf : f s with
 | none => rw [hf] at h; cases h
 | some y => exact ⟨y, rfl⟩
omit [Yl] in
theorem qNX {ls : List Nat} {hh h : SH} {k : Nat} {o : SO} (ho : OkH P hh) (hk : Keep hh h) (e : eZ ls hh h = true) (h1 : k ∉ ls) (h2 : slk k hh.l = some o) : slk k h.l = some o := by
 unfold eZ at e;have := zI8.1 e (k, o) (qKM h2);rw [zKC] at this;rcases this with q | q
 ·exact absurd (wG.1 q) h1
 ·simp only at q;split at q
  ·rename_i o' ho';have hw : o'.w = o.w := zI6 q;have := hk.same k o' ho' (by rw [hw]; exact ho.ver k o h2);rw [this] at h2;cases h2;exact ho'
  ·cases q
theorem tO {ls : List Nat} {hh h : SH} {k : Nat} {o : SO} (ho : OkH P hh) (hk : Keep hh h) (e : eZ ls hh h = true) (h1 : k ∉ ls) (h2 : slk k hh.l = some o) : qA k (qD h.l) = some o.enc := yT (qNX ho hk e h1 h2)
theorem qVX {w : List Nat} {rdv : List SV -> SH -> Option (TyL rs)} {en : TyL rs -> List SV} {hb : SH} (hrd : zB9 P nm N hb rdv en) {sh : Sh} {id : Nat} {y : Code} {body : ∀ {R' : Type}, GV Γ -> List SV -> SH -> uE Γ R' -> q9D R'} {wb : List Nat} (hwb : w = lpW wb sh)
 (hbody : ∀ {R' : Type} {g : GV Γ} {env : List SV} {h : SH} {K : uE Γ R'} {r : R'}, OkH P h -> okL h env -> env.length = N -> Keep hb h -> (body g env h K).run = some r -> qO P G rd nm wd y g (qB env) (qD h.l) (EQ P N wb env h K r))
 {g : GV Γ} {env : List SV} {h : SH} {K : uE Γ R} (ho : OkH P h) (he : okL h env) (hl : env.length = N) (hbh : Keep hb h) (e : (q5Y P nm wb w rdv en hb sh id body g env h K).run = some r) :
 qO P G rd nm wd (.block id (.loop y)) g (qB env) (qD h.l) (EQ P N w env h K r) := by
 obtain ⟨q9L, h0, wk1, zBE, e⟩ := sH (nm := nm) ho he e;obtain ⟨h1, wk2, kp2, ho1, e⟩ := qGZ (nm := nm) zBE.2.1 zBE.1 e
 have zA6 : jN P (sh.v.map (·.1)) env h q9L h1 := ⟨qK kp2 zBE.1, ho1, zBE.2.2.1.trans kp2, zBE.2.2.2.1, zBE.2.2.2.2⟩
 split at e
 case h_2 => cases e
 rename_i a b c os ha hb1 hc1 hos;split at e
 case h_2 => cases e
 rename_i ts hts;split at e
 case h_2 => cases e
 rename_i s0 hs0;obtain ⟨hown, e1⟩ := qE e;rw [zI5, zI5, zI5] at hown;obtain ⟨hown, hsl⟩ := hown;obtain ⟨q, hq, hafter⟩ := qWC e1;have he1 := zA6.1;have zCA := qEX hos;have hl1 : q9L.length = N := zA6.2.2.2.2.trans hl;have zFK : Keep hb h1 := hbh.trans zA6.2.2.1
 let E : GS Γ (TyL ts) -> List PV := fun s => match mkS P w sh ts os q9L h1 (g2 s) with
  | some p => qB (nY sh.v q9L p.2 p.1)
  | none => []
 let Ph : GS Γ (TyL ts) -> PHp := fun s => match mkS P w sh ts os q9L h1 (g2 s) with
  | some p => qD p.2.l
  | none => []
 have hE : ∀ {s e2 h2}, mkS P w sh ts os q9L h1 (g2 s) = some (e2, h2) -> E s = qB (nY sh.v q9L h2 e2) ∧ Ph s = qD h2.l := fun hm => by
  simp only [E, Ph, hm, and_self]
 obtain ⟨y0, hy0⟩ := qQC hq;obtain ⟨e0, hh0, hm0, _⟩ := qBE hy0;obtain ⟨wp0, sp0⟩ := q5S ho1 ho1 he1 ha hb1 hc1 hs0 (by rw [qZU] at hm0; exact hm0) zCA (qKZ hos) hown.1 hown.2 (fun k o _ _ hk => yT hk) (qN7 rfl fun _ _ => rfl);have wp0 := qRZ ho1 (dK ho1 he1 hm0).2.1 sp0 he1 hsl.1 (fun i y k g n o q _ _ hi => ⟨k, g, n, hi⟩) wp0
 have fin : ∀ {s e2 h2}, mkS P w sh ts os q9L h1 s = some (e2, h2) -> slG sh.v q9L h2 = true -> okL h2 (nY sh.v q9L h2 e2) ∧ OkH P h2 ∧ (nY sh.v q9L h2 e2).length = N ∧ jN P w env h (nY sh.v q9L h2 e2) h2 ∧ Keep h1 h2 := fun {s e2 h2} hm hg => by
  obtain ⟨a1, a2, a3, a4, a5, _⟩ := dK ho1 he1 hm;obtain ⟨b1, b2⟩ := qRP a2 a3 hg;refine ⟨b1, a2, (b2.trans a4).trans hl1, ⟨b1, a2, zA6.2.2.1.trans a1, fun i hi => ?_, (b2.trans a4).trans zA6.2.2.2.2⟩, a1⟩;have hi2 : i ∉ lpW wb sh := by rw [<- hwb]; exact hi
  unfold lpW at hi2;simp only [zKI, not_or] at hi2;rw [zD, qH9 hi2.1, <- zD, a5 i hi hi2.2.2.1 hi2.2.2.2, zA6.2.2.2.1 i hi2.1]
 refine qO.post (qO.pre' (wk1.trans wk2) ?_);refine qO.loop E Ph g1 hq (by rw [(hE hm0).1]; exact wp0) (by rw [(hE hm0).2]; exact sp0) q0M.symm ?_;intro s yy hstep;obtain ⟨e2, hh, hm, hb2⟩ := qBE hstep
 rcases run_ite hb2 with ⟨hgd, hb2⟩ | ⟨_, hb2⟩
 rotate_left 1
 ·cases hb2
 obtain ⟨f1, f2, f3, f4, f5⟩ := fin hm hgd;rw [(hE hm).1, (hE hm).2];refine (hbody f2 f1 f3 (zFK.trans f5) hb2).mono ?_;rintro ex g' pe ph ⟨env', h', rfl, rfl, k1, k2, k3, k0, k4, k5⟩;obtain ⟨_, _, _, m4, m5, m6⟩ := dK ho1 he1 hm
 have back : ∀ {s'}, ex ≠ .ret -> q0E sh.v env' h' = true -> bk sh os ts (mkS P w sh ts os q9L h1) h1 hh env' h' = some s' -> ∃ e3 h3, mkS P w sh ts os q9L h1 s' = some (e3, h3) ∧ WkP (qB env') (qB (nY sh.v q9L h3 e3)) ∧ nX (qD h3.l) (qD h'.l) := by
  intro s' hne zCB hbk;unfold bk at hbk;split at hbk
  case h_2 => cases hbk
  rename_i a' b' c' ha' hb' hc';split at hbk
  case h_2 => cases hbk
  rename_i s2 hs2
  cases hc : (qZN os h' && (qL3 sh.s env' h' && (qE1 (sh.b.map (·.1)) sh.b h1 h' && (eZ (sh.o ++ sh.b.map (·.1)) hh h' && (mkS P w sh ts os q9L h1 s2).isSome)))) with
  | false => rw [hc] at hbk; cases hbk
  | true =>
    rw [hc] at hbk;cases hbk;simp only [zI5] at hc;obtain ⟨⟨e3, h3⟩, hm3⟩ := zJ3.1 hc.2.2.2.2;have zCZ := k4 hne
    have hboth : WkP (qB env') (qB e3) ∧ nX (qD h3.l) (qD h'.l) := by
     refine q5S k2 ho1 k1 ha' hb' hc' hs2 hm3 zCA hc.1 hc.2.1 hc.2.2.1 (fun k o hk hkb hk2 => tO f2 zCZ.2.2.1 hc.2.2.2.1 (by rw [zKI, not_or]; exact ⟨hk, hkb⟩) ?_) (qN7 ?_ ?_)
     ·rw [m6 k (by rw [zCA]; exact hk) hkb]; exact hk2
     ·rw [k3, hl1]
     ·intro i hi;have hi2 : i ∉ lpW wb sh := by rw [<- hwb]; exact hi
      unfold lpW at hi2;simp only [zKI, not_or] at hi2;rw [zCZ.2.2.2.1 i hi2.2.1, zD, qH9 hi2.1, <- zD, m5 i hi hi2.2.2.1 hi2.2.2.2]
    refine ⟨e3, h3, hm3, qRZ k2 (dK ho1 he1 hm3).2.1 hboth.2 k1 zCB (fun i y k g n o q hmem hb hi => ?_) hboth.1, hboth.2⟩;obtain ⟨g2, n2, o2, q2, hi3⟩ := qS9 zCB hmem hb
    have hlab : ∀ y', (i, y') ∈ sh.v -> Nat.ble mkL y' = true -> lbL y' = lbL y := fun y' hm' hb' => by
     obtain ⟨_, _, _, _, p1⟩ := qS9 hsl.1 hm' hb';obtain ⟨_, _, _, _, p2⟩ := qS9 hsl.1 hmem hb;have p3 := zJ5 (p1.symm.trans p2);simp only [SV.sl.injEq] at p3;exact p3.1
    obtain ⟨g3, n3, h5⟩ := qM3 (h := hh) (e := e2) hi hlab hmem hb hgd (by
     rw [m4];rw [qF] at hi
     exact (zJA.1 hi).1)
    have hnb : i ∉ wb := fun hib => by
     have h6 := hsl.2;unfold slW at h6;have h7 := zI8.1 h6 (i, y) hmem;simp only [hb, cond_true, wG.2 hib] at h7;cases h7
    have h8 := zCZ.2.2.2.1 i hnb;rw [zD, zD, hi3, h5] at h8;simp only [zJJ, SV.enc, zJC, PV.own.injEq] at h8;obtain ⟨_, _, e1, e2⟩ := h8;exact ⟨_, _, _, by rw [hi3, e1, e2]⟩
 have out : ∀ {x s' e3 h3}, mkS P w sh ts os q9L h1 s' = some (e3, h3) -> WkP (qB env') (qB (nY sh.v q9L h3 e3)) -> nX (qD h3.l) (qD h'.l) -> (q9D.ite (slG sh.v q9L h3) (K x g' (nY sh.v q9L h3 e3) h3) .fail).run = some r -> ∃ pe' ph', Wk P nm (qB env') (qD h'.l) pe' ph' ∧ EQ P N w env h K r x g' pe' ph' := fun {x s' e3 h3} hm3 w1 w2 hk => by
  rcases run_ite hk with ⟨zG2, hk⟩ | ⟨_, hk⟩
  rotate_left 1
  ·cases hk
  obtain ⟨g1, g2, g3, g4, g5⟩ := fin hm3 zG2;exact ⟨_, _, Wk.drop w1 w2, nY sh.v q9L h3 e3, h3, rfl, rfl, g1, g2, g3, g4.2.2.1, fun _ => g4, hk⟩
 cases ex with
 | normal =>
   simp only [qUJ] at k5;obtain ⟨zCB, k5⟩ := qE k5;split at k5
   case h_2 => cases k5
   rename_i s' hs';cases k5;obtain ⟨e3, h3, hm3, w1, w2⟩ := back (fun h => by cases h) zCB hs';have hm3 : mkS P w sh ts os q9L h1 (g2 (gj g' s')) = some (e3, h3) := by rw [qZU]; exact hm3
   show zAD.normal = .normal ∧ WkP (qB env') (E (gj g' s')) ∧ nX (Ph (gj g' s')) (qD h'.l) ∧ g' = g1 (gj g' s');rw [(hE hm3).1, (hE hm3).2, q0M];exact ⟨rfl, w1, w2, rfl⟩
 | exit j =>
   simp only [qUJ] at k5;obtain ⟨zCB, k5⟩ := qE k5;split at k5
   case h_2 => cases k5
   rename_i s' hs';obtain ⟨e3, h3, hm3, w1, w2⟩ := back (fun h => by cases h) zCB hs';cases k5;intro hqe;refine ⟨fun h => by (cases h), ?_⟩
   cases hj : Nat.beq j id with
   | true =>
     rw [hj] at hqe;subst hqe;have hjj : j = id := zI6 hj;subst hjj;have hafter : (goS (mkS P w sh ts os q9L h1 (g2 (gj g' s'))) fun e hh => q9D.ite (slG sh.v q9L hh) (K .normal (g1 (gj g' s')) (nY sh.v q9L hh e) hh) .fail).run = some r := hafter;obtain ⟨e4, h4, hm4, hk⟩ := qBE hafter;rw [qZU, hm3] at hm4;cases hm4;rw [q0M] at hk;exact BQY.on (out hm3 w1 w2 hk)
   | false =>
     rw [hj] at hqe;subst hqe;have hjj : j ≠ id := fun h => by rw [h, pU] at hj; cases hj
     obtain ⟨e4, h4, hm4, hk⟩ := qBE (qON hafter);rw [qZU, hm3] at hm4;cases hm4;rw [q0M, qZU] at hk;exact BQY.ex hjj (out hm3 w1 w2 hk)
 | ret =>
   simp only [qUJ] at k5;split at k5
   case h_2 => cases k5
   rename_i v hv;cases k5;intro hqe;subst hqe;have hbr : Keep hb h' := (zFK.trans f5).trans k0;have hkp := hrd.kept _ _ _ k2 k1 hbr hv
   have hkh : ∀ k o, slk k hb.l = some o -> slk k h.l = some o := fun k o hk => by
    have h2 := hkp k o hk;have hw : o.w < h.next := zJB (hrd.ob.ver k o hk) hbh.next;have zDO : Keep h h' := (zA6.2.2.1.trans f5).trans k0;exact zDO.same k o h2 hw
   have hkeep : Keep h ⟨h.next, hb.l⟩ := ⟨zI7 _, fun k ob hk _ => hkh k ob hk, fun k el gr g w t xs hk _ => ⟨w, xs, hkh k _ hk, rfl⟩⟩
   have hafter : (K .ret (g1 (gj g' v)) (en (g2 (gj g' v))) ⟨h.next, hb.l⟩).run = some r := hafter;rw [q0M, qZU] at hafter;refine ⟨fun h => by (cases h), BQY.rt ⟨_, _, hrd.wk _ _ _ k2 k1 k3 hbr hv, en v, ⟨h.next, hb.l⟩, rfl, rfl, hrd.ok v _, q4Y hrd.ob hbh.next, hrd.len v, hkeep, fun h => absurd rfl h, hafter⟩⟩
 | goto l => simp only [qUJ] at k5; cases k5
end
end Go.Sv
namespace Go.Sv
open Go.Idl
noncomputable section
variable [Gc]
variable [Yl]
variable {P : Program} {Γ : Option Type} {R : Type} {r : R} {nm : Nm} {G : Nat -> Bool} {rd : Bool} {N : Nat} {rs : List Ty} {tab : uF} {nat : yV} {good : FuncId -> Bool} {wd : Wld (GV Γ)}
omit [Yl] in
theorem tT : ∀ {ts : List Ty} {x : TyL ts} {y : PV}, y ∈ pvL ts x -> ∃ (t : Ty) (z : t.sem), y = t.pv z
 | [], _, _, h => by cases h
 | [t], x, y, h => ⟨t, x, by simpa [pvL] using h⟩
 | t :: u :: ts, x, y, h => by
   have h : y ∈ t.pv x.1 :: pvL (u :: ts) x.2 := h;rcases zJR.1 h with q | q
   ·exact ⟨t, x.1, q⟩
   ·exact tT q
omit [Yl] in
theorem qUA (t : Ty) (x : t.sem) : qIM (t.pv x) = true := by
 unfold Ty.pv
 cases t.one with
 | true => rfl
 | false =>
   show ((t.cells x).map PV.f).all qQP = true;rw [zI8];intro y hy;obtain ⟨c, _, rfl⟩ := zJX.1 hy;rfl
omit [Yl] in
theorem q1E {Z : Nat -> Prop} {H : IH} {M M' : Nat -> Option (Nat × PO)} {ts : List Ty} {x : TyL ts} {vs : List Value} (h : VRL P Z H M (pvL ts x) vs) : VRL P Z H M' (pvL ts x) vs := ⟨h.len, fun i y v a b => by
 obtain ⟨t, z, rfl⟩ := tT (zJ8 a)
 exact bF (h.val i _ v a b) (qUA t z)⟩
omit [Yl] in
theorem qEN : ∀ (ts : List Ty) (x : TyL ts), (svL ts x).length = ts.length
 | [], _ => rfl
 | [_], _ => rfl
 | t :: u :: ts, x => by
   show (t.sv x.1 :: svL (u :: ts) x.2).length = _;simp only [zJN, qEN (u :: ts)]
def qXJ (t : Ty) (x : t.sem) : PV := .lp (t.cells x) 0
def q09 : (ts : List Ty) -> TyL ts -> List PV
 | [], _ => []
 | [t], x => [qXJ t x]
 | t :: u :: ts, x => qXJ t x.1 :: q09 (u :: ts) x.2
def qLE : (ts : List Ty) -> TyL ts -> List SV
 | [], _ => []
 | [t], x => [.lp t [x] 0 0]
 | t :: u :: ts, x => .lp t [x.1] 0 0 :: qLE (u :: ts) x.2
theorem qFB : ∀ (ts : List Ty) (x : TyL ts), qB (qLE ts x) = q09 ts x
 | [], _ => by simp [qLE, q09, qB]
 | [t], x => by simp [qLE, q09, qB, SV.enc, qXJ]
 | t :: u :: ts, x => by
   show qB (.lp t [x.1] 0 0 :: qLE (u :: ts) x.2) = qXJ t x.1 :: q09 (u :: ts) x.2;simp only [qB, qFB (u :: ts)];simp [SV.enc, qXJ]
omit [Yl] in
theorem qSB {h : SH} : ∀ (ts : List Ty) (x : TyL ts), okL h (qLE ts x)
 | [], _ => by simp [qLE, okL]
 | [t], x => by simp [qLE, okL, SV.ok]
 | t :: u :: ts, x => by
   show okL h (.lp t [x.1] 0 0 :: qLE (u :: ts) x.2);simp only [okL, SV.ok, true_and];exact qSB (u :: ts) x.2
omit [Yl] in
theorem qFZ : ∀ (ts : List Ty) (x : TyL ts), (qLE ts x).length = ts.length
 | [], _ => rfl
 | [_], _ => rfl
 | t :: u :: ts, x => by
   show (SV.lp t [x.1] 0 0 :: qLE (u :: ts) x.2).length = _;simp only [zJN, qFZ (u :: ts)]
def qBS (P : Program) (t : Ty) (v : SV) (h : SH) : Option (t.sem × SH) := match v with
 | .ref k off w => (match slk k h.l with
   | some (.cells el _ l) => cond (!spec P el && (Nat.beq off 0 && Nat.beq w l.length)) (match t.zB8 P (vC P 8 el) l (h.del k) with
     | some (x, _, [], h') => some (x, h')
     | _ => none) none
   | _ => none)
 | _ => none
def fI (P : Program) : (ts : List Ty) -> List SV -> SH -> Option (TyL ts × SH)
 | [], [], h => some ((), h)
 | [t], [v], h => qBS P t v h
 | t :: u :: ts, v :: vs, h => match qBS P t v h with
   | some (x, h1) => (match fI P (u :: ts) vs h1 with
     | some (y, h2) => some ((x, y), h2)
     | none => none)
   | none => none
 | _, _, _ => none
theorem tF {t : Ty} {v : SV} {h : SH} {x : t.sem} {h' : SH} (ho : OkH P h) (e : qBS P t v h = some (x, h')) :
 Keep h h' ∧ OkH P h' ∧ ∀ (Z : Nat -> Prop) (H : IH) (m : Nat -> Nat) (u : Value), Hp P Z H (own m (qD h.l)) -> VR P Z H (own m (qD h.l)) v.enc u -> ∃ Z', Fz P Z H m (qD h.l) Z' (qD h'.l) ∧ VR P Z' H (fun _ => none) (qXJ t x) u := by
 unfold qBS at e;split at e
 case h_2 => cases e
 rename_i k off w;split at e
 case h_2 => cases e
 rename_i el w0 l hk
 cases hc : (!spec P el && (Nat.beq off 0 && Nat.beq w l.length)) with
 | false => rw [hc] at e; cases e
 | true =>
   rw [hc] at e;simp only [cond_true] at e;rw [zI5, zKA] at hc;obtain ⟨hsp, hc⟩ := hc;rw [zI5] at hc;have h1 : off = 0 := zI6 hc.1;have h2 : w = l.length := zI6 hc.2;subst h1 h2;split at e
   case h_2 => cases e
   rename_i y q9U h2 hd;cases e;have hd0 := dR (k := k) ho;obtain ⟨a1, a2, a3, ys, a4, a5⟩ := qA0 hd0.2 (qK hd0.1 (ho.cells _ _ _ _ hk)) hd;refine ⟨hd0.1.trans a2, a3, fun Z H m u hp hv => ?_⟩;have hkp := yT hk;have zAF : real (SO.cells el w0 l).enc := fun q => by cases q.1
   obtain ⟨w1, w2, w3, vs, q1, q2, q3⟩ := hp.real hkp zAF hsp;have hcut := Fz.del hp hkp zAF;have hfz := a4 [] (qD h'.l) (by simp [qB, qDM]);rw [zKR] at hfz;rw [show qD (h.del k).l = rP k (qD h.l) from mY k _] at hfz;obtain ⟨Z2, c2, r2⟩ := qFP (fun a b c => qM2 4 a b c) hcut.hp (hcut.vrl q2) hfz;refine ⟨Z2, hcut.trans c2, ?_⟩;simp only [SV.enc] at hv
   cases hv with
   | ref g1 g2 =>
     obtain ⟨_, g3⟩ := g2 _ _ (qM hkp);obtain ⟨rfl, _⟩ := g3 (by simp [SO.enc, qV]);have hrt := qDG (P := P) (M := fun _ => none) (f := rtC P) (ts := vC P 8 el) (fun t x v h => qZ5 h) (r2.map (P := P) (M := fun _ => none));have h5 := (a5 []).1;rw [zKR] at h5;rw [h5] at hrt
     have hrt : VRL P Z2 H (fun _ => none) ((t.cells x).map .f) vs := by
      cases q9U <;> simpa [rtL] using hrt
     have hlen : (t.cells x).length = vs.length := by have := hrt.len; simpa using this
     refine .lp (o := 0) (vs := vs) (c2.zle _ (.inr rfl)) w1 ?_ ?_
     ·rw [hlen];exact kR q1 (by omega) (by simp)
     ·intro i y v hy hvv;have := hrt.val i (.f y) v (by rw [zJK, hy]; rfl) hvv
      cases this with
      | f h => exact h
theorem qCM : ∀ {ts : List Ty} {vs : List SV} {h : SH} {x : TyL ts} {h' : SH}, OkH P h -> fI P ts vs h = some (x, h') ->
 Keep h h' ∧ OkH P h' ∧ ∀ (Z : Nat -> Prop) (H : IH) (m : Nat -> Nat) (us : List Value), Hp P Z H (own m (qD h.l)) -> VRL P Z H (own m (qD h.l)) (qB vs) us -> ∃ Z', Fz P Z H m (qD h.l) Z' (qD h'.l) ∧ VRL P Z' H (fun _ => none) (q09 ts x) us
 | [], [], h, x, h', ho, e => by
   unfold fI at e;cases e;refine ⟨.refl _, ho, fun Z H m us hp hv => ⟨Z, .refl hp, ?_⟩⟩;simp only [qB] at hv;rw [hv.q9J];exact .nil
 | [t], [v], h, x, h', ho, e => by
   unfold fI at e;obtain ⟨a1, a2, a3⟩ := tF ho e;refine ⟨a1, a2, fun Z H m us hp hv => ?_⟩;simp only [qB] at hv;obtain ⟨u, us', rfl, b1, b2⟩ := hv.q9G;obtain ⟨Z', c1, c2⟩ := a3 Z H m u hp b1;rw [b2.q9J];exact ⟨Z', c1, .cons c2 .nil⟩
 | t :: u :: ts, v :: vs, h, x, h', ho, e => by
   unfold fI at e;split at e
   case h_2 => cases e
   rename_i x1 h1 hd;split at e
   case h_2 => cases e
   rename_i y h2 hd2;cases e;obtain ⟨a1, a2, a3⟩ := tF ho hd;obtain ⟨b1, b2, b3⟩ := qCM a2 hd2;refine ⟨a1.trans b1, b2, fun Z H m us hp hv => ?_⟩;simp only [qB] at hv;obtain ⟨w, us', rfl, d1, d2⟩ := hv.q9G;obtain ⟨Z1, c1, c2⟩ := a3 Z H m w hp d1;obtain ⟨Z2, f1, f2⟩ := b3 Z1 H m us' c1.hp (c1.vrl d2);exact ⟨Z2, c1.trans f1, .cons (c2.mono (p := fun _ => false) f1.zle (zI7 _) (fun _ _ _ => rfl) (.refl _ _) fun j hj => by cases hj) f2⟩
 | [], _ :: _, _, _, _, _, e => by cases e
 | t :: ts, [], _, _, _, _, e => by cases ts <;> (unfold fI at e; cases e)
 | [_], _ :: _ :: _, _, _, _, _, e => by unfold fI at e; cases e
def qZW (P : Program) (G : Nat -> Bool) (f : FuncId) (ent : q91) : Prop := entered P f = true ∧ ∀ (x : TyL ent.as) (γ : Type) (stp : γ -> TyL ent.ys -> Option (γ × Bool)) (g0 g1 : γ), ent.F x γ stp g0 = some g1 -> ∀ (w : Wld γ) (l : Nat),
 (∀ g y g' b, stp g y = some (g', b) -> qHI P G w l g (pvL ent.ys y) g' b) -> ∀ (Z : Nat -> Prop) (H : IH) (D : Nat -> Prop) (us : List Value), (∀ b, Z b -> b < H.size) -> H.base <= H.size -> qZM Z H -> w.W g0 Z H D -> VRL P Z H (fun _ => none) (q09 ent.as x) us ->
 uT P G f (.func (.yield l) #[] #[] :: us) H fun r => ∃ Z' D', (∀ b, Z' b -> b < r.2.size) ∧ w.W g1 Z' r.2 D' ∧ StW Z H D Z' r.2 D'
def q15 (P : Program) (G : Nat -> Bool) (IT : List (FuncId × q91)) : Prop := ∀ f ent, slI f IT = some ent -> qZW P G f ent
def qB3 : List Nat -> List SV -> List SV -> List SV
 | i :: is, v :: vs, env => qB3 is vs (yY env i v)
 | _, _, env => env
def noSh (sh : Sh) : Bool := sh.d.isEmpty && (sh.s.isEmpty && sh.v.isEmpty)
def qV3 (sh : Sh) (os : List (Nat × Bool)) (ts : List Ty) (mk : TyL ts -> Option (List SV × SH)) (h1 hh : SH) : uE Γ (GS Γ (TyL ts) × Bool) := fun e g env h => match e with
 | .normal => (match bk sh os ts mk h1 hh env h with
   | some s => .ret (gj g s, true)
   | none => .fail)
 | _ => .fail
def q75 {R : Type} (k : GV Γ -> List SV -> SH -> q9D R) : uE Γ R := fun e g env h => match e with
 | .normal => k g env h
 | _ => .fail
def rgN (nm : Nm) (l : List Nat) : Nm := ⟨nm.b, fun k => nm.p k && !qC4 k l⟩
def qY8 (P : Program) (G : Nat -> Bool) (IT : List (FuncId × q91)) (nm : Nm) (sh : Sh) (v : Operand) (ps : Array Tmp) (bx bY : Code) (x y : ∀ {R' : Type}, Nm -> GV Γ -> List SV -> SH -> uE Γ R' -> q9D R') (g : GV Γ) (env : List SV) (h : SH) (K : uE Γ R) : q9D R :=
 qTS P nm (sh.b.map (·.1)) sh.bv env h fun env h1 => match xH env v with
  | .fn f [] caps => (match slI f IT with
    | some ent => (match fI P ent.as caps h1 with
      | some (z, h2) => (match qVU sh.o h2, qZA sh.b h2, q1A sh.o h2 with
        | some b, some c, some os => (match q74 (b ++ c) with
          | some ts => (match qCE ts (b ++ c) with
            | some s0 => cond (noSh sh && (qE1 (sh.b.map (·.1)) sh.b h2 h2 && (Nat.beq ps.size ent.ys.length && (kZ G v && (codeOk G true bx && codeOk G true bY)))))
               (goS (mkS P [] sh ts os env h2 s0) fun _ _ => .bind (ent.F z (GS Γ (TyL ts)) (fun s w => (goS (mkS P [] sh ts os env h2 (g2 s)) fun e hh => x (rgN nm (h2.l.map (·.1) ++ (os.map (·.1) ++ sh.b.map (·.1)))) (g1 s) (qB3 ps.toList (svL ent.ys w) e) hh
                 (q75 fun g3 e3 h3 => y (rgN nm (h2.l.map (·.1) ++ (os.map (·.1) ++ sh.b.map (·.1)))) g3 e3 h3 (qV3 sh os ts (mkS P [] sh ts os env h2) h2 hh))).run) (gj g s0))
                 fun q => goS (mkS P [] sh ts os env h2 (g2 q)) fun e hh => K .normal (g1 q) e hh) .fail
            | none => .fail)
          | none => .fail)
        | _, _, _ => .fail)
      | none => .fail)
    | none => .fail)
  | _ => .fail
omit [Yl] in
theorem qIU : ∀ (i : Nat) (l : List SV), blank [] i l = l
 | _, [] => rfl
 | i, x :: l => by simp [blank, qC4, qIU (i + 1) l]
omit [Yl] in
theorem qFY {sh : Sh} {ts : List Ty} {os : List (Nat × Bool)} {env e2 : List SV} {h1 h2 : SH} {s : TyL ts} (hn : noSh sh = true) (hm : mkS P [] sh ts os env h1 s = some (e2, h2)) : e2 = env := by
 unfold noSh at hn;simp only [zI5, List.isEmpty_iff] at hn;unfold mkS at hm;rw [hn.1, hn.2.1] at hm;split at hm
 ·split at hm
  ·split at hm
   ·rename_i e3 hss;cases hm;have : some (blank [] 0 env) = some e2 := hss;rw [qIU] at this;exact (zJ5 this).symm
   ·cases hm
  ·cases hm
 ·cases hm
omit [Yl] in
theorem qHT : ∀ (ps : List Nat) (vs env : List SV), (qB3 ps vs env).length = env.length
 | [], vs, env => rfl
 | i :: is, [], env => rfl
 | i :: is, v :: vs, env => by
   show (qB3 is vs (yY env i v)).length = _;rw [qHT is, kY]
omit [Yl] in
theorem qMJ {h : SH} : ∀ {ps : List Nat} {vs env : List SV}, okL h vs -> okL h env -> okL h (qB3 ps vs env)
 | [], vs, env, _, he => he
 | i :: is, [], env, _, he => he
 | i :: is, v :: vs, env, hv, he => by
   simp only [okL] at hv;exact qMJ (ps := is) hv.2 (xP he hv.1)
theorem qI4 {Z : Nat -> Prop} {H : IH} {M : Nat -> Option (Nat × PO)} : ∀ {ps : List Nat} {vs env : List SV} {ws q9E : List Value}, VRL P Z H M (qB vs) ws -> VRL P Z H M (qB env) q9E -> VRL P Z H M (qB (qB3 ps vs env)) ((ps.zip ws).foldl (fun e p => yY e p.1 p.2) q9E)
 | [], vs, env, ws, q9E, _, he => he
 | i :: is, [], env, ws, q9E, hv, he => by
   simp only [qB] at hv;rw [hv.q9J];exact he
 | i :: is, v :: vs, env, ws, q9E, hv, he => by
   simp only [qB] at hv;obtain ⟨w, ws', rfl, a1, a2⟩ := hv.q9G;show VRL P Z H M (qB (qB3 is vs (yY env i v))) ((is.zip ws').foldl (fun e p => yY e p.1 p.2) (yY q9E i w));refine qI4 a2 ?_;rw [xS, qY, qY];exact he.set a1 i
def rgW (P : Program) (wd : Wld (GV Γ)) (env : List SV) (h0 : SH) (q9E : Env) (H0 : IH) (m0 : Nat -> Nat) (D0 : Nat -> Prop) (lp : Loop) {S : Type} (mk : S -> Option (List SV × SH)) : Wld (GS Γ S) where
 W q Z H D := ∃ e hh m Dg, mk (g2 q) = some (e, hh) ∧ St P wd (g1 q) (qB env) (qD hh.l) Z H m q9E Dg ∧ H.get H0.size = some (.loop lp) ∧ H0.size < H.size ∧ ¬ aU (own m (qD hh.l)) H0.size ∧ ¬ Dg H0.size ∧ ¬ Z H0.size ∧
  (∀ b, D b ↔ aU (own m (qD hh.l)) b ∨ Dg b ∨ b = H0.size) ∧ KR (fun _ => false) (own m0 (qD h0.l)) (own m (qD hh.l)) ∧ (∀ b, aU (own m (qD hh.l)) b -> b < H0.size -> aU (own m0 (qD h0.l)) b) ∧ (∀ b, Dg b -> b < H0.size -> D0 b) ∧ H.base = H0.base
 lt := by
  rintro g Z H D ⟨e, hh, m, Dg, a1, a2, a3, a4, a5, a6, a7, a8, _⟩ b hb;rcases (a8 b).1 hb with q | q | q
  ·exact (fJ a2.hp q).1
  ·exact wd.lt a2.wd b q
  ·rw [q]; exact a4
 nz := by
  rintro g Z H D ⟨e, hh, m, Dg, a1, a2, a3, a4, a5, a6, a7, a8, _⟩ b hb;rcases (a8 b).1 hb with q | q | q
  ·exact (fJ a2.hp q).2
  ·exact wd.nz a2.wd b q
  ·rw [q]; exact a7
 keep := by
  rintro g Z H D Z' H' ⟨e, hh, m, Dg, a1, a2, a3, a4, a5, a6, a7, a8, a9, a10, a11, a12⟩ hz hl hs hb hg hn;refine ⟨e, hh, m, Dg, a1, a2.other hz hl hs hb (fun b h1 h2 => hg b h1 ?_) (fun b h => hn b ((a8 b).2 ?_)), ?_, zJB a4 hs, a5, a6, hn _ ((a8 _).2 (.inr (.inr rfl))), a8, a9, a10, a11, hb.trans a12⟩
  ·rcases h2 with q | q | q
   ·exact .inl ((a8 b).2 (.inl q))
   ·exact .inl ((a8 b).2 (.inr (.inl q)))
   ·exact .inr q
  ·rcases h with q | q
   ·exact .inl q
   ·exact .inr (.inl q)
  ·rw [hg _ a4 (.inl ((a8 _).2 (.inr (.inr rfl))))]; exact a3
omit [Yl] in
theorem q2J {R : Type} {k : GV Γ -> List SV -> SH -> q9D R} {e : zAD} {g : GV Γ} {env : List SV} {h : SH} {r : R} (q : (q75 k e g env h).run = some r) : e = .normal ∧ (k g env h).run = some r := by
 cases e with
 | normal => exact ⟨rfl, q⟩
 | _ => cases q
omit [Yl] in
theorem qWY {sh : Sh} {os : List (Nat × Bool)} {ts : List Ty} {mk : TyL ts -> Option (List SV × SH)} {h1 hh : SH} {e : zAD} {g : GV Γ} {env : List SV} {h : SH} {r : GS Γ (TyL ts) × Bool} (q : (qV3 sh os ts mk h1 hh e g env h).run = some r) :
 e = .normal ∧ ∃ s, bk sh os ts mk h1 hh env h = some s ∧ r = (gj g s, true) := by
 cases e with
 | normal =>
   simp only [qV3] at q;split at q
   ·rename_i s hs;cases q;exact ⟨rfl, s, hs, rfl⟩
   ·cases q
 | _ => cases q
theorem qWV {sh : Sh} {ts : List Ty} {os : List (Nat × Bool)} {env : List SV} {h2 : SH} {q9E : Env} {H0 : IH} {m0 : Nat -> Nat} {D0 : Nat -> Prop} {lp : Loop} {bx bY : Code} {x y : ∀ {R' : Type}, Nm -> GV Γ -> List SV -> SH -> uE Γ R' -> q9D R'} {wx wy : List Nat} {ent : q91} {ks : List Nat} {hb : SH}
 (hx : ∀ {R' : Type} {nm : Nm} {g : GV Γ} {env : List SV} {h : SH} {K : uE Γ R'} {r : R'}, OkH P h -> okL h env -> env.length = N -> Keep hb h -> (x nm g env h K).run = some r -> qO P G true nm wd bx g (qB env) (qD h.l) (EQ P N wx env h K r))
 (hy : ∀ {R' : Type} {nm : Nm} {g : GV Γ} {env : List SV} {h : SH} {K : uE Γ R'} {r : R'}, OkH P h -> okL h env -> env.length = N -> Keep hb h -> (y nm g env h K).run = some r -> qO P G true nm wd bY g (qB env) (qD h.l) (EQ P N wy env h K r))
 (ho2 : OkH P h2) (he2 : okL h2 env) (hbh : Keep hb h2) (hl : env.length = N) (hn : noSh sh = true) (hos : os.map (·.1) = sh.o) (hks : ∀ k, k ∉ ks -> k ∉ os.map (·.1) ∧ k ∉ sh.b.map (·.1) ∧ slk k h2.l = none)
 (hr1 : lp.state = .ready) (hr2 : lp.pending = none) (hr3 : lp.tmps.toList = q9E) (hr5 : lp.assign = bx) (hr6 : lp.body = bY) (hps : lp.params.size = ent.ys.length)
 {q q' : GS Γ (TyL ts)} {w : TyL ent.ys} {b : Bool} (e : (goS (mkS P [] sh ts os env h2 (g2 q)) fun e hh => x (rgN nm ks) (g1 q) (qB3 lp.params.toList (svL ent.ys w) e) hh (q75 fun g3 e3 h3 => y (rgN nm ks) g3 e3 h3 (qV3 sh os ts (mkS P [] sh ts os env h2) h2 hh))).run = some (q', b)) :
 qHI P G (rgW P wd env h2 q9E H0 m0 D0 lp (mkS P [] sh ts os env h2)) H0.size q (pvL ent.ys w) q' b := by
 obtain ⟨e2, hh, hm, hb2⟩ := qBE e;have he := qFY hn hm;subst he;intro Z H D ivs hz hbs hW hv;obtain ⟨e', hh', m, Dg, a1, a2, a3, a4, a5, a6, a7, a8, a9, a10, a11, a12⟩ := hW;rw [hm] at a1;cases a1;obtain ⟨m1, m2, m3, m4, m5, m6⟩ := dK ho2 he2 hm;have hlen : ivs.length = lp.params.size := by rw [<- hv.len, <- qBQ, qV, qEN, hps]
 have zG3 : okL hh (qB3 lp.params.toList (svL ent.ys w) e2) := qMJ (qAT _ _) m3;refine qT2 a3 hr1 hlen ?_;rw [hr5, hr3]
 have hs0 : St P wd (g1 q) (qB (qB3 lp.params.toList (svL ent.ys w) e2)) (qD hh.l) Z H m ((lp.params.toList.zip ivs).foldl (fun e p => yY e p.1 p.2) q9E) Dg := by
  refine ⟨a2.hp, qI4 ?_ a2.vrl, a2.wd, a2.dis⟩;rw [qBQ];exact q1E hv
 refine (hx m2 zG3 (by rw [qHT, m4, hl]) (hbh.trans m1) hb2 Z H m _ Dg hs0 hbs).mono ?_;rintro o ⟨Z2, m2', pe3, ph3, g3, D3, st3, sd3, kr3, e3, h3, rfl, rfl, k1, k2, k3, k0, k4, k5⟩;obtain ⟨hoe, k5⟩ := q2J k5;have hl3 : ¬ aU (own m2' (qD h3.l)) H0.size := fun h => a5 (sd3.onew _ h a4)
 have hD3 : ¬ D3 H0.size := fun h => a6 (sd3.zAV _ h a4)
 have hZ3 : ¬ Z2 H0.size := fun h => by
  rcases sd3.zAC _ h a4 with q | q | q
  ·exact a7 q
  ·exact a5 q
  ·exact a6 q
 have hg3 : o.H.get H0.size = some (.loop lp) := (sd3.keep _ a4 a5 a6).trans a3;refine ⟨hoe, lp, hg3, hr1, ?_⟩;subst hr6;have hlt3 : H0.size < o.H.size := zJB a4 sd3.size
 have st4 : St P wd g3 (qB e3) (qD h3.l) Z2 (o.H.put H0.size (.loop { lp with state := .busy })) m2' o.env D3 := by
  refine st3.other (fun _ h => h) st3.hp.zlt (zI7 _) rfl (fun b hb h => xC fun e => ?_) (fun b h => ?_)
  ·subst e;rcases h with h | h | h
   ·exact hl3 h
   ·exact hD3 h
   ·exact hZ3 h
  ·rcases h with h | h
   ·exact (fJ st3.hp h).2
   ·exact wd.nz st3.wd b h
 have hb4 : (o.H.put H0.size (.loop { lp with state := .busy })).base <= (o.H.put H0.size (.loop { lp with state := .busy })).size := by
  show o.H.base <= o.H.size;rw [sd3.base]; exact zJQ hbs sd3.size
 refine (hy k2 k1 k3 ((hbh.trans m1).trans k0) k5 Z2 _ m2' o.env D3 st4 hb4).mono ?_;rintro s ⟨Z5, m5', pe5, ph5, g5, D5, st5, sd5, kr5, e5, h5, rfl, rfl, l1, l2, l3, l0, l4, l5⟩;obtain ⟨hse, s', hbk, hqe⟩ := qWY l5;cases hqe;have zC0 : H0.size < (o.H.put H0.size (.loop { lp with state := .busy })).size := hlt3;have hg5 : s.H.get H0.size = some (.loop { lp with state := .busy }) := (sd5.keep _ zC0 hl3 hD3).trans (bJ);have hl5 : ¬ aU (own m5' (qD h5.l)) H0.size := fun h => hl3 (sd5.onew _ h zC0)
 have hD5 : ¬ D5 H0.size := fun h => hD3 (sd5.zAV _ h zC0)
 have hZ5 : ¬ Z5 H0.size := fun h => by
  rcases sd5.zAC _ h zC0 with q | q | q
  ·exact hZ3 q
  ·exact hl3 q
  ·exact hD3 q
 have zG4 : H0.size < s.H.size := zJB zC0 sd5.size;refine ⟨_, hg5, ?_, ?_⟩
 ·rw [hse]; rfl
 have hlp : ({ ({ lp with state := LoopState.busy } : Loop) with state := if (yJ s.e).isNone then LoopState.ready else LoopState.done, pending := yJ s.e } : Loop) = lp := by
  rw [hse];cases lp;simp only at hr1 hr2;subst hr1 hr2;rfl
 show ∃ Z' D', (∀ b, Z' b -> b < (s.H.put H0.size (.loop { ({ lp with state := LoopState.busy } : Loop) with state := if (yJ s.e).isNone then LoopState.ready else LoopState.done, pending := yJ s.e })).size) ∧ (rgW P wd e2 h2 q9E H0 m0 D0 lp (mkS P [] sh ts os e2 h2)).W (gj g5 s') Z' (s.H.put H0.size (.loop { ({ lp with state := LoopState.busy } : Loop) with state := if (yJ s.e).isNone then LoopState.ready else LoopState.done, pending := yJ s.e })) D' ∧ StW Z H D Z' (s.H.put H0.size (.loop { ({ lp with state := LoopState.busy } : Loop) with state := if (yJ s.e).isNone then LoopState.ready else LoopState.done, pending := yJ s.e })) D';rw [hlp];unfold bk at hbk;split at hbk
 case h_2 => cases hbk
 rename_i a' b' c' ha' hb' hc';split at hbk
 case h_2 => cases hbk
 rename_i s2 hs2
 cases hc : (qZN os h5 && (qL3 sh.s e5 h5 && (qE1 (sh.b.map (·.1)) sh.b h2 h5 && (eZ (sh.o ++ sh.b.map (·.1)) hh h5 && (mkS P [] sh ts os e2 h2 s2).isSome)))) with
 | false => rw [hc] at hbk; cases hbk
 | true =>
   rw [hc] at hbk;cases hbk;simp only [zI5] at hc;obtain ⟨⟨e6, h6⟩, hm6⟩ := zJ3.1 hc.2.2.2.2;have he6 := qFY hn hm6;subst he6
   have hsd : sh.d = [] := by
    unfold noSh at hn;simp only [zI5, List.isEmpty_iff] at hn;exact hn.1
   have hw2 : qB (dZ sh.d (svL ts s') (blank [] 0 e6)).2 = qB (b' ++ c') := by
    rw [hsd] at ha' ⊢;cases ha';exact (nE hs2).symm
   obtain ⟨ho6, _, hsub⟩ := qTB l2 ho2 hb' hc' hw2 hm6 hos hc.1 hc.2.2.1 (fun k o hk hkb hk2 => tO m2 (k0.trans l0) hc.2.2.2.1 (by rw [zKI, not_or]; exact ⟨hk, hkb⟩) (by rw [m6 k (by rw [hos]; exact hk) hkb]; exact hk2));obtain ⟨_, _, _, _, _, n6⟩ := dK ho2 he2 hm6;have hfz := Fz.drop st5.hp (qEK hsub)
   have keep : ∀ b, b < H.size -> ¬ aU (own m (qD hh.l)) b -> ¬ Dg b -> b ≠ H0.size -> s.H.get b = H.get b := fun b h1 h2 h3 h4 => by
    have g1 := sd3.keep b h1 h2 h3;have hb3 : b < o.H.size := zJB h1 sd3.size;have g2 : (o.H.put H0.size (.loop { lp with state := .busy })).get b = o.H.get b := xC h4;exact (sd5.keep b hb3 (fun h => h2 (sd3.onew b h h1)) fun h => h3 (sd3.zAV b h h1)).trans (g2.trans g1)
   have hzk : ∀ b, Z b -> b < H.size -> s.H.get b = H.get b := fun b h1 h2 => keep b h2 (fun h => (fJ a2.hp h).2 h1) (fun h => wd.nz a2.wd b h h1) fun e => a7 (e ▸ h1)
   have hz5 : ∀ b, Z b -> Z5 b := fun b h => sd5.zle b (sd3.zle b h)
   have hsz : H.size <= s.H.size := zJQ sd3.size sd5.size;have hbase : s.H.base = H.base := sd5.base.trans sd3.base
   have hkr : KR (fun _ => false) (own m (qD hh.l)) (own m5' (qD h6.l)) := by
    refine KR.none ((kr3.trans kr5).trans (hfz.kr _)) fun k o hk => ?_
    rw [uM] at hk;obtain ⟨o', q1, _⟩ := zJF.1 hk;show (nm.p k && !qC4 k ks) = false
    cases hmm : qC4 k ks with
    | true => simp
    | false =>
      exfalso;obtain ⟨r1, r2, r3⟩ := hks k fun hm => by rw [wG.2 hm] at hmm; cases hmm
      rw [n6 k r1 r2, r3] at q1;cases q1
   have zB2 : ∀ b, aU (own m5' (qD h6.l)) b -> aU (own m5' (qD h5.l)) b := fun b ⟨k, ob, h1, h2⟩ => ⟨k, ob, hfz.zBP h1, h2⟩
   have zC1 : ∀ b, aU (own m5' (qD h6.l)) b -> b < H.size -> aU (own m (qD hh.l)) b := fun b h1 h2 => sd3.onew b (sd5.onew b (zB2 b h1) (zJB h2 sd3.size)) h2
   have zD4 : ∀ b, D5 b -> b < H.size -> Dg b := fun b h1 h2 => sd3.zAV b (sd5.zAV b h1 (zJB h2 sd3.size)) h2
   have st6 : St P wd g5 (qB e6) (qD h6.l) Z5 s.H m5' q9E D5 := ⟨hfz.hp, a2.vrl.mono (p := fun _ => false) hz5 hsz hzk hkr (fun j hj => by cases hj), st5.wd, fun b h1 h2 => st5.dis b h1 (zB2 b h2)⟩
   have st7 : St P wd g5 (qB e6) (qD h6.l) Z5 (s.H.put H0.size (.loop lp)) m5' q9E D5 := by
    refine st6.other (fun _ h => h) st6.hp.zlt (zI7 _) rfl (fun b hb h => xC fun e => ?_) (fun b h => ?_)
    ·subst e;rcases h with h | h | h
     ·exact hl5 (zB2 _ h)
     ·exact hD5 h
     ·exact hZ5 h
    ·rcases h with h | h
     ·exact (fJ st6.hp h).2
     ·exact wd.nz st6.wd b h
   refine ⟨Z5, fun b => aU (own m5' (qD h6.l)) b ∨ D5 b ∨ b = H0.size, st6.hp.zlt, ⟨e6, h6, m5', D5, by rw [qZU]; exact hm6, by rw [q0M]; exact st7, bJ, zG4, fun h => hl5 (zB2 _ h), hD5, hZ5, fun b => Iff.rfl, a9.trans hkr, fun b h1 h2 => a10 b (zC1 b h1 (Nat.lt_trans h2 a4)) h2, fun b h1 h2 => a11 b (zD4 b h1 (Nat.lt_trans h2 a4)) h2, hbase.trans a12⟩, ?_⟩;refine ⟨hsz, hbase, hz5, fun b h1 _ h3 => ?_, fun b h1 h2 => ?_, fun b h1 _ => absurd h1 (qCH b), fun b h1 h2 => ?_⟩
   ·have hb : b ≠ H0.size := fun e => h3 ((a8 b).2 (.inr (.inr e)))
    exact (xC hb).trans (keep b h1 (fun h => h3 ((a8 b).2 (.inl h))) (fun h => h3 ((a8 b).2 (.inr (.inl h)))) hb)
   ·rcases sd5.zAC b h1 (zJB h2 sd3.size) with h | h | h
    ·rcases sd3.zAC b h h2 with h | h | h
     ·exact .inl h
     ·exact .inr (.inr ((a8 b).2 (.inl h)))
     ·exact .inr (.inr ((a8 b).2 (.inr (.inl h))))
    ·exact .inr (.inr ((a8 b).2 (.inl (sd3.onew b h h2))))
    ·exact .inr (.inr ((a8 b).2 (.inr (.inl (sd3.zAV b h h2)))))
   ·rcases h1 with h | h | h
    ·exact (a8 b).2 (.inl (zC1 b h h2))
    ·exact (a8 b).2 (.inr (.inl (zD4 b h h2)))
    ·exact (a8 b).2 (.inr (.inr h))
theorem qSI {IT : List (FuncId × q91)} (s : q97 P good nat G tab) (hit : q15 P G IT) {sh : Sh} {v : Operand} {ps : Array Tmp} {bx bY : Code} {x y : ∀ {R' : Type}, Nm -> GV Γ -> List SV -> SH -> uE Γ R' -> q9D R'} {wx wy : List Nat} {hb : SH}
 (hx : ∀ {R' : Type} {nm : Nm} {g : GV Γ} {env : List SV} {h : SH} {K : uE Γ R'} {r : R'}, OkH P h -> okL h env -> env.length = N -> Keep hb h -> (x nm g env h K).run = some r -> qO P G true nm wd bx g (qB env) (qD h.l) (EQ P N wx env h K r))
 (hy : ∀ {R' : Type} {nm : Nm} {g : GV Γ} {env : List SV} {h : SH} {K : uE Γ R'} {r : R'}, OkH P h -> okL h env -> env.length = N -> Keep hb h -> (y nm g env h K).run = some r -> qO P G true nm wd bY g (qB env) (qD h.l) (EQ P N wy env h K r))
 {g : GV Γ} {env : List SV} {h : SH} {K : uE Γ R} (ho : OkH P h) (he : okL h env) (hl : env.length = N) (hbh : Keep hb h) (e : (qY8 P G IT nm sh v ps bx bY x y g env h K).run = some r) :
 qO P G false nm wd (.rangeFunc v ps bx bY) g (qB env) (qD h.l) (EQ P N [] env h K r) := by
 obtain ⟨h1, wk1, kp1, ho1, e⟩ := qGZ (nm := nm) ho he e;refine qO.pre' wk1 ?_;split at e
 case h_2 => cases e
 rename_i f caps hval;split at e
 case h_2 => cases e
 rename_i ent hent;split at e
 case h_2 => cases e
 rename_i z h2 hdc;split at e
 case h_2 => cases e
 rename_i b c os hbO hcB hos;split at e
 case h_2 => cases e
 rename_i ts hts;split at e
 case h_2 => cases e
 rename_i s0 hs0;obtain ⟨hck, e⟩ := qE e;simp only [zI5] at hck;obtain ⟨hn, hbx, hps, hv, hcx, hcy⟩ := hck;obtain ⟨_, hh0, hm0, e⟩ := qBE e;obtain ⟨q1, hF, e⟩ := run_bind e;obtain ⟨eq, hq, hmq, eK⟩ := qBE e;have he0 := qFY hn hm0;have heq := qFY hn hmq;subst he0;subst heq;obtain ⟨kp2, ho2, hfr⟩ := qCM ho1 hdc;have he2 : okL h2 eq := qK (kp1.trans kp2) he;have zCA := qEX hos;obtain ⟨zFL, hIt⟩ := hit f ent hent;intro Z H m q9E D hs hbs;have hpv := qJ hs.vrl v;rw [qL, hval] at hpv;simp only [SV.enc, qB] at hpv;generalize hiv : q9E.val v = iv at hpv
 cases hpv with
 | fn hf hc hfc hcc =>
 rename_i fs cs
 have hfs : fs = #[] := by
  have : fs.size = 0 := by simpa using hf.symm
  exact zKP this
 subst hfs;obtain ⟨Z1, c1, r1⟩ := hfr Z H m cs.toList hs.hp ⟨by simpa using hc, fun i x v a b => hcc i x v a (by simpa using b)⟩;have hs2 : St P wd g (qB eq) (qD h2.l) Z1 H m q9E D := hs.step c1.hp (c1.vrl hs.vrl) c1.step
 have hw0 : qB (dZ sh.d (svL ts s0) (blank [] 0 eq)).2 = qB (b ++ c) := by
  have hsd : sh.d = [] := by
   unfold noSh at hn;simp only [zI5, List.isEmpty_iff] at hn;exact hn.1
  rw [hsd];exact (nE hs0).symm
 obtain ⟨ho0, _, zFM⟩ := qTB ho2 ho2 hbO hcB hw0 hm0 zCA (qKZ hos) hbx (fun k o _ _ hk => yT hk);have zBW := Fz.drop hs2.hp (qEK zFM);refine s.s.zEG hv hcx hcy hiv zFL fun lp p1 p2 p3 p4 p5 p6 => ?_
 have hHL : ∀ b, b < H.size -> (H.push (.loop lp)).get b = H.get b := fun b hb => kP hb
 have hown0 : ∀ b, aU (own m (qD hh0.l)) b -> aU (own m (qD h2.l)) b := fun b ⟨k, ob, h1, h2⟩ => ⟨k, ob, zBW.zBP h1, h2⟩
 have hlo : ¬ aU (own m (qD hh0.l)) H.size := fun h => zMF _ (fJ zBW.hp h).1
 have hlD : ¬ D H.size := fun h => zMF _ (wd.lt hs2.wd _ h)
 have hlZ : ¬ Z1 H.size := fun h => zMF _ (c1.hp.zlt _ h)
 have st0 : St P wd g (qB eq) (qD hh0.l) Z1 H m q9E D := hs2.step zBW.hp (zBW.vrl hs2.vrl) zBW.step
 have st1 : St P wd g (qB eq) (qD hh0.l) Z1 (H.push (.loop lp)) m q9E D := by
  refine st0.other (fun _ h => h) (fun b h => zKU (c1.hp.zlt b h)) (zMS _) rfl (fun b hb _ => hHL b hb) fun b h => ?_
  rcases h with h | h
  ·exact (fJ zBW.hp h).2
  ·exact wd.nz hs2.wd b h
 have hWi : (rgW P wd eq h2 q9E H m D lp (mkS P [] sh ts os eq h2)).W (gj g s0) Z1 (H.push (.loop lp)) fun b => aU (own m (qD hh0.l)) b ∨ D b ∨ b = H.size :=
  ⟨eq, hh0, m, D, by rw [qZU]; exact hm0, by rw [q0M]; exact st1, gH, zJ1 _, hlo, hlD, hlZ, fun b => Iff.rfl, zBW.kr _, fun b h _ => hown0 b h, fun b h _ => h, rfl⟩
 have hcall := hIt z (GS Γ (TyL ts)) _ _ _ hF (rgW P wd eq h2 q9E H m D lp (mkS P [] sh ts os eq h2)) H.size (fun q w q' bb hstp => by
  refine qWV (Γ := Γ) (ent := ent) hx hy ho2 he2 (hbh.trans (kp1.trans kp2)) hl hn zCA (ks := h2.l.map (·.1) ++ (os.map (·.1) ++ sh.b.map (·.1))) (fun k hk => ?_) p1 p2 p3 p5 p6 ?_ (by rw [p4]; exact hstp)
  ·simp only [zKI, not_or] at hk;refine ⟨hk.2.1, hk.2.2, ?_⟩
   cases hq : slk k h2.l with
   | none => rfl
   | some o => exact absurd (zJX.2 ⟨(k, o), qKM hq, rfl⟩) hk.1
  ·rw [p4]; exact zI6 hps) Z1 (H.push (.loop lp)) _ cs.toList (fun b h => zKU (c1.hp.zlt b h)) (zJQ hbs (zMS _)) (c1.hp.gl.mono c1.hp.zlt (fun _ h => h) fun b _ hb => hHL b hb) hWi (r1.none (fun _ h => h) (zMS _) (fun b hz hb => hHL b hb) fun _ => rfl)
 refine ⟨_, hcall, ?_⟩;rintro ⟨rv, H'⟩ ⟨Z', D', b1, ⟨e5, h5, m5, Dg, a1, a2, a3, a4, a5, a6, a7, a8, a9, a10, a11, a12⟩, sw⟩;rw [hmq] at a1;cases a1;refine qWZ a3 p1 p2 fun lp' => ?_
 obtain ⟨n1, n2, n3, n4, n5, n6⟩ := dK ho2 he2 hmq;have zDO : Keep h hq := (kp1.trans kp2).trans n1
 have stf : St P wd (Go.Sv.g1 q1) (qB eq) (qD hq.l) Z' (H'.put H.size (.loop lp')) m5 q9E Dg := by
  refine a2.other (fun _ h => h) b1 (zI7 _) rfl (fun b hb h => xC fun e => ?_) (fun b h => ?_)
  ·subst e;rcases h with h | h | h
   ·exact a5 h
   ·exact a6 h
   ·exact a7 h
  ·rcases h with h | h
   ·exact (fJ a2.hp h).2
   ·exact wd.nz a2.wd b h
 have hsz : H.size <= H'.size := zJQ (zMS _) sw.size;refine ⟨Z', m5, qB eq, qD hq.l, Go.Sv.g1 q1, Dg, stf, ⟨hsz, a12, fun b h => sw.zle b (c1.zle b h), fun b h1 h2 h3 => ?_, fun b h1 h2 => ?_, fun b h1 h2 => ?_, fun b h1 h2 => a11 b h1 h2⟩, ((c1.kr _).trans a9).up (fun k h => by cases h), eq, hq, rfl, rfl, n3, n2, hl, zDO, fun _ => ⟨n3, n2, zDO, fun _ _ => rfl, rfl⟩, eK⟩
 ·have hb : b ≠ H.size := Nat.ne_of_lt h1;refine (xC hb).trans ((sw.keep b (zKU h1) (qCH b) ?_).trans (hHL b h1));rintro (q | q | q)
  ·obtain ⟨k, ob, w1, w2⟩ := hown0 b q;exact h2 ⟨k, ob, c1.zBP w1, w2⟩
  ·exact h3 q
  ·exact hb q
 ·rcases sw.zAC b h1 (zKU h2) with q | q | q
  ·rcases c1.zAC b q with q | q
   ·exact .inl q
   ·exact .inr (.inl q)
  ·exact absurd q (qCH b)
  ·rcases q with q | q | q
   ·obtain ⟨k, ob, w1, w2⟩ := hown0 b q;exact .inr (.inl ⟨k, ob, c1.zBP w1, w2⟩)
   ·exact .inr (.inr q)
   ·exact absurd q (Nat.ne_of_lt h2)
 ·obtain ⟨k, ob, w1, w2⟩ := a10 b h1 h2;exact ⟨k, ob, c1.zBP w1, w2⟩
end
end Go.Sv
namespace Go.Sv
open Go.Idl
noncomputable section
variable [Gc]
variable [Frs]
variable [Yl]
variable {P : Program} {Γ : Option Type} {R : Type} {r : R} {nm : Nm} {G : Nat -> Bool} {N : Nat} {rs : List Ty} {tab : uF} {nat : yV} {good : FuncId -> Bool} {wd : Wld (GV Γ)}
def q8X (an : An) (id : Nat) : List (Nat × TypeId) := match lkA id an.fz with
 | some l => l
 | none => []
def wr (an : An) : Code -> List Nat
 | .region id ops _ => (q8X an id).map (·.1) ++ ops.toList.filterMap (·.dst)
 | .seq a b => wr an a ++ wr an b
 | .cond _ a b => wr an a ++ wr an b
 | .block id x => match lkA id an.lp with
   | some sh => lpW (wr an x) sh
   | none => wr an x
 | .loop x => wr an x
 | .scope x => wr an x
 | _ => []
def nx2 : List Oper -> Option (Operand × Nat × Nat)
 | [⟨some d1, .next x false, _, _, _, none⟩, ⟨some d2, .extract (.tmp e1) 0, _, _, _, none⟩] => cond (Nat.beq d1 e1) (some (x, d1, d2)) none
 | _ => none
theorem q7W {l : List Oper} {x : Operand} {d1 d2 : Nat} (h : nx2 l = some (x, d1, d2)) : ∃ o1 o2, l = [o1, o2] ∧ o1.op = .next x false ∧ o1.dst = some d1 ∧ o1.guard = none ∧ o2.op = .extract (.tmp d1) 0 ∧ o2.dst = some d2 ∧ o2.guard = none := by
 unfold nx2 at h;split at h
 case h_2 => cases h
 rename_i d1' x' t1 p1 a1 d2' e1 t2 p2 a2
 cases hc : Nat.beq d1' e1 with
 | false => rw [hc] at h; cases h
 | true =>
   rw [hc] at h;cases h;have := zI6 hc;subst this;exact ⟨_, _, rfl, rfl, rfl, rfl, rfl, rfl, rfl⟩
structure MB (Γ : Option Type) where
 ops : Array Oper
 t : Nat
 j : Nat
 body : ∀ (R' : Type), GV Γ -> List SV -> SH -> uE Γ R' -> q9D R'
def q6E (id : Nat) (body : ∀ {R' : Type}, GV Γ -> List SV -> SH -> uE Γ R' -> q9D R') (K : uE Γ R) : Nat -> GV Γ -> List SV -> SH -> q9D R
 | 0, _, _, _ => .fail
 | n + 1, g, env, h => body g env h fun e g env h => match e with
   | .normal => q6E id body K n g env h
   | .exit i => cond (Nat.beq i id) (K .normal g env h) (K (.exit i) g env h)
   | .ret => K .ret g env h
   | .goto _ => .fail
def q9C (y : GV Γ -> List SV -> SH -> uE Γ R -> q9D R) (K : uE Γ R) : uE Γ R := fun e g env h => match e with
 | .normal => y g env h K
 | e => K e g env h
def q81 (K : uE Γ R) : uE Γ R := fun e g env h => match e with
 | .goto _ => .fail
 | e => K e g env h
def q7J : Operand -> Nat
 | .tmp t => t
 | _ => 0
section
variable (P : Program) (G : Nat -> Bool) (T : jE) (IT : List (FuncId × q91)) (CI : CIT) (Y : YI (GV Γ)) (an : An) (rdv : List SV -> SH -> Option (TyL rs)) (en : TyL rs -> List SV) (hb : SH)
def ev : Code -> {R : Type} -> Bool -> Nm -> GV Γ -> List SV -> SH -> uE Γ R -> q9D R
 | .skip, _, _, _, g, env, h, K => K .normal g env h
 | .label _, _, _, _, g, env, h, K => K .normal g env h
 | .ret, _, _, _, g, env, h, K => K .ret g env h
 | .exit id, _, _, _, g, env, h, K => K (.exit id) g env h
 | .seq a b, _, rd, nm, g, env, h, K => ev a rd nm g env h (q9C (ev b rd nm) K)
 | .cond v a b, _, rd, nm, g, env, h, K => cond (kZ G v) (match asB (xH env v) with
   | some t => .ite t (ev a rd nm g env h K) (ev b rd nm g env h K)
   | none => (match xH env v with
     | .bq => .both (ev a rd nm g env h K) (ev b rd nm g env h K)
     | _ => .fail)) .fail
 | .region id ops d, _, rd, nm, g, env, h, K => fzv P nm (q8X an id) env h fun env h => q7D P G T CI Y nm ops d g env h fun g env h => K .normal g env h
 | .block id (.loop y), _, rd, nm, g, env, h, K => (match lkA id an.lp with
   | some sh => (match lkA id an.ab with
     | none => q5Y P nm (wr an y) (lpW (wr an y) sh) rdv en hb sh id (fun {_} => ev y rd nm) g env h K
     | some _ => .fail)
   | none => q6E id (fun {_} => ev y rd nm) K 24 g env h)
 | .block id x, _, rd, nm, g, env, h, K => (match lkA id an.lp with
   | some _ => .fail
   | none => ev x rd nm g env h (q8A id K))
 | .scope x, _, rd, nm, g, env, h, K => ev x rd nm g env h (q81 K)
 | .rangeFunc v ps x y, _, rd, nm, g, env, h, K => (match lkA (q7J v) an.rg with
   | some sh => cond rd .fail (qY8 P G IT nm sh v ps x y (fun {_} => ev x true) (fun {_} => ev y true) g env h K)
   | none => .fail)
 | _, _, _, _, _, _, _, _ => .fail
end
theorem EQ.go {w w2 : List Nat} {env q9L : List SV} {h h1 : SH} {K : uE Γ R} {e : zAD} {g : GV Γ} {pe : List PV} {ph : PHp} (a : jN P w env h q9L h1) (b : EQ P N w2 q9L h1 K r e g pe ph) : EQ P N (w ++ w2) env h K r e g pe ph := by
 obtain ⟨env', h', b1, b2, b3, b4, b5, b0, b6, b7⟩ := b;exact ⟨env', h', b1, b2, b3, b4, b5, a.2.2.1.trans b0, fun hne => a.trans (b6 hne), b7⟩
theorem EQ.up {w w2 : List Nat} {env : List SV} {h : SH} {K : uE Γ R} {e : zAD} {g : GV Γ} {pe : List PV} {ph : PHp} (hw : ∀ i ∈ w, i ∈ w2) (b : EQ P N w env h K r e g pe ph) : EQ P N w2 env h K r e g pe ph := by
 obtain ⟨env', h', b1, b2, b3, b4, b5, b0, b6, b7⟩ := b;exact ⟨env', h', b1, b2, b3, b4, b5, b0, fun hne => (b6 hne).up hw, b7⟩
theorem EQ.now {w : List Nat} {env : List SV} {h : SH} {K : uE Γ R} {e : zAD} {g : GV Γ} (ho : OkH P h) (he : okL h env) (hl : env.length = N) (hk : (K e g env h).run = some r) : EQ P N w env h K r e g (qB env) (qD h.l) :=
 ⟨env, h, rfl, rfl, he, ho, hl, .refl _, fun _ => (jN.refl ho he).up fun i hi => by (cases hi), hk⟩
theorem q7G {id : Nat} {w : List Nat} {env : List SV} {h : SH} {K : uE Γ R} {e : zAD} {g : GV Γ} {pe : List PV} {ph : PHp} (b : EQ P N w env h (q8A id K) r e g pe ph) : BQY id (EQ P N w env h K r) e g pe ph := by
 obtain ⟨env', h', b1, b2, b3, b4, b5, b0, b6, b7⟩ := b
 cases e with
 | normal => exact BQY.go ⟨env', h', b1, b2, b3, b4, b5, b0, b6, b7⟩
 | ret => exact BQY.rt ⟨env', h', b1, b2, b3, b4, b5, b0, b6, b7⟩
 | goto l => exact ⟨env', h', b1, b2, b3, b4, b5, b0, b6, b7⟩
 | exit i =>
   have b8 : (cond (Nat.beq i id) (K .normal g env' h') (K (.exit i) g env' h')).run = some r := b7
   cases hi : Nat.beq i id with
   | true =>
     rw [hi] at b8;have := zI6 hi;subst this;exact BQY.on ⟨env', h', b1, b2, b3, b4, b5, b0, fun _ => b6 fun h => by (cases h), b8⟩
   | false =>
     rw [hi] at b8;exact BQY.ex (fun h => by rw [h, pU] at hi; cases hi) ⟨env', h', b1, b2, b3, b4, b5, b0, b6, b8⟩
omit [Yl] in
theorem qX5 {ops : List Oper} {i : Nat} (h : i ∉ ops.filterMap (·.dst)) : some i ∉ ops.map (·.dst) := fun hm => by
 obtain ⟨o, h1, h2⟩ := zJX.1 hm;exact h (zLA.2 ⟨o, h1, h2⟩)
def q4K (P : Program) (G : Nat -> Bool) (T : jE) (IT : List (FuncId × q91)) (CI : CIT) (Y : YI (GV Γ)) (an : An) (rdv : List SV -> SH -> Option (TyL rs)) (en : TyL rs -> List SV) (hb : SH) (N : Nat) (wd : Wld (GV Γ)) (rd : Bool) (nm : Nm) (c : Code) : Prop :=
 ∀ {R : Type} {g : GV Γ} {env : List SV} {h : SH} {K : uE Γ R} {r : R}, OkH P h -> okL h env -> env.length = N -> Keep hb h -> (ev P G T IT CI Y an rdv en hb c rd nm g env h K).run = some r -> qO P G rd nm wd c g (qB env) (qD h.l) (EQ P N (wr an c) env h K r)
theorem q3U {w : List Nat} {id : Nat} {y : Code} {hb : SH} {body : ∀ {R' : Type}, GV Γ -> List SV -> SH -> uE Γ R' -> q9D R'} {rd : Bool}
 (hbody : ∀ {R' : Type} {g : GV Γ} {env : List SV} {h : SH} {K : uE Γ R'} {r : R'}, OkH P h -> okL h env -> env.length = N -> Keep hb h -> (body g env h K).run = some r -> qO P G rd nm wd y g (qB env) (qD h.l) (EQ P N w env h K r))
 {g : GV Γ} {env : List SV} {h : SH} {K : uE Γ R} {n : Nat} (ho : OkH P h) (he : okL h env) (hl : env.length = N) (hbh : Keep hb h) (e : (q6E id (fun {_} => body) K n g env h).run = some r) :
 qO P G rd nm wd (.block id (.loop y)) g (qB env) (qD h.l) (EQ P N w env h K r) := by
 refine qO.zFD (fun n g1 pe ph => ∃ q9L h1, pe = qB q9L ∧ ph = qD h1.l ∧ okL h1 q9L ∧ OkH P h1 ∧ q9L.length = N ∧ Keep h h1 ∧ jN P w env h q9L h1 ∧ (q6E id (fun {_} => body) K n g1 q9L h1).run = some r) ?_ (n := n) ⟨env, h, rfl, rfl, he, ho, hl, .refl _, (jN.refl ho he).up fun i hi => by (cases hi), e⟩;rintro n1 g1 pe ph ⟨q9L, h1, rfl, rfl, b3, b4, b5, b6, b7, b8⟩
 cases n1 with
 | zero => cases b8
 | succ n1 =>
   unfold q6E at b8;refine (hbody b4 b3 b5 (hbh.trans b6) b8).mono ?_;rintro x g2 pe ph ⟨env', h', rfl, rfl, c3, c4, c5, c0, c6, c7⟩
   have up : x ≠ .ret -> jN P w env h env' h' := fun hne => (b7.trans (c6 hne)).up fun i hi => by
    rcases zKI.1 hi with q | q <;> exact q
   cases x with
   | normal => exact ⟨n1, zJ1 _, env', h', rfl, rfl, c3, c4, c5, b6.trans c0, up fun h => by (cases h), c7⟩
   | ret => exact BQY.rt ⟨env', h', rfl, rfl, c3, c4, c5, b6.trans c0, fun hne => absurd rfl hne, c7⟩
   | goto l => cases c7
   | exit i =>
     have c8 : (cond (Nat.beq i id) (K .normal g2 env' h') (K (.exit i) g2 env' h')).run = some r := c7
     cases hi : Nat.beq i id with
     | true =>
       rw [hi] at c8;have := zI6 hi;subst this;exact BQY.on ⟨env', h', rfl, rfl, c3, c4, c5, b6.trans c0, fun _ => up fun h => by (cases h), c8⟩
     | false =>
       rw [hi] at c8;exact BQY.ex (fun h => by rw [h, pU] at hi; cases hi) ⟨env', h', rfl, rfl, c3, c4, c5, b6.trans c0, fun _ => up fun h => by (cases h), c8⟩
theorem qTU {T : jE} {IT : List (FuncId × q91)} {CI : CIT} {Y : YI (GV Γ)} {an : An} {rdv : List SV -> SH -> Option (TyL rs)} {en : TyL rs -> List SV} {hb : SH} {rd : Bool} {id : Nat} {y : Code} (s : q97 P good nat G tab) (hrd : zB9 P nm N hb rdv en)
 (hY : q4K P G T IT CI Y an rdv en hb N wd rd nm y) (hZ : ∀ rid ops t j z, y = .seq (.region rid ops false) (.seq (.cond (.tmp t) .skip (.exit j)) z) -> q4K P G T IT CI Y an rdv en hb N wd rd nm z)
 {g : GV Γ} {env : List SV} {h : SH} {K : uE Γ R} (ho : OkH P h) (he : okL h env) (hl : env.length = N) (hbh : Keep hb h) (e : (ev P G T IT CI Y an rdv en hb (.block id (.loop y)) rd nm g env h K).run = some r) :
 qO P G rd nm wd (.block id (.loop y)) g (qB env) (qD h.l) (EQ P N (wr an (.block id (.loop y))) env h K r) := by
 have e1 := e;unfold ev at e1;split at e1
 ·rename_i sh hsh;have hw : wr an (.block id (.loop y)) = lpW (wr an y) sh := by simp only [wr, hsh]
  rw [hw];split at e1
  ·exact qVX hrd rfl hY ho he hl hbh e1
  ·cases e1
 ·rename_i hn;have hw : wr an (.block id (.loop y)) = wr an y := by simp only [wr, hn]
  rw [hw];exact q3U hY ho he hl hbh e1
theorem vX [q93 P G] {T : jE} {IT : List (FuncId × q91)} {CI : CIT} {Y : YI (GV Γ)} {an : An} {rdv : List SV -> SH -> Option (TyL rs)} {en : TyL rs -> List SV} {hb : SH} (s : q97 P good nat G tab) (ht : qPV tab T) (hit : q15 P G IT) (hci : qZV P G CI) (hy : YOk P G wd Y) (hrd : ∀ nm, zB9 P nm N hb rdv en) :
 ∀ (c : Code), (∀ rd nm, q4K P G T IT CI Y an rdv en hb N wd rd nm c) ∧ ∀ a b, c = .seq a b -> (∀ rd nm, q4K P G T IT CI Y an rdv en hb N wd rd nm b) ∧ ∀ a' b', b = .seq a' b' -> ∀ rd nm, q4K P G T IT CI Y an rdv en hb N wd rd nm b'
 | .skip => ⟨fun rd nm {_ g env h K r} ho he hl hbh e => .skip (.now ho he hl e), fun a b h => by cases h⟩
 | .label _ => ⟨fun rd nm {_ g env h K r} ho he hl hbh e => .label (.now ho he hl e), fun a b h => by cases h⟩
 | .ret => ⟨fun rd nm {_ g env h K r} ho he hl hbh e => .ret (.now ho he hl e), fun a b h => by cases h⟩
 | .exit id => ⟨fun rd nm {_ g env h K r} ho he hl hbh e => .exit (.now ho he hl e), fun a b h => by cases h⟩
 | .seq a b => by
   refine ⟨fun rd nm {_ g env h K r} ho he hl hbh e => ?_, fun a' b' hh => by
    cases hh
    exact ⟨(vX s ht hit hci hy hrd b).1, fun a2 b2 h2 => ((vX s ht hit hci hy hrd b).2 a2 b2 h2).1⟩⟩
   refine .seq (((vX s ht hit hci hy hrd a).1 _ _ ho he hl hbh e).mono fun x g' pe ph hq => ?_);obtain ⟨env', h', b1, b2, b3, b4, b5, b0, b6, b7⟩ := hq
   cases x with
   | normal =>
     have b7 : (ev P G T IT CI Y an rdv en hb b rd nm g' env' h' K).run = some r := b7;subst b1 b2;show qO P G rd nm wd b g' _ _ _;refine ((vX s ht hit hci hy hrd b).1 _ _ b4 b3 b5 (hbh.trans b0) b7).mono fun x g' pe ph hq => ?_
     exact EQ.go (b6 fun h => by (cases h)) hq
   | exit i => exact ⟨env', h', b1, b2, b3, b4, b5, b0, fun hne => (b6 hne).up fun i hi => zKQ _ hi, b7⟩
   | ret => exact ⟨env', h', b1, b2, b3, b4, b5, b0, fun hne => absurd rfl hne, b7⟩
   | goto l => exact ⟨env', h', b1, b2, b3, b4, b5, b0, fun hne => (b6 hne).up fun i hi => zKQ _ hi, b7⟩
 | .cond v a b => by
   refine ⟨fun rd nm {_ g env h K r} ho he hl hbh e => ?_, fun a b h => by cases h⟩;obtain ⟨c1, e1⟩ := qE e;split at e1
   ·rename_i t hv;have hpv : qI (qB env) v = fvv (.bool t) := by rw [qL]; exact pK hv
    rcases run_ite e1 with ⟨z, e2⟩ | ⟨z, e2⟩
    ·exact .cond c1 hpv (fun _ => ((vX s ht hit hci hy hrd a).1 _ _ ho he hl hbh e2).mono fun x g pe ph hq => hq.up fun i hi => zKQ _ hi) (fun hf => by rw [z] at hf; cases hf)
    ·exact .cond c1 hpv (fun hf => by rw [z] at hf; cases hf) (fun _ => ((vX s ht hit hci hy hrd b).1 _ _ ho he hl hbh e2).mono fun x g pe ph hq => hq.up fun i hi => zK1 _ hi)
   ·split at e1
    case h_2 => cases e1
    rename_i hv;have hpv : qI (qB env) v = .bq := by rw [qL, hv]; simp [SV.enc]
    obtain ⟨e2, e3⟩ := qX4 e1;exact .zFC c1 hpv (((vX s ht hit hci hy hrd a).1 _ _ ho he hl hbh e2).mono fun x g pe ph hq => hq.up fun i hi => zKQ _ hi) (((vX s ht hit hci hy hrd b).1 _ _ ho he hl hbh e3).mono fun x g pe ph hq => hq.up fun i hi => zK1 _ hi)
 | .region id ops d => by
   refine ⟨fun rd nm {_ g env h K r} ho he hl hbh e => ?_, fun a b h => by cases h⟩;obtain ⟨q9L, h1, w1, q1, e1⟩ := qZP (nm := nm) ho he e;refine qO.pre' w1 ((q3Q s ht hci hy q1.2.1 q1.1 e1).mono ?_);rintro x g' pe ph ⟨rfl, env', h', b1, b2, b3, b4⟩;refine EQ.go q1 ⟨env', h', b1, b2, b3.1, b3.2.1, by rw [b3.2.2.2.2, q1.2.2.2.2, hl], b3.2.2.1, fun _ => ⟨b3.1, b3.2.1, b3.2.2.1, fun i hi => b3.2.2.2.1 i (qX5 hi), b3.2.2.2.2⟩, b4⟩
 | .block id x => by
   refine ⟨fun rd nm {_ g env h K r} ho he hl hbh e => ?_, fun a b h => by cases h⟩
   cases x with
   | loop y =>
     exact qTU s (hrd nm) ((vX s ht hit hci hy hrd y).1 _ _) (fun rid ops t j z hz => ((vX s ht hit hci hy hrd y).2 _ _ hz).2 _ _ rfl _ _) ho he hl hbh e
   | _ =>
     all_goals
      have e1 := e;unfold ev at e1;split at e1
      ·cases e1
      ·rename_i hn;simp only [wr, hn];exact .block (((vX s ht hit hci hy hrd _).1 _ _ ho he hl hbh e1).mono fun x g pe ph hq => q7G hq)
 | .loop _ => ⟨fun rd nm {_ _ _ _ _ _} _ _ _ _ e => (by cases e), fun a b h => by cases h⟩
 | .rangeFunc v ps x y => by
   refine ⟨fun rd nm {_ g env h K r} ho he hl hbh e => ?_, fun a b h => by cases h⟩;unfold ev at e;split at e
   ·rename_i sh hsh
    cases rd with
    | true => cases e
    | false => exact qSI s hit (fun ho he hl hbh e => (vX s ht hit hci hy hrd x).1 _ _ ho he hl hbh e) (fun ho he hl hbh e => (vX s ht hit hci hy hrd y).1 _ _ ho he hl hbh e) ho he hl hbh e
   ·cases e
 | .scope x => by
   refine ⟨fun rd nm {_ g env h K r} ho he hl hbh e => ?_, fun a b h => by cases h⟩;refine .scope (((vX s ht hit hci hy hrd x).1 _ _ ho he hl hbh e).mono fun ex g' pe ph hq => ?_);obtain ⟨env', h', b1, b2, b3, b4, b5, b0, b6, b7⟩ := hq
   cases ex with
   | goto l => cases b7
   | normal => exact ⟨fun _ h => by (cases h), env', h', b1, b2, b3, b4, b5, b0, b6, b7⟩
   | ret => exact ⟨fun _ h => by (cases h), env', h', b1, b2, b3, b4, b5, b0, b6, b7⟩
   | exit i => exact ⟨fun _ h => by (cases h), env', h', b1, b2, b3, b4, b5, b0, b6, b7⟩
 | .goto _ => ⟨fun rd nm {_ _ _ _ _ _} _ _ _ _ e => (by cases e), fun a b h => by cases h⟩
 | .refuse _ => ⟨fun rd nm {_ _ _ _ _ _} _ _ _ _ e => (by cases e), fun a b h => by cases h⟩
theorem q26 [q93 P G] {T : jE} {IT : List (FuncId × q91)} {CI : CIT} {Y : YI (GV Γ)} {an : An} {rdv : List SV -> SH -> Option (TyL rs)} {en : TyL rs -> List SV} {hb : SH} (s : q97 P good nat G tab) (ht : qPV tab T) (hit : q15 P G IT) (hci : qZV P G CI) (hy : YOk P G wd Y) (hrd : ∀ nm, zB9 P nm N hb rdv en) :
 ∀ (c : Code) {R : Type} {rd : Bool} {nm : Nm} {g : GV Γ} {env : List SV} {h : SH} {K : uE Γ R} {r : R}, OkH P h -> okL h env -> env.length = N -> Keep hb h -> (ev P G T IT CI Y an rdv en hb c rd nm g env h K).run = some r -> qO P G rd nm wd c g (qB env) (qD h.l) (EQ P N (wr an c) env h K r) :=
 fun c {R rd nm g env h K r} ho he hl hbh e => (vX s ht hit hci hy hrd c).1 rd nm ho he hl hbh e
end
end Go.Sv
namespace Go.Sv
open Go.Idl
noncomputable section
variable [Gc]
variable [Frs]
variable [Yl]
variable {P : Program} {R : Type} {r : R} {nm : Nm} {G : Nat -> Bool} {N : Nat} {tab : uF} {good : FuncId -> Bool}
def wU (P : Program) (ty : TypeId) (t : Ty) : Bool := match qL2 P ty with
 | some true => !t.one && (match szT P ty with
   | some n => Nat.beq n t.w
   | none => false)
 | some false => t.one
 | none => false
omit [Yl] in
theorem qPA {ty : TypeId} {t : Ty} {x : t.sem} {ph : PHp} (e : wU P ty t = true) : bQ P ty (qXJ t x) ph = some (t.pv x) := by
 unfold wU at e;show qLL P ty (t.cells x) 0 = _;unfold qLL Ty.pv;split at e
 ·rename_i h1;rw [h1];simp only;split at e
  ·rename_i n hn;rw [hn];rw [zI5] at e;have h2 : n = t.w := zI6 e.2;have h3 : t.one = false := by simpa using e.1
   subst h2;have h4 : Nat.ble (0 + t.w) (t.cells x).length = true := zJU (by rw [t.q9N]; omega);simp only [h4, cond_true, h3, cond_false, zLK];rw [zJ2 (by rw [t.q9N]; exact zI7 _)]
  ·rw [zI5] at e; cases e.2
 ·rename_i h1;rw [h1];simp only [e, cond_true];rw [Ty.cells_one e];rfl
 ·cases e
def qVT : ResultVar -> Nat
 | .tmp t => t
 | .cell a _ => a
def qQQ : ResultVar -> Option TypeId
 | .tmp _ => none
 | .cell _ ty => some ty
def q4Z (ty : TypeId) (v : SV) (h : SH) : Bool := match v with
 | .ref k _ _ => (match slk k h.l with
   | some (.cells el _ _) => Nat.beq el ty
   | _ => false)
 | _ => false
theorem qU0 {ty : TypeId} {t : Ty} {v : SV} {h : SH} {x : t.sem} {h' : SH} (ho : OkH P h) (e : qBS P t v h = some (x, h')) (hel : q4Z ty v h = true) (h1 : t.one = false) : rt1 P ty (t.pv x) = t.pv x := by
 unfold qBS at e;unfold q4Z at hel;split at e
 case h_2 => cases e
 rename_i k off w;split at e
 case h_2 => cases e
 rename_i el w0 l hk;simp only [hk] at hel;have hel : el = ty := zI6 hel;subst hel
 cases hc : (!spec P el && (Nat.beq off 0 && Nat.beq w l.length)) with
 | false => rw [hc] at e; cases e
 | true =>
   rw [hc] at e;simp only [cond_true] at e;split at e
   case h_2 => cases e
   rename_i y q9U h2 hd;cases e;have hd0 := dR (k := k) ho;obtain ⟨a1, a2, a3, ys, a4, a5⟩ := qA0 hd0.2 (qK hd0.1 (ho.cells _ _ _ _ hk)) hd;unfold Ty.pv;rw [h1];show PV.agg (rtL (rtC P) (vC P 8 el) ((t.cells x).map .f)) = _;have := (a5 []).2;rw [zKR] at this;rw [this];cases q9U <;> simp [rtL]
def olL : List TypeId -> Ty -> Option (List TypeId)
 | tys, .pair a b => (match olL tys a with
   | some r => olL r b
   | none => none)
 | ty :: tys, .ol _ _ => cond (Gc.ol ty) (some tys) none
 | [], .ol _ _ => none
 | tys, t => cond t.nol (some (tys.drop t.w)) none
def q6N (t : Ty) (v : SV) : Option t.sem := match v with
 | .lp t' [x] 0 0 => if e : t' = t then some (e ▸ x) else none
 | _ => none
omit [Yl] in
theorem qWF {t : Ty} {v : SV} {x : t.sem} (e : q6N t v = some x) : v = .lp t [x] 0 0 := by
 unfold q6N at e;split at e
 ·rename_i t' y;split at e
  ·rename_i h;subst h;cases e;rfl
  ·cases e
 ·cases e
def qYA (P : Program) (c : Option TypeId) (ty : TypeId) (t : Ty) (v : SV) (h : SH) : Option (t.sem × SH) := match c with
 | none => q3A P ty t v h
 | some ty2 => match q6N t v with
   | some x => cond (wU P ty2 t && (t.nol || (!t.one && (olL (vC P 8 ty) t).isSome))) (some (x, h)) none
   | none => cond (wU P ty2 t && (t.nol || (!t.one && q4Z ty v h))) (qBS P t v h) none
def qGL (c : Option TypeId) (t : Ty) (x : t.sem) : SV := match c with
 | none => t.sv x
 | some _ => .lp t [x] 0 0
def qHX (P : Program) : List (Option TypeId) -> List TypeId -> (ts : List Ty) -> List SV -> SH -> Option (TyL ts × SH)
 | [], _, [], [], h => some ((), h)
 | c :: cs, ty :: _, [t], v :: vs, h => (match cs, vs with
   | [], [] => qYA P c ty t v h
   | _, _ => none)
 | c :: cs, ty :: tys, t :: u :: ts, v :: vs, h => match qYA P c ty t v h with
   | some (x, h1) => (match qHX P cs tys (u :: ts) vs h1 with
     | some (y, h2) => some ((x, y), h2)
     | none => none)
   | none => none
 | _, _, _, _, _ => none
def svM : List (Option TypeId) -> (ts : List Ty) -> TyL ts -> List SV
 | _, [], _ => []
 | c :: _, [t], x => [qGL c t x]
 | [], [t], x => [t.sv x]
 | c :: cs, t :: u :: ts, x => qGL c t x.1 :: svM cs (u :: ts) x.2
 | [], t :: u :: ts, x => t.sv x.1 :: svM [] (u :: ts) x.2
omit [Yl] in
theorem qQ1 {h : SH} (c : Option TypeId) (t : Ty) (x : t.sem) : (qGL c t x).ok h := by
 cases c with
 | none => exact qHL t x
 | some _ => simp [qGL, SV.ok]
omit [Yl] in
theorem qRU {h : SH} : ∀ (cs : List (Option TypeId)) (ts : List Ty) (x : TyL ts), okL h (svM cs ts x)
 | _, [], _ => by simp [svM, okL]
 | c :: _, [t], x => by simp only [svM, okL]; exact ⟨qQ1 c t x, trivial⟩
 | [], [t], x => by simp only [svM, okL]; exact ⟨qHL t x, trivial⟩
 | c :: cs, t :: u :: ts, x => by
   show okL h (qGL c t x.1 :: svM cs (u :: ts) x.2);simp only [okL];exact ⟨qQ1 c t x.1, qRU cs (u :: ts) x.2⟩
 | [], t :: u :: ts, x => by
   show okL h (t.sv x.1 :: svM [] (u :: ts) x.2);simp only [okL];exact ⟨qHL t x.1, qRU [] (u :: ts) x.2⟩
omit [Yl] in
theorem qLU : ∀ (cs : List (Option TypeId)) (ts : List Ty) (x : TyL ts), (svM cs ts x).length = ts.length
 | _, [], _ => by simp [svM]
 | c :: _, [t], x => rfl
 | [], [t], x => rfl
 | c :: cs, t :: u :: ts, x => by
   show (qGL c t x.1 :: svM cs (u :: ts) x.2).length = _;simp only [zJN, qLU cs (u :: ts)]
 | [], t :: u :: ts, x => by
   show (t.sv x.1 :: svM [] (u :: ts) x.2).length = _;simp only [zJN, qLU [] (u :: ts)]
theorem qMU (c : Option TypeId) (t : Ty) (x : t.sem) (Z : Nat -> Prop) (H : IH) (M M' : Nat -> Option (Nat × PO)) (v : Value) (h : VR P Z H M (qGL c t x).enc v) : VR P Z H M' (qGL c t x).enc v := by
 cases c with
 | none =>
   simp only [qGL, eX] at h ⊢;exact bF h (qUA t x)
 | some _ =>
   simp only [qGL, SV.enc] at h ⊢
   cases h with
   | lp a b c d => exact .lp a b c d
omit [Yl] in
theorem sM {ty : TypeId} : ∀ (t : Ty) (x : t.sem) (c : FV), t.nol = true -> c ∈ t.cells x -> rt0 P ty (.f c) = .f c
 | .int _, x, c, _, h => by simp only [Ty.cells, zK8] at h; subst h; rfl
 | .bool, x, c, _, h => by simp only [Ty.cells, zK8] at h; subst h; rfl
 | .str, x, c, _, h => by simp only [Ty.cells, zK8] at h; subst h; rfl
 | .raw, x, c, _, h => by simp only [Ty.cells, zK8] at h; subst h; rfl
 | .nif, x, c, _, h => by simp only [Ty.cells, zK8] at h; subst h; rfl
 | .list _ _, x, c, _, h => by simp only [Ty.cells, zK8] at h; subst h; rfl
 | .unit, x, c, _, h => by cases h
 | .pair a b, x, c, hn, h => by
   have h : c ∈ a.cells x.1 ++ b.cells x.2 := h;have hn : (a.nol && b.nol) = true := hn;rw [zI5] at hn;rcases zKI.1 h with q | q
   ·exact sM a _ _ hn.1 q
   ·exact sM b _ _ hn.2 q
omit [Yl] in
theorem qZI {f : TypeId -> PV -> PV} : ∀ {ts : List TypeId} {xs : List PV}, (∀ t x, x ∈ xs -> f t x = x) -> rtL f ts xs = xs
 | [], xs, _ => by cases xs <;> rfl
 | t :: ts, [], _ => rfl
 | t :: ts, x :: xs, h => by
   show f t x :: rtL f ts xs = _;rw [h t x zJI, qZI fun t y hy => h t y (zJD _ hy)]
omit [Yl] in
theorem qZL {ty : TypeId} (t : Ty) (x : t.sem) (hn : t.nol = true) : rt1 P ty (t.pv x) = t.pv x := by
 unfold Ty.pv
 cases ht : t.one with
 | true => exact sN (by rw [ht, hn]; rfl)
 | false =>
   show PV.agg (rtL (rtC P) (vC P 8 ty) ((t.cells x).map .f)) = _;rw [qZI]
   ·rfl
   ·intro ty2 y hy;obtain ⟨c, hc, rfl⟩ := zJX.1 hy;unfold rtC;rw [sM t x c hn hc];cases Gc.ol ty2 <;> rfl
omit [Yl] in
theorem qRB {f : TypeId -> PV -> PV} : ∀ {ts : List TypeId} {xs rest : List PV}, (∀ t x, x ∈ xs -> f t x = x) -> rtL f ts (xs ++ rest) = xs ++ rtL f (ts.drop xs.length) rest
 | ts, [], rest, _ => by simp
 | [], x :: xs, rest, _ => by simp [rtL]
 | t :: ts, x :: xs, rest, h => by
   show f t x :: rtL f ts (xs ++ rest) = _;rw [h t x zJI, qRB fun t y hy => h t y (zJD _ hy)];rfl
omit [Yl] in
theorem gU (t : Ty) (hn : t.nol = true) {tys q9U : List TypeId} (h : olL tys t = cond t.nol (some (tys.drop t.w)) none) (e : olL tys t = some q9U) (x : t.sem) (rest : List PV) : rtL (rtC P) tys ((t.cells x).map .f ++ rest) = (t.cells x).map .f ++ rtL (rtC P) q9U rest := by
 have hd : q9U = tys.drop t.w := by
  rw [h, hn] at e;cases e; rfl
 rw [qRB, hd, zJO, t.q9N];intro ty2 y hy;obtain ⟨c, hc, rfl⟩ := zJX.1 hy;unfold rtC;rw [sM t x c hn hc];cases Gc.ol ty2 <;> rfl
omit [Yl] in
theorem qT4 : ∀ (t : Ty) {tys q9U : List TypeId}, olL tys t = some q9U -> ∀ (x : t.sem) (rest : List PV), rtL (rtC P) tys ((t.cells x).map .f ++ rest) = (t.cells x).map .f ++ rtL (rtC P) q9U rest
 | .pair a b, tys, q9U, e, x, rest => by
   unfold olL at e;split at e
   ·rename_i r hr;show rtL (rtC P) tys ((a.cells x.1 ++ b.cells x.2).map .f ++ rest) = (a.cells x.1 ++ b.cells x.2).map .f ++ _;rw [zJ9, zJ0, qT4 a hr, qT4 b e, zJ0]
   ·cases e
 | .ol el k, tys, q9U, e, x, rest => by
   cases tys with
   | nil => cases e
   | cons ty tys =>
     have e : cond (Gc.ol ty) (some tys) none = some q9U := e
     cases ho : Gc.ol ty with
     | false => rw [ho] at e; cases e
     | true =>
       rw [ho] at e;cases e;show rtC P ty (.f (fvo el k x)) :: rtL (rtC P) _ rest = .f (fvo el k x) :: _;unfold rtC;rw [ho]; rfl
 | .int k, tys, q9U, e, x, rest => gU (.int k) rfl (by cases tys <;> rfl) e x rest
 | .bool, tys, q9U, e, x, rest => gU .bool rfl (by cases tys <;> rfl) e x rest
 | .str, tys, q9U, e, x, rest => gU .str rfl (by cases tys <;> rfl) e x rest
 | .raw, tys, q9U, e, x, rest => gU .raw rfl (by cases tys <;> rfl) e x rest
 | .nif, tys, q9U, e, x, rest => gU .nif rfl (by cases tys <;> rfl) e x rest
 | .list el u, tys, q9U, e, x, rest => gU (.list el u) rfl (by cases tys <;> rfl) e x rest
 | .unit, tys, q9U, e, x, rest => gU .unit rfl (by cases tys <;> rfl) e x rest
theorem qMX {c : Option TypeId} {ty : TypeId} {t : Ty} {v : SV} {h : SH} {x : t.sem} {h' : SH} (ho : OkH P h) (hv : v.ok h) (e : qYA P c ty t v h = some (x, h')) :
 Keep h h' ∧ OkH P h' ∧ (∀ ty2, c = some ty2 -> wU P ty2 t = true) ∧ rt1 P ty (t.pv x) = t.pv x ∧ ∀ (Z : Nat -> Prop) (H : IH) (m : Nat -> Nat) (u : Value), Hp P Z H (own m (qD h.l)) -> VR P Z H (own m (qD h.l)) v.enc u -> ∃ Z', Fz P Z H m (qD h.l) Z' (qD h'.l) ∧ VR P Z' H (fun _ => none) (qGL c t x).enc u := by
 unfold qYA at e
 cases c with
 | none =>
   obtain ⟨y, a1, a2, a3, a4, a5⟩ := tZ ho hv e;refine ⟨a3, a4, fun _ h => by (cases h), a5, fun Z H m u hp hu => ?_⟩;obtain ⟨Z', c1, c2⟩ := qGX hp hu a1;refine ⟨Z', c1, ?_⟩;simp only [qGL, eX];rw [<- a2];exact qDS c2
 | some ty2 =>
   simp only at e
   cases hlp : q6N t v with
   | some y =>
     rw [hlp] at e;simp only at e;have hv2 := qWF hlp
     cases hcn : (wU P ty2 t && (t.nol || (!t.one && (olL (vC P 8 ty) t).isSome))) with
     | false => rw [hcn] at e; cases e
     | true =>
       rw [hcn] at e;cases e;obtain ⟨hc, hn⟩ : wU P ty2 t = true ∧ (t.nol || (!t.one && (olL (vC P 8 ty) t).isSome)) = true := by rwa [zI5] at hcn
       refine ⟨.refl _, ho, fun _ h => by cases h; exact hc, ?_, fun Z H m u hp hu => ⟨Z, .refl hp, ?_⟩⟩
       ·rcases Bool.or_eq_true_iff.1 hn with q | q
        ·exact qZL t _ q
        ·rw [zI5] at q;obtain ⟨q9U, ht⟩ := zJ3.1 q.2;have h1 : t.one = false := by simpa using q.1
         unfold Ty.pv;rw [h1];show PV.agg (rtL (rtC P) (vC P 8 ty) ((t.cells _).map .f)) = _;have := qT4 (P := P) t ht x [];rw [zKR] at this;rw [this];cases q9U <;> simp [rtL]
       ·rw [hv2] at hu;simp only [qGL, SV.enc] at hu ⊢
        cases hu with
        | lp a b c d => exact .lp a b c d
   | none =>
   rw [hlp] at e;simp only at e
   cases hcn : (wU P ty2 t && (t.nol || (!t.one && q4Z ty v h))) with
   | false => rw [hcn] at e; cases e
   | true =>
     rw [hcn] at e;obtain ⟨hc, hn⟩ : wU P ty2 t = true ∧ (t.nol || (!t.one && q4Z ty v h)) = true := by rwa [zI5] at hcn
     have hrt : rt1 P ty (t.pv x) = t.pv x := by
      rcases Bool.or_eq_true_iff.1 hn with q | q
      ·exact qZL t x q
      ·rw [zI5] at q;exact qU0 ho e q.2 (by simpa using q.1)
     obtain ⟨a1, a2, a3⟩ := tF ho e;refine ⟨a1, a2, fun _ h => by cases h; exact hc, hrt, fun Z H m u hp hu => ?_⟩;obtain ⟨Z', c1, c2⟩ := a3 Z H m u hp hu;refine ⟨Z', c1, ?_⟩;simp only [qGL, SV.enc];simpa [qXJ] using c2
structure zFN (P : Program) (cs : List (Option TypeId)) (tys : List TypeId) (ts : List Ty) (vs : List SV) (h : SH) (x : TyL ts) (h' : SH) : Prop where
 keep : Keep h h'
 ok : OkH P h'
 fz : ∀ (Z : Nat -> Prop) (H : IH) (m : Nat -> Nat) (us : List Value), Hp P Z H (own m (qD h.l)) -> VRL P Z H (own m (qD h.l)) (qB vs) us -> ∃ Z', Fz P Z H m (qD h.l) Z' (qD h'.l) ∧ VRL P Z' H (fun _ => none) (qB (svM cs ts x)) us
 any : ∀ (Z : Nat -> Prop) (H : IH) (M M' : Nat -> Option (Nat × PO)) (us : List Value), VRL P Z H M (qB (svM cs ts x)) us -> VRL P Z H M' (qB (svM cs ts x)) us
 rt : rtL (rt1 P) tys (pvL ts x) = pvL ts x
 load : ∀ (ph : PHp) (rv : List ResultVar) (env : List PV), rv.map qQQ = cs -> (rv.map fun r => (zA env (qVT r)).getD .unk) = qB (svM cs ts x) -> qEY P env ph rv = some (pvL ts x)
theorem q4L {c : Option TypeId} {t : Ty} {x : t.sem} (hc : ∀ ty2, c = some ty2 -> wU P ty2 t = true) {ph : PHp} {r : ResultVar} {env : List PV} (h1 : qQQ r = c) (h2 : (zA env (qVT r)).getD .unk = (qGL c t x).enc) : qV5 P env ph r = some (t.pv x) := by
 subst h1
 cases r with
 | tmp i =>
   show some ((zA env i).getD .unk) = _;rw [show (zA env i).getD .unk = _ from h2];simp [qQQ, qGL, eX]
 | cell a ty =>
   show bQ P ty ((zA env a).getD .unk) ph = _;rw [show (zA env a).getD .unk = _ from h2];have := qPA (x := x) (ph := ph) (hc ty rfl);simpa [qQQ, qGL, SV.enc, qXJ] using this
theorem qUL : ∀ {cs : List (Option TypeId)} {tys : List TypeId} {ts : List Ty} {vs : List SV} {h : SH} {x : TyL ts} {h' : SH}, OkH P h -> okL h vs -> qHX P cs tys ts vs h = some (x, h') -> zFN P cs tys ts vs h x h'
 | [], tys, [], [], h, x, h', ho, hv, e => by
   unfold qHX at e;cases e;refine ⟨.refl _, ho, fun Z H m us hp hu => ⟨Z, .refl hp, ?_⟩, fun Z H M M' us hu => ?_, (by cases tys <;> rfl), fun ph rv env h1 h2 => ?_⟩
   ·simp only [qB] at hu;rw [hu.q9J];simp only [svM, qB];exact .nil
   ·simp only [svM, qB] at hu ⊢;rw [hu.q9J];exact .nil
   ·cases rv with
    | nil => rfl
    | cons _ _ => cases h1
 | c :: cs, ty :: tys, [t], v :: vs, h, x, h', ho, hv, e => by
   unfold qHX at e;split at e
   case h_2 => cases e
   simp only [okL] at hv;obtain ⟨a1, a2, a3, ar, a4⟩ := qMX ho hv.1 e;refine ⟨a1, a2, fun Z H m us hp hu => ?_, fun Z H M M' us hu => ?_, ?_, fun ph rv env h1 h2 => ?_⟩
   ·simp only [qB] at hu;obtain ⟨u, us', rfl, b1, b2⟩ := hu.q9G;obtain ⟨Z', c1, c2⟩ := a4 Z H m u hp b1;rw [b2.q9J];simp only [svM, qB];exact ⟨Z', c1, .cons c2 .nil⟩
   ·simp only [svM, qB] at hu ⊢;obtain ⟨u, us', rfl, b1, b2⟩ := hu.q9G;rw [b2.q9J];exact .cons (qMU c t x _ _ _ _ _ b1) .nil
   ·show rt1 P ty (t.pv x) :: rtL (rt1 P) tys [] = [t.pv x];rw [ar];cases tys <;> rfl
   ·match rv, h1, h2 with
    | [r], h1, h2 =>
      simp only [zJM, zLE, zJV, and_true] at h1;simp only [zJM, zLE, svM, qB, zJV, and_true] at h2;unfold qEY;rw [q4L a3 h1 h2];rfl
 | c :: cs, ty :: tys, t :: u :: ts, v :: vs, h, x, h', ho, hv, e => by
   unfold qHX at e;simp only [okL] at hv;split at e
   case h_2 => cases e
   rename_i x1 h1 hd;split at e
   case h_2 => cases e
   rename_i y h2 hd2;cases e;obtain ⟨a1, a2, a3, ar, a4⟩ := qMX ho hv.1 hd;have ih := qUL a2 (qK a1 hv.2) hd2;have hsv : svM (c :: cs) (t :: u :: ts) (x1, y) = qGL c t x1 :: svM cs (u :: ts) y := rfl;refine ⟨a1.trans ih.keep, ih.ok, fun Z H m us hp hu => ?_, fun Z H M M' us hu => ?_, ?_, fun ph rv env g1 g2 => ?_⟩
   ·simp only [qB] at hu;obtain ⟨w, us', rfl, b1, b2⟩ := hu.q9G;obtain ⟨Z1, d1, d2⟩ := a4 Z H m w hp b1;obtain ⟨Z2, f1, f2⟩ := ih.fz Z1 H m us' d1.hp (d1.vrl b2);rw [hsv];simp only [qB];exact ⟨Z2, d1.trans f1, .cons (d2.mono (p := fun _ => false) f1.zle (zI7 _) (fun _ _ _ => rfl) (.refl _ _) fun j hj => by cases hj) f2⟩
   ·rw [hsv] at hu ⊢;simp only [qB] at hu ⊢;obtain ⟨w, us', rfl, b1, b2⟩ := hu.q9G;exact .cons (qMU c t x1 _ _ _ _ _ b1) (ih.any _ _ _ _ _ b2)
   ·show rt1 P ty (t.pv x1) :: rtL (rt1 P) tys (pvL (u :: ts) y) = t.pv x1 :: pvL (u :: ts) y;rw [ar, ih.rt]
   ·cases rv with
    | nil => cases g1
    | cons r rv =>
      rw [hsv] at g2;simp only [zJM, zJV] at g1;simp only [zJM, qB, zJV] at g2;unfold qEY;rw [q4L a3 g1.1 g2.1, ih.load ph rv env g1.2 g2.2];rfl
 | [], _, [], _ :: _, _, _, _, _, _, e => by unfold qHX at e; cases e
 | [], [], [_], _, _, _, _, _, _, e => by unfold qHX at e; cases e
 | [], [], _ :: _ :: _, _, _, _, _, _, _, e => by unfold qHX at e; cases e
 | [], _ :: _, [_], _, _, _, _, _, _, e => by unfold qHX at e; cases e
 | [], _ :: _, _ :: _ :: _, _, _, _, _, _, _, e => by unfold qHX at e; cases e
 | _ :: _, [], [], _, _, _, _, _, _, e => by unfold qHX at e; cases e
 | _ :: _, _ :: _, [], _, _, _, _, _, _, e => by unfold qHX at e; cases e
 | _ :: _, [], [_], _, _, _, _, _, _, e => by unfold qHX at e; cases e
 | _ :: _, [], _ :: _ :: _, _, _, _, _, _, _, e => by unfold qHX at e; cases e
 | _ :: _, _ :: _, [_], [], _, _, _, _, _, e => by unfold qHX at e; cases e
 | _ :: _, _ :: _, _ :: _ :: _, [], _, _, _, _, _, e => by unfold qHX at e; cases e
def rdR (P : Program) (hb : SH) (zBK : List TypeId) (rs : List Ty) (rv : List ResultVar) (env : List SV) (h : SH) : Option (TyL rs) := match qGW (rv.map qVT) env with
 | some vs => (match qHX P (rv.map qQQ) zBK rs vs h with
   | some p => cond (eZ [] hb p.2) (some p.1) none
   | none => none)
 | none => none
def enR (N : Nat) (rv : List ResultVar) (rs : List Ty) (v : TyL rs) : List SV := (dZ (rv.map qVT) (svM (rv.map qQQ) rs v) (List.replicate N .unk)).1
omit [Yl] in
theorem qGP (h : SH) : ∀ (n : Nat), okL h (List.replicate n .unk)
 | 0 => by simp [okL]
 | n + 1 => by rw [zKT]; simp only [okL]; exact ⟨by simp [SV.ok], qGP h n⟩
theorem qBK : ∀ (n : Nat), qB (List.replicate n .unk) = List.replicate n .unk
 | 0 => by simp [qB]
 | n + 1 => by rw [zKT, zKT]; simp only [qB, qBK n, SV.enc]
theorem qOW {Z : Nat -> Prop} {H : IH} {M : Nat -> Option (Nat × PO)} {vals : List Value} : ∀ {rl : List Nat} {l base : List SV} {ws : List Value}, (∀ (j i : Nat), rl[j]? = some i -> vals[i]? = ws[j]?) -> VRL P Z H M (qB l) ws -> VRL P Z H M (qB base) vals -> VRL P Z H M (qB (dZ rl l base).1) vals
 | [], l, base, ws, _, _, hb => hb
 | i :: is, [], base, ws, _, _, hb => hb
 | i :: is, c :: l, base, ws, hc, hl, hb => by
   simp only [qB] at hl;obtain ⟨w, ws', rfl, h1, h2⟩ := hl.q9G;show VRL P Z H M (qB (dZ is l (yY base i c)).1) vals;refine qOW (ws := ws') (fun j k hj => by simpa using hc (j + 1) k (by simpa using hj)) h2 ?_;rw [xS];exact hb.slot (v := w) (by simpa using hc 0 i rfl) h1
theorem qMZ {Z : Nat -> Prop} {H : IH} {M : Nat -> Option (Nat × PO)} {env : List SV} {vals : List Value} (hv : VRL P Z H M (qB env) vals) : ∀ {rl : List Nat} {vs : List SV}, qGW rl env = some vs -> ∃ ws, VRL P Z H M (qB vs) ws ∧ ∀ (j i : Nat), rl[j]? = some i -> vals[i]? = ws[j]?
 | [], vs, e => by cases e; exact ⟨[], by simp only [qB]; exact .nil, fun j i h => by simp at h⟩
 | i :: is, vs, e => by
   unfold qGW at e;split at e
   ·rename_i v l hx hl;cases e;obtain ⟨ws, h1, h2⟩ := qMZ hv hl;have hx2 : (qB env)[i]? = some v.enc := by rw [<- qF, zD, hx]; rfl
    obtain ⟨w, hw, hr⟩ := hv.get hx2;refine ⟨w :: ws, by simp only [qB]; exact .cons hr h1, fun j k hj => ?_⟩
    cases j with
    | zero => simp at hj; subst hj; simpa using hw
    | succ j => simpa using h2 j k (by simpa using hj)
   ·cases e
omit [Yl] in
theorem q21 {Z : Nat -> Prop} {H : IH} {M : Nat -> Option (Nat × PO)} {vals : List Value} : VRL P Z H M (List.replicate vals.length .unk) vals := ⟨by simp, fun i z v h1 h2 => by
 rw [zL2] at h1;split at h1
 ·cases h1; exact .unk
 ·cases h1⟩
omit [Yl] in
theorem qFL {env : List SV} : ∀ {rl : List Nat} {vs : List SV}, qGW rl env = some vs -> ∀ z ∈ vs, z ∈ env
 | [], vs, e, z, hz => by cases e; cases hz
 | i :: is, vs, e, z, hz => by
   unfold qGW at e;split at e
   ·rename_i v l hx hl;cases e;rcases zJR.1 hz with q | q
    ·subst q; rw [qF] at hx; exact zJ8 hx
    ·exact qFL hl z q
   ·cases e
theorem qKA {hb : SH} {zBK : List TypeId} {rs : List Ty} {rv : List ResultVar} {env : List SV} {h : SH} {v : TyL rs} (ho : OkH P h) (he : okL h env) (e : rdR P hb zBK rs rv env h = some v) :
 ∃ vs h', qGW (rv.map qVT) env = some vs ∧ zFN P (rv.map qQQ) zBK rs vs h v h' ∧ eZ [] hb h' = true := by
 unfold rdR at e;split at e
 case h_2 => cases e
 rename_i vs hvs;split at e
 case h_2 => cases e
 rename_i p hp;obtain ⟨x, h'⟩ := p
 cases hc : eZ [] hb h' with
 | false => rw [hc] at e; cases e
 | true =>
   rw [hc] at e;cases e;exact ⟨vs, h', hvs, qUL ho (zW.2 fun z hz => zW.1 he z (qFL hvs z hz)) hp, hc⟩
theorem qVG {hb : SH} (hob : OkH P hb) {zBK : List TypeId} {rs : List Ty} {rv : List ResultVar} : zB9 P nm N hb (rdR P hb zBK rs rv) (enR N rv rs) := by
 refine ⟨hob, fun env h v ho he hl hbh e => ?_, fun env h v ho he hbh e k o hk => ?_, fun v => by unfold enR; rw [qEV, zLN], fun v h => qLN (qRU _ rs v) (qGP h N)⟩
 ·obtain ⟨vs, h', hvs, hd, hkp⟩ := qKA ho he e;intro Z H m vals hh hv;obtain ⟨ws, h1, h2⟩ := qMZ hv hvs;obtain ⟨Z', c1, r2⟩ := hd.fz Z H m ws hh h1;have hdr := Fz.drop c1.hp (ph' := qD hb.l) (qEK fun k o hk => tO hob (hbh.trans hd.keep) hkp (by simp) hk);have hlen : vals.length = N := by rw [<- hv.len, qV, hl]
  refine ⟨Z', m, hdr.hp, ?_, c1.step.trans hdr.step, (c1.kr _).trans (hdr.kr _)⟩;unfold enR;refine qOW h2 (hd.any _ _ _ _ _ r2) ?_;rw [qBK, <- hlen];exact q21
 ·obtain ⟨vs, h', hvs, hd, hkp⟩ := qKA ho he e;have := qNX hob (hbh.trans hd.keep) hkp (by simp) hk;exact hd.keep.same k o this (zJB (hob.ver k o hk) hbh.next)
omit [Yl] in
theorem q5F (t : Ty) (x : t.sem) (ph : PHp) : fzP P ph (t.pv x) = some (t.pv x, ph) := by
 unfold Ty.pv
 cases t.one with
 | true => rfl
 | false => simp only [cond_false, fzP, qD7]
omit [Yl] in
theorem qZH {ph : PHp} : ∀ {xs : List PV}, (∀ y ∈ xs, fzP P ph y = some (y, ph)) -> fzA P xs ph = some (xs, ph)
 | [], _ => rfl
 | x :: xs, h => by
   simp only [fzA, h x zJI, qZH fun y hy => h y (zJD _ hy)]
omit [Yl] in
theorem q0Y (rs : List Ty) (x : TyL rs) (ph : PHp) : fzR P ph (jZ rs x) = some (jZ rs x) := by
 have hm : ∀ y ∈ pvL rs x, ∃ (t : Ty) (z : t.sem), y = t.pv z := fun y hy => tT hy
 unfold jZ;generalize pvL rs x = l at hm
 have hz : ∀ y ∈ l, fzP P ph y = some (y, ph) := fun y hy => by
  obtain ⟨t, z, rfl⟩ := hm y hy;exact q5F t z ph
 match l, hm, hz with
 | [], _, hz => rfl
 | [v], hm, hz =>
   obtain ⟨t, z, rfl⟩ := hm v zJI;have := hz _ zJI;show fzR P ph (t.pv z) = some (t.pv z);unfold fzR;unfold Ty.pv at this ⊢
   cases ht : t.one with
   | true => rw [ht] at this; simp only [cond_true] at this ⊢; rw [this]
   | false => rw [ht] at this; simp only [cond_false] at this ⊢; rw [this]
 | a :: b :: l, _, hz =>
   show (match fzA P (a :: b :: l) ph with
    | some (ys, _) => some (PV.tup ys)
    | none => none) = _
   rw [qZH hz]; rfl
omit [Yl] in
theorem qK1 (rs : List Ty) (x : TyL rs) : q3X (jZ rs x) = true := by
 have hm : ∀ y ∈ pvL rs x, qIM y = true := fun y hy => by
  obtain ⟨t, z, rfl⟩ := tT hy;exact qUA t z
 have hm2 : ∀ y ∈ pvL rs x, ∃ (t : Ty) (z : t.sem), y = t.pv z := fun y hy => tT hy
 unfold jZ;generalize pvL rs x = l at hm hm2
 match l, hm, hm2 with
 | [], _, _ => rfl
 | [v], hm, hm2 =>
   have h1 := hm v zJI;obtain ⟨t, z, rfl⟩ := hm2 v zJI;show q3X (t.pv z) = true;unfold Ty.pv at h1 ⊢
   cases ht : t.one with
   | true => rfl
   | false => rw [ht] at h1; exact h1
 | a :: b :: l, hm, _ => exact zI8.2 hm
def qOF : List Nat -> Bool
 | [] => true
 | i :: l => !qC4 i l && qOF l
omit [Yl] in
theorem qN4 : ∀ {rl : List Nat} {l base : List SV}, qOF rl = true -> rl.length = l.length -> (∀ i ∈ rl, i < base.length) -> ∀ (j i : Nat), rl[j]? = some i -> zA (dZ rl l base).1 i = l[j]?
 | [], l, base, _, _, _, j, i, h => by simp at h
 | k :: is, [], base, _, hl, _, j, i, h => by simp at hl
 | k :: is, c :: l, base, hn, hl, hb, j, i, h => by
   unfold qOF at hn;rw [zI5] at hn
   have hk : k ∉ is := fun hm => by
    have := wG.2 hm;rw [this] at hn;exact absurd hn.1 (by simp)
   show zA (dZ is l (yY base k c)).1 i = _
   cases j with
   | zero =>
     simp at h;subst h;rw [qFO hk, qY, qF, zJ4, if_pos rfl, if_pos (hb k zJI)];rfl
   | succ j =>
     have h2 : is[j]? = some i := by simpa using h
     rw [qN4 (rl := is) (l := l) hn.2 (by simpa using hl) (fun i hi => by rw [kY]; exact hb i (zJD _ hi)) j i h2];rfl
def q8L {rs : List Ty} (rdv : List SV -> SH -> Option (TyL rs)) : uE none (TyL rs) := fun e _ env h => match e with
 | .normal => rdv env h
 | .ret => rdv env h
 | _ => none
def nm0 : Nm := ⟨0, fun _ => true⟩
def fnS (P : Program) (G : Nat -> Bool) (T : jE) (IT : List (FuncId × q91)) (CI : CIT) (an : An) (as rs : List Ty) (fn : Func) (x : TyL as) : Option (TyL rs) := match fn.body with
 | some c => (ev (Γ := none) P G T IT CI yi0 an (rdR P ⟨0, []⟩ fn.resultTypes.toList rs fn.results.toList) (enR fn.ntmps fn.results.toList rs) ⟨0, []⟩ c false nm0 () (svL as x ++ List.replicate (fn.ntmps - as.length) .unk) ⟨0, []⟩ (q8L (rdR P ⟨0, []⟩ fn.resultTypes.toList rs fn.results.toList))).run
 | none => none
def qPT (as rs : List Ty) (fn : Func) : Bool := match fn.body with
 | some _ => qOF (fn.results.toList.map qVT) && (Nat.beq fn.results.toList.length rs.length && (Nat.ble as.length fn.ntmps && (fn.results.toList.map qVT).all fun i => Nat.blt i fn.ntmps))
 | none => false
omit [Yl] in
theorem Runs.zFO {rd : Bool} {c : Code} {env : List PV} {ph : PHp} {Q : PQ} (h : Runs P G rd nm c env ph fun e pe p => ∃ pe' p', Wk P nm pe p pe' p' ∧ Q e pe' p') : Runs P G rd nm c env ph Q := by
 intro Z H m q9E hp hb he;refine (h Z H m q9E hp hb he).mono ?_;rintro o ⟨Z', m', env', ph', a, b, c, d, pe', p', hw, e⟩;obtain ⟨Z1, m1, a1, a2, a3, a4⟩ := hw Z' o.H m' o.env a b;exact ⟨Z1, m1, pe', p', a1, a2, c.trans a3, d.trans a4, e⟩
theorem q8T : YOk P G (Γ := GV none) q63 yi0 := fun g y g' b h => by cases h
theorem q6I [q93 P G] {nat : yV} {T : jE} {IT : List (FuncId × q91)} {CI : CIT} {an : An} {as rs : List Ty} {g : FuncId} {fn : Func} (s : q97 P good nat G tab) (ht : qPV tab T) (hit : q15 P G IT) (hci : qZV P G CI) (hfn : P.funcs[g]? = some fn) (hc : qPT as rs fn = true) :
 q8O P G g nm0 (enL as) (fnS P G T IT CI an as rs fn) (jZ rs) := by
 unfold qPT at hc;split at hc
 case h_2 => cases hc
 rename_i c hbody;simp only [zI5] at hc;obtain ⟨c1, c2, c3, c4⟩ := hc;refine ⟨fn, c, hfn, hbody, fun x y hF => ⟨fn.ntmps, rfl, ?_⟩⟩;unfold fnS at hF;rw [hbody] at hF;have hF : (ev (Γ := none) P G T IT CI yi0 an (rdR P ⟨0, []⟩ fn.resultTypes.toList rs fn.results.toList) (enR fn.ntmps fn.results.toList rs) ⟨0, []⟩ c false nm0 () (svL as x ++ List.replicate (fn.ntmps - as.length) .unk) ⟨0, []⟩ (q8L (rdR P ⟨0, []⟩ fn.resultTypes.toList rs fn.results.toList))).run = some y := hF;have hal : as.length <= fn.ntmps := zJE c3
 have hlen : (svL as x ++ List.replicate (fn.ntmps - as.length) SV.unk).length = fn.ntmps := by
  rw [zJW, qEN, zLN]; omega
 have hrd : ∀ nm, zB9 P nm fn.ntmps ⟨0, []⟩ (rdR P ⟨0, []⟩ fn.resultTypes.toList rs fn.results.toList) (enR fn.ntmps fn.results.toList rs) := fun nm => qVG qAB
 have q9M : (enL as).p x ++ List.replicate (fn.ntmps - ((enL as).p x).length) PV.unk = qB (svL as x ++ List.replicate (fn.ntmps - as.length) .unk) := by
  have : (enL as).p x = qB (svL as x) := (qBQ as x).symm;rw [mI, qBK, this, qV, qEN]
 rw [q9M];have hrun := qO.runs (q26 (Γ := none) (wd := q63) s ht hit hci q8T hrd c qAB (fG (qAT as x) (qGP _ _)) hlen (.refl _) hF);refine Runs.zFO (hrun.mono ?_);rintro e pe ph ⟨env', h', rfl, rfl, k1, k2, k3, k0, k4, k5⟩
 obtain ⟨he, hr⟩ : (e = .normal ∨ e = .ret) ∧ rdR P ⟨0, []⟩ fn.resultTypes.toList rs fn.results.toList env' h' = some y := by
  cases e with
  | normal => exact ⟨.inl rfl, k5⟩
  | ret => exact ⟨.inr rfl, k5⟩
  | exit _ => cases k5
  | goto _ => cases k5
 obtain ⟨_, _, _, hd, _⟩ := qKA k2 k1 hr;refine ⟨_, _, (hrd nm0).wk _ _ _ k2 k1 k3 k0 hr, he, jZ rs y, ?_, q0Y rs y _⟩;unfold gK;have hll : (fn.results.toList.map qVT).length = (svM (fn.results.toList.map qQQ) rs y).length := by rw [qLU, zJO]; exact zI6 c2
 have hl2 : (fn.results.toList.map fun r => (zA (qB (enR fn.ntmps fn.results.toList rs y)) (qVT r)).getD PV.unk) = qB (svM (fn.results.toList.map qQQ) rs y) := by
  apply zKG;intro j;rw [zJK, qW (svM _ rs y), zJK]
  cases hj : fn.results.toList[j]? with
  | none =>
    have : (svM (fn.results.toList.map qQQ) rs y)[j]? = none := by
     rw [zLQ] at hj ⊢;rw [zJO] at hll;omega
    rw [this]; rfl
  | some rr =>
    have hg := qN4 (l := svM (fn.results.toList.map qQQ) rs y) (base := List.replicate fn.ntmps .unk) c1 hll (fun i hi => by
     have := zI8.1 c4 i hi;rw [zLN]
     exact zJE this) j (qVT rr) (by rw [zJK, hj]; rfl)
    simp only [zJJ];rw [zD];unfold enR;rw [hg]
    have hlt : j < (svM (fn.results.toList.map qQQ) rs y).length := by
     rw [<- hll, zJO]; exact (zJA.1 hj).1
    rw [zI9 hlt];rfl
 rw [hd.load _ fn.results.toList _ rfl hl2];show some (qCB (rtL (rt1 P) fn.resultTypes.toList (pvL rs y))) = some (jZ rs y);rw [hd.rt];rfl
end
end Go.Sv
namespace Go.Sv
open Go.Idl
variable {P : Program}
def q8H (s : ByteArray) (c : Int) : Int := s.foldl (fun n x => if x == c.toNat.toUInt8 then n + 1 else n) ((0 : Nat) : Int)
def q4O (s : ByteArray) (c : Int) : Int := match (List.range s.size).find? (fun i => s[i]! == c.toNat.toUInt8) with
 | some i => (i : Int)
 | none => -1
def qZ3 (x y c : Int) : Int := Int.ofNat ((x.toNat + y.toNat + c.toNat) % 18446744073709551616)
def qZ0 (x y c : Int) : Int := Int.ofNat ((x.toNat + y.toNat + c.toNat) / 18446744073709551616)
def qTE (x y c : Int) : Int := Int.ofNat ((x.toNat + 18446744073709551616 - y.toNat - c.toNat) % 18446744073709551616)
def qT0 (x y c : Int) : Int := Int.ofNat (cond (Nat.blt x.toNat (y.toNat + c.toNat)) 1 0)
def q8F (fn : Func) : Nat := cond (fn.body.isNone && fn.origin == "") (cond (fn.name == "internal/bytealg.CountString") 1 (cond (fn.name == "internal/bytealg.IndexByteString") 2 (cond (fn.name == "math/bits.Add64") 3 (cond (fn.name == "math/bits.Sub64") 4 0)))) 0
def q2V (P : Program) (g : FuncId) : Nat := match P.funcs[g]? with
 | some fn => q8F fn
 | none => 0
theorem qF6 {P : Program} {g : FuncId} {n : Nat} (h : q2V P g = n + 1) : ∃ fn, P.funcs[g]? = some fn ∧ fn.body = none ∧ fn.origin = "" ∧ qLI P g = true ∧ ((n = 0 ∧ fn.name = "internal/bytealg.CountString") ∨ (n = 1 ∧ fn.name = "internal/bytealg.IndexByteString") ∨ (n = 2 ∧ fn.name = "math/bits.Add64") ∨ (n = 3 ∧ fn.name = "math/bits.Sub64")) := by
 unfold q2V at h;split at h
 case h_2 => cases h
 rename_i fn hfn;unfold q8F at h
 cases hc : (fn.body.isNone && fn.origin == "") with
 | false => rw [hc] at h; cases h
 | true =>
   rw [hc] at h;simp only [cond_true] at h;rw [zI5] at hc
   have ho : fn.origin = "" := by simpa using hc.2
   have hb : fn.body = none := by simpa using hc.1
   have hx : ∀ s, fn.name = s -> (s == "internal/abi.NoEscape") = false -> qLI P g = true := fun s hs h0 => by
    unfold qLI;rw [hfn];simp only;rw [hc.1, hs, h0]; rfl
   refine ⟨fn, hfn, hb, ho, ?_⟩
   cases h1 : (fn.name == "internal/bytealg.CountString") with
   | true =>
     rw [h1] at h
     have h1 : fn.name = "internal/bytealg.CountString" := by simpa using h1
     have h : 1 = n + 1 := h;exact ⟨hx _ h1 (by decide), .inl ⟨by omega, h1⟩⟩
   | false =>
     rw [h1] at h
     cases h2 : (fn.name == "internal/bytealg.IndexByteString") with
     | true =>
       rw [h2] at h
       have h2 : fn.name = "internal/bytealg.IndexByteString" := by simpa using h2
       have h : 2 = n + 1 := h;exact ⟨hx _ h2 (by decide), .inr (.inl ⟨by omega, h2⟩)⟩
     | false =>
       rw [h2] at h
       cases h3 : (fn.name == "math/bits.Add64") with
       | true =>
         rw [h3] at h
         have h3 : fn.name = "math/bits.Add64" := by simpa using h3
         have h : 3 = n + 1 := h;exact ⟨hx _ h3 (by decide), .inr (.inr (.inl ⟨by omega, h3⟩))⟩
       | false =>
         rw [h3] at h
         cases h4 : (fn.name == "math/bits.Sub64") with
         | true =>
           rw [h4] at h
           have h4 : fn.name = "math/bits.Sub64" := by simpa using h4
           have h : 4 = n + 1 := h;exact ⟨hx _ h4 (by decide), .inr (.inr (.inr ⟨by omega, h4⟩))⟩
         | false => rw [h4] at h; cases h
theorem dX {α β : Type} (s : Sem α) (g : α -> Sem β) : zY P (s >>= g) = (zY P s).bind fun a => zY P (g a) := kL g s
theorem q70 : zY P program = some P := rfl
theorem q7P {q : Mark} : zY P (mark q) = some () := rfl
theorem sD {g : FuncId} {fn : Func} {e : Array Value -> Sem Value} {vs : Array Value} {v : Value} (hfn : P.funcs[g]? = some fn) (hb : fn.body = none) (hn : (fn.name == "runtime.NumGoroutine") = false) (h1 : Extern.findNext fn = none) (h2 : Extern.find fn = some e) (h3 : zY P (e vs) = some v) :
 zY P (callFunc g vs) = some (.value v) := by
 unfold callFunc;rw [dX, q70, zJP, hfn];simp only [hn, zKV, if_false, hb, Option.isNone_none, if_true, h1, h2];rw [dX, q7P, zJP];show zY P (do pure (Next.value (<- e vs))) = _;rw [dX, h3];rfl
theorem qPW {fn : Func} (h : fn.name = "internal/bytealg.CountString") (ho : fn.origin = "") : Extern.findNext fn = none ∧ Extern.find fn = some Extern.BytealgCount.count := by
 unfold Extern.findNext Extern.find;simp only [h, ho];exact ⟨by kernel_rfl, by kernel_rfl⟩
theorem find_index {fn : Func} (h : fn.name = "internal/bytealg.IndexByteString") (ho : fn.origin = "") : Extern.findNext fn = none ∧ Extern.find fn = some Extern.BytealgIndexByte.indexByte := by
 unfold Extern.findNext Extern.find;simp only [h, ho];exact ⟨by kernel_rfl, by kernel_rfl⟩
theorem qU5 {g : FuncId} {s : ByteArray} {c : Int} (h : q2V P g = 1) : qLI P g = true ∧ zY P (callFunc g #[.string s, .int .u8 c]) = some (.value (.int .i64 (q8H s c))) := by
 obtain ⟨fn, h1, h2, h3, h4, h5⟩ := qF6 (n := 0) h
 rcases h5 with ⟨_, h5⟩ | ⟨h6, _⟩ | ⟨h6, _⟩ | ⟨h6, _⟩
 ·obtain ⟨a, b⟩ := qPW h5 h3;refine ⟨h4, sD h1 h2 (by rw [h5]; decide) a b ?_⟩;show zY P (do let b <- Extern.Bytes.bytesOf (.string s); let c <- Extern.Bytes.asByte (.int .u8 c); pure (goInt (b.foldl (fun n x => if x == c then n + 1 else n) (0 : Nat)))) = _;rw [dX, show zY P (Extern.Bytes.bytesOf (.string s)) = some s from rfl, zJP, dX, show zY P (Extern.Bytes.asByte (.int .u8 c)) = some c.toNat.toUInt8 from rfl, zJP];rfl
 all_goals cases h6
theorem qSW {g : FuncId} {s : ByteArray} {c : Int} (h : q2V P g = 2) : qLI P g = true ∧ zY P (callFunc g #[.string s, .int .u8 c]) = some (.value (.int .i64 (q4O s c))) := by
 obtain ⟨fn, h1, h2, h3, h4, h5⟩ := qF6 (n := 1) h
 rcases h5 with ⟨h6, _⟩ | ⟨_, h5⟩ | ⟨h6, _⟩ | ⟨h6, _⟩
 ·cases h6
 rotate_left
 ·cases h6
 ·cases h6
 ·obtain ⟨a, b⟩ := find_index h5 h3;refine ⟨h4, sD h1 h2 (by rw [h5]; decide) a b ?_⟩
  show zY P (match (List.range s.size).find? (fun i => s[i]! == c.toNat.toUInt8) with
   | some i => pure (goInt i)
   | none => pure (goInt (-1))) = _
  unfold q4O;cases (List.range s.size).find? (fun i => s[i]! == c.toNat.toUInt8) <;> rfl
def q8Y : Array Value -> Sem Value := fun args => do
 let (x, y, c) <- Extern.MathBitsCarry.three "Add64" args
 pure (Extern.MathBitsCarry.pair ((x + y + c) % Extern.MathBitsCarry.m64) ((x + y + c) / Extern.MathBitsCarry.m64))
def q8W : Array Value -> Sem Value := fun args => do
 let (x, y, b) <- Extern.MathBitsCarry.three "Sub64" args
 pure (Extern.MathBitsCarry.pair ((x + Extern.MathBitsCarry.m64 - y - b) % Extern.MathBitsCarry.m64) (if x < y + b then 1 else 0))
theorem qV0 {fn : Func} (h : fn.name = "math/bits.Add64") (ho : fn.origin = "") : Extern.findNext fn = none ∧ Extern.find fn = some q8Y := by
 unfold Extern.findNext Extern.find;simp only [h, ho];exact ⟨by kernel_rfl, by kernel_rfl⟩
theorem qXQ {fn : Func} (h : fn.name = "math/bits.Sub64") (ho : fn.origin = "") : Extern.findNext fn = none ∧ Extern.find fn = some q8W := by
 unfold Extern.findNext Extern.find;simp only [h, ho];exact ⟨by kernel_rfl, by kernel_rfl⟩
theorem qMS {n : String} {x y : Int} : ∀ {c : Int}, Nat.ble c.toNat 1 = true -> zY P (Extern.MathBitsCarry.three n #[.int .u64 x, .int .u64 y, .int .u64 c]) = some (x.toNat, y.toNat, c.toNat)
 | .ofNat 0, _ => rfl
 | .ofNat 1, _ => rfl
 | .ofNat (n + 2), h => by
   have := zJE h;simp at this; omega
 | .negSucc m, _ => rfl
theorem q2R {g : FuncId} {x y c : Int} (h : q2V P g = 3) (hc : Nat.ble c.toNat 1 = true) : qLI P g = true ∧ zY P (callFunc g #[.int .u64 x, .int .u64 y, .int .u64 c]) = some (.value (.tuple #[.int .u64 (qZ3 x y c), .int .u64 (qZ0 x y c)])) := by
 obtain ⟨fn, h1, h2, h3, h4, h5⟩ := qF6 (n := 2) h
 rcases h5 with ⟨h6, _⟩ | ⟨h6, _⟩ | ⟨_, h5⟩ | ⟨h6, _⟩
 ·cases h6
 ·cases h6
 ·obtain ⟨a, b⟩ := qV0 h5 h3;refine ⟨h4, sD h1 h2 (by rw [h5]; decide) a b ?_⟩;unfold q8Y;rw [dX, qMS hc];rfl
 ·cases h6
theorem q3P {g : FuncId} {x y c : Int} (h : q2V P g = 4) (hc : Nat.ble c.toNat 1 = true) : qLI P g = true ∧ zY P (callFunc g #[.int .u64 x, .int .u64 y, .int .u64 c]) = some (.value (.tuple #[.int .u64 (qTE x y c), .int .u64 (qT0 x y c)])) := by
 obtain ⟨fn, h1, h2, h3, h4, h5⟩ := qF6 (n := 3) h
 rcases h5 with ⟨h6, _⟩ | ⟨h6, _⟩ | ⟨h6, _⟩ | ⟨_, h5⟩
 ·cases h6
 ·cases h6
 ·cases h6
 ·obtain ⟨a, b⟩ := qXQ h5 h3;refine ⟨h4, sD h1 h2 (by rw [h5]; decide) a b ?_⟩;unfold q8W;rw [dX, qMS hc];simp only [zJP];show some (Extern.MathBitsCarry.pair ((x.toNat + 18446744073709551616 - y.toNat - c.toNat) % 18446744073709551616) (if x.toNat < y.toNat + c.toNat then 1 else 0)) = _;unfold qTE qT0 Extern.MathBitsCarry.pair;by_cases hlt : x.toNat < y.toNat + c.toNat
  ·rw [if_pos hlt, show Nat.blt x.toNat (y.toNat + c.toNat) = true from zJU hlt]; rfl
  ·rw [if_neg hlt, show Nat.blt x.toNat (y.toNat + c.toNat) = false from zMO.2 fun h => hlt (zJE h)]; rfl
noncomputable section
variable [Gc]
class Hnd where
 ci : CIT
class zAP (P : Program) (G : Nat -> Bool) [Hnd] : Prop where
 ok : ∀ [Yl], qZV P G Hnd.ci
instance (priority := low) zEK : Hnd := ⟨fun _ _ _ _ _ _ => .fail⟩
instance (priority := low) hndOk0 {G : Nat -> Bool} : @zAP _ P G zEK := by
 letI : Hnd := zEK
 refine ⟨fun {_} => ?_⟩;intro R nm f as h K r ho ha e;cases e
variable [Yl] {R : Type} {r : R} {G : Nat -> Bool}
def q6X (P : Program) (f : FuncId) (as : List SV) (h : SH) (K : SV -> SH -> q9D R) (F : q9D R) : q9D R := match q2V P f, as with
 | 1, [x, y] => (match asS x, asI y with
   | some s, some (.u8, c) => K (.d (.int .i64) (q8H s c)) h
   | _, _ => .fail)
 | 2, [x, y] => (match asS x, asI y with
   | some s, some (.u8, c) => K (.d (.int .i64) (q4O s c)) h
   | _, _ => .fail)
 | 3, [x, y, z] => (match asI x, asI y, asI z with
   | some (.u64, a), some (.u64, b), some (.u64, c) => .ite (Nat.ble c.toNat 1) (K (.tup [.d (.int .u64) (qZ3 a b c), .d (.int .u64) (qZ0 a b c)]) h) .fail
   | _, _, _ => .fail)
 | 4, [x, y, z] => (match asI x, asI y, asI z with
   | some (.u64, a), some (.u64, b), some (.u64, c) => .ite (Nat.ble c.toNat 1) (K (.tup [.d (.int .u64) (qTE a b c), .d (.int .u64) (qT0 a b c)]) h) .fail
   | _, _, _ => .fail)
 | _, _ => F
end
end Go.Sv
namespace Go.Sv
open Go.Idl
noncomputable section
variable [Gc]
variable [Frs]
variable [Yl]
variable {P : Program} {G : Nat -> Bool} {nm : Nm} {tab : uF} {nat : yV} {good : FuncId -> Bool} {T : jE} {IT : List (FuncId × q91)}
omit [Yl] in
theorem qWP {g : FuncId} {fn : Func} {c : Code} {N : Nat} {args : List PV} {ph : PHp} {R : PV -> PHp -> Prop} (hent : enters P g = true) (hfn : P.funcs[g]? = some fn) (hb : fn.body = some c) (hN : fn.ntmps = N)
 (h : Runs P G false nm c (args ++ List.replicate (N - args.length) .unk) ph fun e pe p => (e = .normal ∨ e = .ret) ∧ ∃ v, gK P fn pe p = some v ∧ R v p) :
 qB4 P G nm g args ph R := by
 refine .inr ⟨hent, fun Z H m q9R hp hbs hv => ?_⟩;refine uT.of hfn hb hN ?_
 have q9M : VRL P Z H (own m ph) (args ++ List.replicate (N - args.length) .unk) (q9R ++ List.replicate (N - q9R.length) undef) := by
  rw [hv.len];refine VRL.append hv ⟨by simp, fun i z v h1 h2 => ?_⟩;rw [zL2] at h1;split at h1
  ·cases h1; exact .unk
  ·cases h1
 refine (h Z H m _ hp hbs q9M).mono ?_;rintro o ⟨Z', m', env', ph', a1, b1, c1, d1, he, v, hr, hR⟩;refine ⟨he, ?_⟩;obtain ⟨u, v1, v2⟩ := qAH a1 b1 hr;exact ⟨u, v1, Z', m', v, ph', a1, v2, c1, d1, hR⟩
def rtS (P : Program) (ty : TypeId) : SV -> Option SV
 | .d t x => cond (t.one && t.nol) (some (.d t x)) none
 | .c (.slice none 0 0) => match zP P ty with
   | some el => (match qDL P 8 el with
     | some t => some (.d (.list el t) [])
     | none => none)
   | none => none
 | .c (.int k x) => some (.c (.int k x))
 | .c .nilIface => some (.c .nilIface)
 | .c (.bool b) => some (.c (.bool b))
 | .c (.string b) => some (.c (.string b))
 | .own k g n => some (.own k g n)
 | .sl k g n o m => some (.sl k g n o m)
 | .ref k o w => some (.ref k o w)
 | .elt k g n w j o => some (.elt k g n w j o)
 | .lp t xs j o => some (.lp t xs j o)
 | .fn f a b => some (.fn f a b)
 | _ => none
def q6Q (P : Program) : List TypeId -> List SV -> Option (List SV)
 | ty :: tys, v :: l => (match cond (Gc.ol ty) (some v) (rtS P ty v), q6Q P tys l with
   | some x, some y => some (x :: y)
   | _, _ => none)
 | [], l => some l
 | _ :: _, [] => some []
def q72 (P : Program) (ty : TypeId) : SV -> Option SV
 | .agg l => (match q6Q P (vC P 8 ty) l with
   | some l' => some (.agg l')
   | none => none)
 | v => rtS P ty v
theorem qOQ {ty : TypeId} {v v' : SV} (e : rtS P ty v = some v') : (rt1 P ty v.enc = v'.enc ∧ rt0 P ty v.enc = v'.enc) ∧ ∀ h, v.ok h -> v'.ok h := by
 unfold rtS at e;split at e
 ·rename_i t x
  cases ht : (t.one && t.nol) with
  | true =>
    rw [ht] at e;cases e
    refine ⟨⟨?_, ?_⟩, fun h hv => hv⟩ <;>
    ·simp only [SV.enc];exact sN ht
  | false => rw [ht] at e; cases e
 ·split at e
  ·rename_i el hel;split at e
   ·rename_i t ht;cases e
    refine ⟨⟨?_, ?_⟩, fun h _ => by simp [SV.ok]⟩ <;>
    ·simp only [SV.enc, fvv]
     show (match zP P ty with
      | some el => PV.f (.l el 0 [])
      | none => fvv (.slice none 0 0)) = _
     rw [hel];rfl
   ·cases e
  ·cases e
 all_goals first
  | (cases e; exact ⟨⟨by simp only [SV.enc]; rfl, by simp only [SV.enc]; rfl⟩, fun h hv => hv⟩)
  | cases e
theorem qUG : ∀ {tys : List TypeId} {l l' : List SV}, q6Q P tys l = some l' -> rtL (rtC P) tys (qB l) = qB l' ∧ ∀ h, okL h l -> okL h l'
 | [], l, l', e => by
   have e : some l = some l' := by cases l <;> exact e
   cases e;exact ⟨by cases qB l <;> rfl, fun _ h => h⟩
 | ty :: tys, [], l', e => by
   cases e;exact ⟨by simp [qB, rtL], fun _ h => h⟩
 | ty :: tys, v :: l, l', e => by
   unfold q6Q at e;split at e
   ·rename_i x y hx hy;cases e;obtain ⟨b1, b2⟩ := qUG hy
    have hv : rtC P ty v.enc = x.enc ∧ ∀ h, v.ok h -> x.ok h := by
     unfold rtC
     cases hc : Gc.ol ty with
     | true => rw [hc] at hx; cases hx; exact ⟨rfl, fun _ h => h⟩
     | false => rw [hc] at hx; exact ⟨(qOQ hx).1.2, (qOQ hx).2⟩
    refine ⟨?_, fun h hl => ?_⟩
    ·simp only [qB, rtL, hv.1, b1]
    ·simp only [okL] at hl ⊢;exact ⟨hv.2 h hl.1, b2 h hl.2⟩
   ·cases e
theorem q03 {ty : TypeId} {v v' : SV} (e : q72 P ty v = some v') : rt1 P ty v.enc = v'.enc ∧ ∀ h, v.ok h -> v'.ok h := by
 unfold q72 at e;split at e
 ·rename_i l;split at e
  ·rename_i l' hl;cases e;obtain ⟨a1, a2⟩ := qUG hl;refine ⟨?_, fun h hv => ?_⟩
   ·simp only [SV.enc];show PV.agg (rtL (rtC P) (vC P 8 ty) (qB l)) = _;rw [a1]
   ·simp only [SV.ok] at hv ⊢;exact a2 h hv
  ·cases e
 ·exact ⟨(qOQ e).1.1, (qOQ e).2⟩
def q4A (P : Program) : List TypeId -> List SV -> Option (List SV)
 | _, [] => some []
 | ty :: tys, v :: l => (match q72 P ty v, q4A P tys l with
   | some x, some y => some (x :: y)
   | _, _ => none)
 | [], _ :: _ => none
theorem qVF : ∀ {tys : List TypeId} {l l' : List SV}, q4A P tys l = some l' -> rtL (rt1 P) tys (qB l) = qB l' ∧ ∀ h, okL h l -> okL h l'
 | tys, [], l', e => by
   have : some [] = some l' := by cases tys <;> exact e
   cases this;exact ⟨by cases tys <;> simp [qB, rtL], fun h hl => hl⟩
 | ty :: tys, v :: l, l', e => by
   unfold q4A at e;split at e
   ·rename_i x y hx hy;cases e;obtain ⟨a1, a2⟩ := q03 hx;obtain ⟨b1, b2⟩ := qVF hy;refine ⟨?_, fun h hl => ?_⟩
    ·simp only [qB, rtL, a1, b1]
    ·simp only [okL] at hl ⊢;exact ⟨a2 h hl.1, b2 h hl.2⟩
   ·cases e
 | [], _ :: _, _, e => by cases e
def qQR : List SV -> SV
 | [v] => v
 | vs => .tup vs
def q76 {R : Type} (P : Program) (zBK : List TypeId) (rl : List Nat) (K : SV -> SH -> q9D R) : uE none R := fun e _ env h => match e with
 | .normal => (match qGW rl env with
   | some vs => (match q4A P zBK vs with
     | some ws => K (qQR ws) h
     | none => .fail)
   | none => .fail)
 | .ret => (match qGW rl env with
   | some vs => (match q4A P zBK vs with
     | some ws => K (qQR ws) h
     | none => .fail)
   | none => .fail)
 | _ => .fail
def q3J : List ResultVar -> Option (List Nat)
 | [] => some []
 | .tmp t :: l => (q3J l).map (t :: ·)
 | .cell _ _ :: _ => none
omit [Yl] in
theorem qIH {env : List PV} {ph : PHp} : ∀ {l : List ResultVar} {rl : List Nat}, q3J l = some rl -> qEY P env ph l = some (rl.map fun t => (zA env t).getD .unk)
 | [], rl, e => by cases e; rfl
 | .tmp t :: l, rl, e => by
   obtain ⟨rl', h1, rfl⟩ := zJF.1 e;simp only [qEY, qV5, qIH h1, zJM]
 | .cell _ _ :: _, rl, e => by cases e
abbrev Ans := List (FuncId × (An × List Ty))
def ciN [Hnd] (P : Program) (G : Nat -> Bool) (T : jE) (IT : List (FuncId × q91)) (ans : Ans) : Nat -> CIT
 | 0 => fun R nm f as h K => q6X P f as h K (Hnd.ci R nm f as h K)
 | n + 1 => fun R nm f as h K => match P.funcs[f]?, lkA f ans with
   | some fn, some (an, rs) => (match fn.body, q3J fn.results.toList with
     | some c, some rl => cond (enters P f && Nat.ble as.length fn.ntmps) (ev (Γ := none) P G T IT (ciN P G T IT ans n) yi0 an (rdR P h fn.resultTypes.toList rs fn.results.toList) (enR fn.ntmps fn.results.toList rs) h c false nm () (as ++ List.replicate (fn.ntmps - as.length) .unk) h (q76 P fn.resultTypes.toList rl K)) .fail
     | _, _ => .fail)
   | _, _ => q6X P f as h K (Hnd.ci R nm f as h K)
theorem qU3 {R : Type} {nm : Nm} {f : FuncId} {as : List SV} {h : SH} {K : SV -> SH -> q9D R} {F : q9D R} {r : R} (ho : OkH P h) (e : (q6X P f as h K F).run = some r) :
 qB4 P G nm f (qB as) (qD h.l) (fun v p => ∃ v' h', v = v'.enc ∧ p = qD h'.l ∧ Post P h h' v' ∧ (K v' h').run = some r) ∨ F.run = some r := by
 have go : ∀ {x y : SV} {s : ByteArray} {c z : Int}, asS x = some s -> asI y = some (.u8, c) -> qLI P f = true ∧ zY P (callFunc f #[.string s, .int .u8 c]) = some (.value (.int .i64 z)) -> (K (.d (.int .i64) z) h).run = some r ->
  qB4 P G nm f (qB [x, y]) (qD h.l) (fun v p => ∃ v' h', v = v'.enc ∧ p = qD h'.l ∧ Post P h h' v' ∧ (K v' h').run = some r) := fun {x y s c z} hs hc hx hk => by
  refine .inl ⟨hx.1, [.string s, .int .u8 c], .int .i64 z, ?_, rfl, hx.2, rfl, _, h, ?_, rfl, ⟨.refl _, ho, ?_⟩, hk⟩
  ·simp only [qB, u6 hs, z8 hc]; rfl
  ·simp [SV.enc, Ty.fv]; rfl
  ·simp [SV.ok]
 have go3 : ∀ {x y z : SV} {a b c u v : Int}, asI x = some (.u64, a) -> asI y = some (.u64, b) -> asI z = some (.u64, c) -> qLI P f = true ∧ zY P (callFunc f #[.int .u64 a, .int .u64 b, .int .u64 c]) = some (.value (.tuple #[.int .u64 u, .int .u64 v])) -> (K (.tup [.d (.int .u64) u, .d (.int .u64) v]) h).run = some r ->
  qB4 P G nm f (qB [x, y, z]) (qD h.l) (fun v p => ∃ v' h', v = v'.enc ∧ p = qD h'.l ∧ Post P h h' v' ∧ (K v' h').run = some r) := fun {x y z a b c u v} ha hb hc hx hk => by
  refine .inl ⟨hx.1, [.int .u64 a, .int .u64 b, .int .u64 c], .tuple #[.int .u64 u, .int .u64 v], ?_, rfl, hx.2, rfl, _, h, ?_, rfl, ⟨.refl _, ho, ?_⟩, hk⟩
  ·simp only [qB, z8 ha, z8 hb, z8 hc]; rfl
  ·simp [SV.enc, qB, Ty.fv]; rfl
  ·simp [SV.ok, okL]
 unfold q6X at e;split at e
 ·rename_i x y hx;split at e
  ·rename_i s c hs hc;exact .inl (go hs hc (qU5 hx) e)
  ·cases e
 ·rename_i x y hx;split at e
  ·rename_i s c hs hc;exact .inl (go hs hc (qSW hx) e)
  ·cases e
 ·rename_i x y z hx;split at e
  ·rename_i a b c ha hb hc
   rcases run_ite e with ⟨q, e1⟩ | ⟨_, e1⟩
   ·exact .inl (go3 ha hb hc (q2R hx q) e1)
   ·cases e1
  ·cases e
 ·rename_i x y z hx;split at e
  ·rename_i a b c ha hb hc
   rcases run_ite e with ⟨q, e1⟩ | ⟨_, e1⟩
   ·exact .inl (go3 ha hb hc (q3P hx q) e1)
   ·cases e1
  ·cases e
 ·exact .inr e
theorem qOD {env : List SV} : ∀ {rl : List Nat} {vs : List SV}, qGW rl env = some vs -> (rl.map fun t => (zA (qB env) t).getD PV.unk) = qB vs
 | [], vs, e => by cases e; simp [qB]
 | i :: is, vs, e => by
   unfold qGW at e;split at e
   ·rename_i v l hx hl;cases e;rw [zJM, qOD hl, zD, hx];simp [qB]
   ·cases e
theorem qXV (l : List SV) : (qQR l).enc = qCB (qB l) := by
 match l with
 | [] => simp [qQR, qCB, SV.enc, qB]
 | [v] => simp [qQR, qCB, qB]
 | a :: b :: l => simp [qQR, qCB, SV.enc, qB]
omit [Yl] in
theorem q1N {h : SH} {l : List SV} (hl : okL h l) : (qQR l).ok h := by
 match l, hl with
 | [], hl => simp [qQR, SV.ok, okL]
 | [v], hl => simp only [okL] at hl; exact hl.1
 | a :: b :: l, hl => simp only [qQR, SV.ok]; exact hl
theorem qH1 [Hnd] [zAP P G] [q93 P G] (s : q97 P good nat G tab) (ht : qPV tab T) (hit : q15 P G IT) (ans : Ans) : ∀ n, qZV P G (ciN P G T IT ans n)
 | 0 => by
   intro nm f as h K r ho ha e;unfold ciN at e;rcases qU3 (nm := nm) ho e with h1 | h1
   ·exact h1
   ·exact zAP.ok (P := P) (G := G) nm f as h K r ho ha h1
 | n + 1 => by
   intro nm f as h K r ho ha e;unfold ciN at e;split at e
   case h_2 =>
    rcases qU3 (nm := nm) ho e with h1 | h1
    ·exact h1
    ·exact zAP.ok (P := P) (G := G) nm f as h K r ho ha h1
   rename_i fn an rs hfn hans;split at e
   case h_2 => cases e
   rename_i c rl hbody hrl;obtain ⟨hc, e⟩ := qE e;rw [zI5] at hc;have hal : as.length <= fn.ntmps := zJE hc.2
   have hlen : (as ++ List.replicate (fn.ntmps - as.length) SV.unk).length = fn.ntmps := by
    rw [zJW, zLN]; omega
   refine qWP hc.1 hfn hbody rfl ?_
   have q9M : qB as ++ List.replicate (fn.ntmps - (qB as).length) PV.unk = qB (as ++ List.replicate (fn.ntmps - as.length) .unk) := by
    rw [mI, qBK, qV]
   rw [q9M];refine (qO.runs (q26 (Γ := none) (wd := q63) s ht hit (qH1 s ht hit ans n) q8T (fun nm => qVG ho) c ho (fG ha (qGP _ _)) hlen (.refl _) e)).mono ?_;rintro ex pe ph ⟨env', h', rfl, rfl, k1, k2, k3, k0, k4, k5⟩
   have key : ∀ {vs ws : List SV}, qGW rl env' = some vs -> q4A P fn.resultTypes.toList vs = some ws -> (K (qQR ws) h').run = some r -> ∃ v, gK P fn (qB env') (qD h'.l) = some v ∧ ∃ v' h2, v = v'.enc ∧ qD h'.l = qD h2.l ∧ Post P h h2 v' ∧ (K v' h2).run = some r := fun {vs ws} hvs hws hk => by
    obtain ⟨a1, a2⟩ := qVF hws;refine ⟨(qQR ws).enc, ?_, qQR ws, h', rfl, rfl, ⟨k0, k2, q1N (a2 _ (zW.2 fun z hz => zW.1 k1 z (qFL hvs z hz)))⟩, hk⟩;unfold gK;rw [qIH hrl, qOD hvs, qXV, <- a1];rfl
   cases ex with
   | normal =>
     simp only [q76] at k5;split at k5
     ·split at k5
      ·exact ⟨.inl rfl, key ‹_› ‹_› k5⟩
      ·cases k5
     ·cases k5
   | ret =>
     simp only [q76] at k5;split at k5
     ·split at k5
      ·exact ⟨.inr rfl, key ‹_› ‹_› k5⟩
      ·cases k5
     ·cases k5
   | exit _ => cases k5
   | goto _ => cases k5
def q84 {γ : Type} : uE (some γ) γ := fun e g _ _ => match e with
 | .normal => some g
 | .ret => some g
 | _ => none
def fnI (P : Program) (G : Nat -> Bool) (T : jE) (IT : List (FuncId × q91)) (CI : CIT) (an : An) (as ys : List Ty) (yt : List TypeId) (fn : Func) (x : TyL as) (γ : Type) (stp : γ -> TyL ys -> Option (γ × Bool)) (g0 : γ) : Option γ := match fn.body with
 | some c => (ev (Γ := some γ) (rs := []) P G T IT CI ⟨ys, yt, stp⟩ an (rdR P ⟨0, []⟩ [] [] []) (enR fn.ntmps [] []) ⟨0, []⟩ c false nm0 g0 (.yv :: (qLE as x ++ List.replicate (fn.ntmps - (as.length + 1)) .unk)) ⟨0, []⟩ q84).run
 | none => none
end
noncomputable section
variable [Gc]
variable [Frs]
variable {P : Program} {G : Nat -> Bool} {nm : Nm} {tab : uF} {nat : yV} {good : FuncId -> Bool} {T : jE} {IT : List (FuncId × q91)}
theorem q05 [q93 P G] (s : q97 P good nat G tab) (ht : ∀ [Yl], qPV tab T) (hit : ∀ [Yl], q15 P G IT) {CI : [Yl] -> CIT} (hci : ∀ [Yl], qZV P G CI) {an : An} {as ys : List Ty} {yt : List TypeId} {f : FuncId} {fn : Func} {F : TyL as -> (γ : Type) -> (γ -> TyL ys -> Option (γ × Bool)) -> γ -> Option γ}
 (hent : entered P f = true) (hfn : P.funcs[f]? = some fn) (hc : (Nat.ble (as.length + 1) fn.ntmps && fn.results.toList.isEmpty) = true) (hF : ∀ (y : Yl) x γ stp g0, @fnI _ _ y P G T IT CI an as ys yt fn x γ stp g0 = F x γ stp g0) [Yl] : qZW P G f ⟨as, ys, yt, F⟩ := by
 refine ⟨hent, fun x γ stp g0 g1 hx w l hst Z H D us hz hb hgl hW hv => ?_⟩
 letI : Yl := ⟨l⟩
 have hx : F x γ stp g0 = some g1 := hx;rw [<- hF ⟨l⟩] at hx;unfold fnI at hx;split at hx
 case h_2 => cases hx
 rename_i c hbody;rw [zI5] at hc;have hal := zJE hc.1;have hres : fn.results = #[] := by simpa using hc.2
 have hlen : (SV.yv :: (qLE as x ++ List.replicate (fn.ntmps - (as.length + 1)) SV.unk)).length = fn.ntmps := by
  rw [zJN, zJW, qFZ, zLN]; omega
 have hok : okL ⟨0, []⟩ (SV.yv :: (qLE as x ++ List.replicate (fn.ntmps - (as.length + 1)) SV.unk)) := by
  simp only [okL];exact ⟨by simp [SV.ok], fG (qSB as x) (qGP _ _)⟩
 have hy : YOk P G (Γ := GV (some γ)) w ⟨ys, yt, stp⟩ := fun g y g' b h => hst g y g' b h
 have hrun := q26 (Γ := some γ) (wd := w) s ht hit hci hy (fun nm => qVG qAB) c qAB hok hlen (.refl _) hx;refine uT.of hfn hbody rfl ?_;have e0 : own (fun _ => 0) [] = fun _ => none := rfl
 have hp0 : Hp P Z H (own (fun _ => 0) []) := ⟨hz, fun k b ob hk => (by cases hk), fun k k' b b' ob ob' hk => (by cases hk), hgl⟩
 have q9M : VRL P Z H (own (fun _ => 0) []) (qB (SV.yv :: (qLE as x ++ List.replicate (fn.ntmps - (as.length + 1)) SV.unk))) ((.func (.yield l) #[] #[] :: us) ++ List.replicate (fn.ntmps - (Value.func (.yield l) #[] #[] :: us).length) undef) := by
  simp only [qB, mI, qFB, qBK, zK3];refine .cons .yl ?_;have hul : us.length = as.length := by rw [<- hv.len, <- qFB, qV, qFZ]
  rw [zJN, hul];refine VRL.append hv ⟨by simp, fun i z v h1 h2 => ?_⟩;rw [zL2] at h1;split at h1
  ·cases h1; exact .unk
  ·cases h1
 refine (hrun Z H (fun _ => 0) _ D ⟨hp0, q9M, hW, fun b _ => qCH b⟩ hb).mono ?_;rintro o ⟨Z', m', pe, ph, g', D', st, sd, kr, env', h', rfl, rfl, k1, k2, k3, k0, k4, k5⟩
 obtain ⟨he, hg⟩ : (o.e = .normal ∨ o.e = .ret) ∧ g' = g1 := by
  cases hoe : o.e with
  | normal => rw [hoe] at k5; exact ⟨.inl rfl, zJ5 k5⟩
  | ret => rw [hoe] at k5; exact ⟨.inr rfl, zJ5 k5⟩
  | exit _ => rw [hoe] at k5; cases k5
  | goto _ => rw [hoe] at k5; cases k5
 subst hg;refine ⟨he, .tuple #[], by unfold jK; rw [hres]; rfl, Z', D', st.hp.zlt, st.wd, ⟨sd.size, sd.base, sd.zle, fun b h1 h2 h3 => sd.keep b h1 h2 h3, fun b h1 h2 => sd.zAC b h1 h2, fun b h1 _ => absurd h1 (qCH b), sd.zAV⟩⟩
def Lib (P : Program) (good : FuncId -> Bool) (G : Nat -> Bool) (T : jE) (IT : List (FuncId × q91)) : Prop := ∃ nat tab, q97 P good nat G tab ∧ (∀ [Yl], qPV tab T) ∧ ∀ [Yl], q15 P G IT
theorem Lib.zAZ (L : Lib P good G T IT) (g : FuncId) (as rs : List Ty) (F : TyL as -> Option (TyL rs)) (hent : enters P g = true)
 (h : ∀ {nat : yV}, Setup P good nat G -> ∀ (x : TyL as) (y : TyL rs) (args : List Value) (H : IH), F x = some y -> (∃ Z : Nat -> Prop, VRL P Z H (fun _ => none) ((enL as).p x) args ∧ ∀ b, Z b -> b < H.size) -> H.base <= H.size -> GlH H -> uT P G g args H fun q => qY4 P (enL as) F (jZ rs) x args H q.1 q.2) : Lib P good G ((g, ⟨as, rs, F⟩) :: T) IT := by
 obtain ⟨nat, tab, s, ht, hit⟩ := L
 letI : Yl := ⟨0⟩
 refine ⟨_, _, s.zAZ (enL as) F (jZ rs) hent (qK1 rs) (h s.s), ?_, hit⟩;intro _ g' ent hg x;have hg : cond (Nat.beq g' g) (some (⟨as, rs, F⟩ : Ent)) (slT g' T) = some ent := hg;unfold q3Z
 cases hb : Nat.beq g' g with
 | true =>
   rw [hb] at hg;cases hg;exact qQ0 (a := enL as) x
 | false =>
   rw [hb] at hg;exact ht g' ent hg x
theorem Lib.add [Hnd] [zAP P G] [q93 P G] (L : Lib P good G T IT) (g : FuncId) (ans : Ans) (n : Nat) (an : An) (as rs : List Ty) (fn : Func) (F : TyL as -> Option (TyL rs)) (hent : enters P g = true) (hfn : P.funcs[g]? = some fn) (hc : qPT as rs fn = true)
 (hF : ∀ (y : Yl) x, @fnS _ _ y P G T IT (ciN P G T IT ans n) an as rs fn x = F x) : Lib P good G ((g, ⟨as, rs, F⟩) :: T) IT := by
 obtain ⟨nat, tab, s, ht, hit⟩ := L
 letI : Yl := ⟨0⟩
 have hF2 : fnS P G T IT (ciN P G T IT ans n) an as rs fn = F := funext fun x => hF ⟨0⟩ x
 have zC2 := q6I (an := an) (as := as) (rs := rs) s ht hit (qH1 s ht hit ans n) hfn hc;rw [hF2] at zC2;refine ⟨_, _, s.add (enL as) F (jZ rs) hent (qK1 rs) zC2, ?_, hit⟩;intro _ g' ent hg x;have hg : cond (Nat.beq g' g) (some (⟨as, rs, F⟩ : Ent)) (slT g' T) = some ent := hg;unfold q3Z
 cases hb : Nat.beq g' g with
 | true =>
   rw [hb] at hg;cases hg;exact qQ0 (a := enL as) x
 | false =>
   rw [hb] at hg;exact ht g' ent hg x
theorem Lib.zG5 [Hnd] [zAP P G] [q93 P G] (L : Lib P good G T IT) (f : FuncId) (ans : Ans) (n : Nat) (an : An) (as ys : List Ty) (yt : List TypeId) (fn : Func) (F : TyL as -> (γ : Type) -> (γ -> TyL ys -> Option (γ × Bool)) -> γ -> Option γ) (hent : entered P f = true) (hfn : P.funcs[f]? = some fn) (hc : (Nat.ble (as.length + 1) fn.ntmps && fn.results.toList.isEmpty) = true)
 (hF : ∀ (y : Yl) x γ stp g0, @fnI _ _ y P G T IT (ciN P G T IT ans n) an as ys yt fn x γ stp g0 = F x γ stp g0) : Lib P good G T ((f, ⟨as, ys, yt, F⟩) :: IT) := by
 obtain ⟨nat, tab, s, ht, hit⟩ := L;refine ⟨nat, tab, s, ht, ?_⟩;intro _ f' ent hg;have hg : cond (Nat.beq f' f) (some (⟨as, ys, yt, F⟩ : q91)) (slI f' IT) = some ent := hg
 cases hb : Nat.beq f' f with
 | true =>
   rw [hb] at hg;cases hg;rw [zI6 hb];exact q05 s ht hit (CI := ciN P G T IT ans n) (qH1 s ht hit ans n) hent hfn hc hF
 | false =>
   rw [hb] at hg;exact hit f' ent hg
theorem Lib.zG6 [Hnd] [zAP P G] [q93 P G] (L : Lib P good G T IT) (g : FuncId) (ans : Ans) (an : An) (as rs : List Ty) (fn : Func) (F : TyL as -> Option (TyL rs)) (hent : enters P g = true) (hfn : P.funcs[g]? = some fn) (hc : qPT as rs fn = true)
 (hF : (fun (y : Yl) (x : TyL as) => @fnS _ _ y P G T IT (ciN P G T IT ans 3) an as rs fn x) = fun (_ : Yl) x => F x) : Lib P good G ((g, ⟨as, rs, F⟩) :: T) IT := L.add g ans 3 an as rs fn F hent hfn hc fun y x => congrFun (congrFun hF y) x
theorem Lib.zFP [Hnd] [zAP P G] [q93 P G] (L : Lib P good G T IT) (f : FuncId) (ans : Ans) (an : An) (as ys : List Ty) (yt : List TypeId) (fn : Func) (F : TyL as -> (γ : Type) -> (γ -> TyL ys -> Option (γ × Bool)) -> γ -> Option γ) (hent : entered P f = true) (hfn : P.funcs[f]? = some fn) (hc : (Nat.ble (as.length + 1) fn.ntmps && fn.results.toList.isEmpty) = true)
 (hF : (fun (y : Yl) (x : TyL as) (γ : Type) (stp : γ -> TyL ys -> Option (γ × Bool)) (g0 : γ) => @fnI _ _ y P G T IT (ciN P G T IT ans 3) an as ys yt fn x γ stp g0) = fun (_ : Yl) x γ stp g0 => F x γ stp g0) : Lib P good G T ((f, ⟨as, ys, yt, F⟩) :: IT) :=
 L.zG5 f ans 3 an as ys yt fn F hent hfn hc fun y x γ stp g0 => congrFun (congrFun (congrFun (congrFun (congrFun hF y) x) γ) stp) g0
end
end Go.Sv
namespace Go.Sv
open Go.Idl
variable [Gc] {P : Program} {G : Nat -> Bool} {tab : uF} {nat : yV} {good : FuncId -> Bool}
theorem qVH {k : IntKind} : ∀ {cs : List FV}, cs.all (isK k) = true -> ∃ xs : List Int, cs = List.flatMap (Ty.int k).cells xs ∧ xs.length = cs.length
 | [], _ => ⟨[], rfl, rfl⟩
 | c :: cs, h => by
   rw [zKB, zI5] at h;obtain ⟨xs, h1, h2⟩ := qVH h.2;have hc := h.1;unfold isK at hc;split at hc
   ·rename_i k' x;have : k = k' := of_decide_eq_true hc;subst this;exact ⟨x :: xs, by rw [zJZ, <- h1]; rfl, by rw [zJN, zJN, h2]⟩
   ·cases hc
theorem q5N [Frs] (s : q97 P good nat G tab) (h : ∀ g el, Frs.fr g = some el -> enters P g = true ∧ qLI P g = false ∧ szT P el = some 1 ∧ tab g [.f (.l el 0 [])] = some (.f (.l el 0 [])) ∧
 ∀ (xs : List Int), xs ≠ [] -> Nat.ble xs.length 1048576 = true -> qB4 P G nm0 g [.f (.l el xs.length (List.flatMap (Ty.int Frs.fk).cells xs))] [] fun v p => ∃ k0, v = .own k0 xs.length 0 xs.length ∧ qA k0 p = some ⟨el, true, (List.flatMap (Ty.int Frs.fk).cells xs).map .f⟩) : q93 P G := by
 refine ⟨fun g el hg => ?_⟩;obtain ⟨h1, hx, hsz, h2, h3⟩ := h g el hg;refine ⟨h1, fun n cs hfo Z H q9R hp hb hv => ?_⟩;unfold qVS at hfo;rw [hsz] at hfo;simp only [zI5] at hfo;obtain ⟨f1, f2, _, f3⟩ := hfo;obtain ⟨xs, rfl, hlen⟩ := qVH f3
 have hn : n = xs.length := by
  have := zI6 f1;omega
 subst hn;by_cases hxs : xs = []
 ·subst hxs;obtain ⟨_, _, k, hk, hc⟩ := s.t g _ _ h2;intro args' f w hR hG ha;refine s.s.spec g k hk q9R args' H f w _ hR hG ha (hc Z H q9R hv hp.zlt hb hp.gl _ fun v H' Z' k1 k2 k3 k4 k5 => ?_);have hp2 : Hp P Z' H' (own (fun _ => 0) []) := hp.old k1 k2 k3 k4;exact ⟨Z', fun _ => 0, .f (.l el 0 []), [], hp2, k5, .old k1 k2 k4, .inl ⟨rfl, rfl⟩⟩
 ·rcases h3 xs hxs f2 with ⟨e, _⟩ | ⟨_, hc⟩
  ·rw [hx] at e; cases e
  ·refine (hc Z H (fun _ => 0) q9R hp hb hv).mono ?_;rintro r ⟨Z', m', pv, ph', a, b, c, d, k0, rfl, e⟩;refine ⟨Z', m', _, ph', a, b, c, .inr ⟨fun h => hxs (List.eq_nil_of_length_eq_zero h), k0, rfl, e⟩⟩
end Go.Sv
