/- A symbolic run, part two. Conditions: none. -/
import Derived.Test.YtjboddididohgaaGreatDoorSvA
set_option linter.all false
namespace Go.Sv
open Go.Idl
variable {env : List SV} {h : SH} {i s : Nat} {ob : PO} {ph ph' : PHp} {ty : TypeId} {v : SV} {x y : PV}
noncomputable section
variable [Gc]
variable [Yl]
variable {P : Program} {R : Type} {r : R} {G : Nat -> Bool} {nm : Nm} {rd : Bool}
def Wk (P : Program) (nm : Nm) (pe : List PV) (ph : PHp) (pe' : List PV) (ph' : PHp) : Prop :=
 ∀ (Z : Nat -> Prop) (H : IH) (m : Nat -> Nat) (vs : List Value), Hp P Z H (own m ph) -> VRL P Z H (own m ph) pe vs ->
  ∃ Z' m', Hp P Z' H (own m' ph') ∧ VRL P Z' H (own m' ph') pe' vs ∧ Step Z H (own m ph) Z' H (own m' ph') ∧ KR (inP nm) (own m ph) (own m' ph')
omit [Yl] in
theorem Wk.refl (pe : List PV) (ph : PHp) : Wk P nm pe ph pe ph := fun Z H m vs hp hv => ⟨Z, m, hp, hv, .refl _ _ _, .refl _ _⟩
omit [Yl] in
theorem Wk.trans {a b c : List PV} {p q s : PHp} (x : Wk P nm a p b q) (y : Wk P nm b q c s) : Wk P nm a p c s := fun Z H m vs hp hv => by
 obtain ⟨Z1, m1, a1, a2, a3, a4⟩ := x Z H m vs hp hv;obtain ⟨Z2, m2, b1, b2, b3, b4⟩ := y Z1 H m1 vs a1 a2;exact ⟨Z2, m2, b1, b2, a3.trans b3, a4.trans b4⟩
omit [Yl] in
theorem Wk.drop {a b : List PV} {p q : PHp} (hw : WkP a b) (hs : oK q p) : Wk P nm a p b q := fun Z H m vs hp hv => by
 have hf := Fz.drop hp hs;exact ⟨Z, m, hf.hp, hw.rel (hf.vrl hv), hf.step, hf.kr _⟩
omit [Yl] in
theorem qT6 : ∀ {l m : List PV}, l.length = m.length -> (∀ i, zC m i = zC l i ∨ zC m i = some .unk) -> WkP l m
 | [], [], _, _ => .nil
 | [], _ :: _, h, _ => by cases h
 | _ :: _, [], h, _ => by cases h
 | x :: l, y :: m, h, hi => by
   have ih := qT6 (l := l) (m := m) (by simpa using h) fun i => hi (i + 1)
   rcases hi 0 with q | q
   ·have q : some y = some x := q;cases q;exact .same ih
   ·have q : some y = some PV.unk := q;cases q;exact .any ih
def fzs (P : Program) : List (Nat × TypeId) -> List SV -> SH -> (List SV -> SH -> q98 R) -> q98 R
 | [], env, h, K => K env h
 | (i, ty) :: l, env, h, K => match zC env i, qD4 P 8 ty with
   | some v, some t => (match q37 P ty t v h with
     | some (x, h') => fzs P l (xA env i (t.sv x)) h' K
     | none => .fail)
   | _, _ => .fail
def jU (P : Program) (w : List Nat) (env : List SV) (h : SH) (env' : List SV) (h' : SH) : Prop :=
 okL h' env' ∧ OkH P h' ∧ Keep h h' ∧ (∀ i, i ∉ w -> zC (qB env') i = zC (qB env) i) ∧ env'.length = env.length
theorem jU.trans {w w2 : List Nat} {env zAG zA0 : List SV} {h h1 h2 : SH} (a : jU P w env h zAG h1) (b : jU P w2 zAG h1 zA0 h2) : jU P (w ++ w2) env h zA0 h2 :=
 ⟨b.1, b.2.1, a.2.2.1.trans b.2.2.1, fun i hi => by
   rw [zLJ, not_or] at hi
   exact (b.2.2.2.1 i hi.2).trans (a.2.2.2.1 i hi.1), b.2.2.2.2.trans a.2.2.2.2⟩
theorem jU.refl {env : List SV} {h : SH} (ho : OkH P h) (he : okL h env) : jU P [] env h env h := ⟨he, ho, .refl _, fun _ _ => rfl, rfl⟩
theorem jU.up {w w2 : List Nat} {zAG : List SV} {h1 : SH} (a : jU P w env h zAG h1) (hw : ∀ i ∈ w, i ∈ w2) : jU P w2 env h zAG h1 :=
 ⟨a.1, a.2.1, a.2.2.1, fun i hi => a.2.2.2.1 i fun q => hi (hw i q), a.2.2.2.2⟩
theorem o6 {j : Nat} (h : i ≠ j) : zC (qB (xA env i v)) j = zC (qB env) j := by
 rw [xV, zA, qF, qF, zK2, if_neg h]
theorem q57 {h' : SH} (hv : zC env i = some v) (hf : fzP P (qD h.l) v.enc = some (y, qD h'.l)) : Wk P nm (qB env) (qD h.l) (xA (qB env) i (rt1 P ty y)) (qD h'.l) := by
 intro Z H m vs hp hr
 have hi : (qB env)[i]? = some v.enc := by
  rw [qF] at hv;rw [qX, zKL, hv]; rfl
 obtain ⟨u, hu, hr2⟩ := hr.get hi;obtain ⟨Z', h1, h2⟩ := qJG hp hr2 hf;exact ⟨Z', m, h1.hp, (h1.vrl hr).slot hu (qDM (bE h2 (qO5 hf))), h1.step, h1.kr _⟩
theorem q0P : ∀ {l : List (Nat × TypeId)} {env : List SV} {h : SH} {K : List SV -> SH -> q98 R}, OkH P h -> okL h env -> (fzs P l env h K).run = some r ->
 ∃ env' h', Wk P nm (qB env) (qD h.l) (qB env') (qD h'.l) ∧ jU P (l.map (·.1)) env h env' h' ∧ (K env' h').run = some r
 | [], env, h, K, ho, he, e => ⟨env, h, .refl _ _, .refl ho he, e⟩
 | (i, ty) :: l, env, h, K, ho, he, e => by
   unfold fzs at e;split at e
   ·rename_i v t hv ht;split at e
    ·rename_i x h' hd;obtain ⟨y, a1, a2, a3, a4, _⟩ := qBE ho (dI he hv) hd;have hw := q57 (nm := nm) (ty := ty) hv a1;have hs : xA (qB env) i (rt1 P ty y) = qB (xA env i (t.sv x)) := by rw [xV, mO, a2]
     rw [hs] at hw;obtain ⟨env', h2, b1, b2, b3⟩ := q0P (l := l) a4 (xW (t := i) (v := t.sv x) (qL a3 he) (qJD t x)) e;refine ⟨env', h2, hw.trans b1, ?_, b3⟩
     have h0 : jU P [i] env h (xA env i (t.sv x)) h' := ⟨xW (qL a3 he) (qJD t x), a4, a3, fun j hj => o6 fun q => hj (by rw [q]; exact zM5 j), jE _ _ _⟩
     exact h0.trans b2
    ·cases e
   ·cases e
omit [Yl] in
theorem Wk.zHY {env : List PV} (i k : Nat) (el : TypeId) (hi : zC env i = some (fvv (.slice none 0 0))) (hs : szT P el = some (s + 1)) (hf : fresh nm k env ph = true) : Wk P nm env ph (xA env i (.own k 0 0 0)) ((k, ⟨el, true, []⟩) :: ph) := by
 intro Z H m q99 hp he;rw [qF] at hi;obtain ⟨v, hv, hr⟩ := he.get hi;have hvn : v = .slice none 0 0 := yM hr rfl;subst hvn;obtain ⟨f1, f2, f3⟩ := q41 nm hf;have hnew : own m ((k, ⟨el, true, []⟩) :: ph) k = some (m k, ⟨el, true, []⟩) := by simp [own, qA]
 have hold : ∀ j, j ≠ k -> own m ((k, ⟨el, true, []⟩) :: ph) j = own m ph j := fun j hj => by
  unfold own; rw [zW hj]
 have hkr : KR (fun j => j == k) (own m ph) (own m ((k, ⟨el, true, []⟩) :: ph)) := fun j b ob hk => by
  by_cases hj : j = k
  ·exact .inr (.inr (by simp [hj]))
  ·rw [hold j hj] at hk; exact .inl ⟨ob, hk, rfl, rfl, rfl⟩
 have mono : ∀ {xs : List PV} {vs : List Value}, VRL P Z H (own m ph) xs vs -> zY k xs = true -> VRL P Z H (own m ((k, ⟨el, true, []⟩) :: ph)) xs vs := fun h hn => h.mono (fun _ h => h) (zJ7 _) (fun _ _ _ => rfl) hkr fun j hj => by
  have : j = k := by simpa using hj
  subst this; exact hn
 have hp' : Hp P Z H (own m ((k, ⟨el, true, []⟩) :: ph)) := by
  refine ⟨hp.zlt, fun j b ob hk => ?_, fun j j' b b' ob ob' h1 h2 r1 r2 hne => ?_, hp.gl⟩
  ·by_cases hj : j = k
   ·subst hj; rw [hnew] at hk; cases hk; exact .inl ⟨rfl, rfl⟩
   ·rw [hold j hj] at hk
    rcases hp.obj j b ob hk with h | ⟨a1, a2, a3, a4⟩
    ·exact .inl h
    ·exact .inr ⟨a1, a2, a3, a4.mono rfl fun _ a5 => mono a5 (jM f3 (uF hk).1)⟩
  ·by_cases hj : j = k
   ·subst hj; rw [hnew] at h1; cases h1; exact absurd ⟨rfl, rfl⟩ r1
   ·by_cases hj' : j' = k
    ·subst hj'; rw [hnew] at h2; cases h2; exact absurd ⟨rfl, rfl⟩ r2
    ·rw [hold j hj] at h1; rw [hold j' hj'] at h2;exact hp.inj j j' b b' ob ob' h1 h2 r1 r2 hne
 have hown : VR P Z H (own m ((k, ⟨el, true, []⟩) :: ph)) (.own k 0 0 0) (.slice none 0 0) := .own rfl fun b ob hM => by
  rw [hnew] at hM; cases hM;exact ⟨s + 1, hs, by omega, by simp, fun _ => .inl ⟨rfl, rfl, rfl, rfl, rfl⟩⟩
 have hst : Step Z H (own m ph) Z H (own m ((k, ⟨el, true, []⟩) :: ph)) := ⟨zJ7 _, rfl, fun _ h => h, fun _ _ _ => rfl, fun b h _ => .inl h, fun b ⟨j, ob, h1, h2⟩ _ => by
  by_cases hj : j = k
  ·subst hj; rw [hnew] at h1; cases h1; exact absurd ⟨rfl, rfl⟩ h2
  ·rw [hold j hj] at h1; exact ⟨j, ob, h1, h2⟩⟩
 have hup : KR (inP nm) (own m ph) (own m ((k, ⟨el, true, []⟩) :: ph)) := hkr.up fun j hj => by
  have e : j = k := by simpa using hj
  rw [e]; exact f1
 exact ⟨Z, m, hp', (mono he f2).slot hv hown, hst, hup⟩
omit [Yl] in
theorem Wk.zGO {env : List PV} (kb i k : Nat) (el : TypeId) (hk : qA kb ph = some ob) (hsp : spec P ob.el = false) (hgr : ob.gr = false) (hi : zC ob.cs i = some (fvv (.slice none 0 0))) (hs : szT P el = some (s + 1)) (hf : fresh nm k env ph = true) (hne : k ≠ kb) :
 Wk P nm env ph env ((k, ⟨el, true, []⟩) :: kQ kb ⟨ob.el, false, xA ob.cs i (.own k 0 0 0)⟩ ph) := by
 intro Z H m q99 hp he;obtain ⟨f1, f2, f3⟩ := q41 nm hf;generalize zHZ : (k, (⟨el, true, []⟩ : PO)) :: kQ kb ⟨ob.el, false, xA ob.cs i (.own k 0 0 0)⟩ ph = ph'
 have hM' : ∀ j, own m ph' j = if j = k then some (m k, ⟨el, true, []⟩) else if j = kb then some (m kb, ⟨ob.el, false, xA ob.cs i (.own k 0 0 0)⟩) else own m ph j := fun j => by
  subst zHZ;unfold own;by_cases h1 : j = k
  ·subst h1; simp [qA]
  ·rw [if_neg h1, zW h1, qZ];by_cases h2 : j = kb
   ·subst h2; rw [if_pos ⟨rfl, by rw [hk]; rfl⟩, if_pos rfl]; rfl
   ·rw [if_neg (fun h => h2 h.1), if_neg h2]
 have hnew : own m ph' k = some (m k, ⟨el, true, []⟩) := by rw [hM', if_pos rfl]
 have zBR : own m ph' kb = some (m kb, ⟨ob.el, false, xA ob.cs i (.own k 0 0 0)⟩) := by rw [hM', if_neg hne.symm, if_pos rfl]
 have hold : ∀ j, j ≠ k -> j ≠ kb -> own m ph' j = own m ph j := fun j h1 h2 => by rw [hM', if_neg h1, if_neg h2]
 have hkM : own m ph kb = some (m kb, ob) := qN hk
 have hkr : KR (fun j => j == k) (own m ph) (own m ph') := fun j b o hj => by
  by_cases h1 : j = k
  ·exact .inr (.inr (by simp [h1]))
  ·by_cases h2 : j = kb
   ·subst h2;rw [zBR] at hj;cases hj;exact .inl ⟨ob, hkM, by simp [zA], rfl, hgr⟩
   ·rw [hold j h1 h2] at hj; exact .inl ⟨o, hj, rfl, rfl, rfl⟩
 have mono : ∀ {xs : List PV} {vs : List Value}, VRL P Z H (own m ph) xs vs -> zY k xs = true -> VRL P Z H (own m ph') xs vs := fun h hn => h.mono (fun _ h => h) (zJ7 _) (fun _ _ _ => rfl) hkr fun j hj => by
  have : j = k := by simpa using hj
  subst this; exact hn
 have hown : VR P Z H (own m ph') (.own k 0 0 0) (.slice none 0 0) := .own rfl fun b o hM => by
  rw [hnew] at hM; cases hM;exact ⟨s + 1, hs, by omega, by simp, fun _ => .inl ⟨rfl, rfl, rfl, rfl, rfl⟩⟩
 have zBA : ¬ (ob.gr = true ∧ ob.cs = []) := fun h => by rw [hgr] at h; cases h.1
 have hp' : Hp P Z H (own m ph') := by
  refine ⟨hp.zlt, fun j b o hj => ?_, fun j j' b b' o o' h1 h2 r1 r2 hn => ?_, hp.gl⟩
  ·by_cases h1 : j = k
   ·subst h1; rw [hnew] at hj; cases hj; exact .inl ⟨rfl, rfl⟩
   ·by_cases h2 : j = kb
    ·subst h2;rw [zBR] at hj; cases hj
     rcases hp.obj j _ ob hkM with h | ⟨a1, a2, a3, ⟨_, vs, a4, a5, a6⟩ | ⟨hs2, _⟩⟩
     rotate_right 1
     ·rw [hsp] at hs2; cases hs2
     ·exact absurd h zBA
     ·have hv := mono a5 (jM f3 hk);obtain ⟨v, hv1, hv2⟩ := a5.get (i := i) (by rw [<- qF]; exact hi);have : v = .slice none 0 0 := yM hv2 rfl;subst this;refine .inr ⟨a1, a2, a3, .inl ⟨hsp, vs, ?_, hv.slot hv1 hown, a6⟩⟩;rw [a4, hgr]
    ·rw [hold j h1 h2] at hj
     rcases hp.obj j b o hj with h | ⟨a1, a2, a3, a4⟩
     ·exact .inl h
     ·exact .inr ⟨a1, a2, a3, a4.mono rfl fun _ a5 => mono a5 (jM f3 (uF hj).1)⟩
  ·have tr : ∀ {j b o}, own m ph' j = some (b, o) -> ¬ (o.gr = true ∧ o.cs = []) -> ∃ o2, own m ph j = some (b, o2) ∧ ¬ (o2.gr = true ∧ o2.cs = []) := fun {j b o} hj hr => by
    by_cases h1 : j = k
    ·subst h1; rw [hnew] at hj; cases hj; exact absurd ⟨rfl, rfl⟩ hr
    ·by_cases h2 : j = kb
     ·subst h2; rw [zBR] at hj; cases hj; exact ⟨ob, hkM, zBA⟩
     ·rw [hold j h1 h2] at hj; exact ⟨o, hj, hr⟩
   obtain ⟨o2, q1, q2⟩ := tr h1 r1;obtain ⟨o3, q3, q4⟩ := tr h2 r2;exact hp.inj j j' b b' o2 o3 q1 q3 q2 q4 hn
 have hst : Step Z H (own m ph) Z H (own m ph') := ⟨zJ7 _, rfl, fun _ h => h, fun _ _ _ => rfl, fun b h _ => .inl h, fun b ⟨j, o, h1, h2⟩ _ => by
  by_cases e1 : j = k
  ·subst e1; rw [hnew] at h1; cases h1; exact absurd ⟨rfl, rfl⟩ h2
  ·by_cases e2 : j = kb
   ·subst e2; rw [zBR] at h1; cases h1; exact ⟨j, ob, hkM, zBA⟩
   ·rw [hold j e1 e2] at h1; exact ⟨j, o, h1, h2⟩⟩
 exact ⟨Z, m, hp', mono he f2, hst, hkr.up fun j hj => by
  have e : j = k := by simpa using hj
  rw [e]; exact f1⟩
def qDV : SV -> Bool
 | .c (.slice none 0 0) => true
 | _ => false
theorem qD1 (e : qDV v = true) : v.enc = fvv (.slice none 0 0) := by
 unfold qDV at e;split at e
 ·simp [SV.enc]
 ·cases e
def qQG (P : Program) (nm : Nm) : List (Nat × TypeId) -> List SV -> SH -> (List SV -> SH -> q98 R) -> q98 R
 | [], env, h, K => K env h
 | (i, el) :: l, env, h, K => match zC env i with
   | some v => cond (qDV v) (match szT P el, qD4 P 8 el with
     | some (s + 1), some t => cond (Nat.beq t.w (s + 1) && qC8 nm (nm.b + i) env h) (qQG P nm l (xA env i (.own (nm.b + i) h.next 0)) (h.new (nm.b + i) fun v => .list el true v v t []) K) .fail
     | _, _ => .fail) (qQG P nm l env h K)
   | none => .fail
theorem sF : ∀ {l : List (Nat × TypeId)} {env : List SV} {h : SH} {K : List SV -> SH -> q98 R}, OkH P h -> okL h env -> (qQG P nm l env h K).run = some r ->
 ∃ env' h', Wk P nm (qB env) (qD h.l) (qB env') (qD h'.l) ∧ jU P (l.map (·.1)) env h env' h' ∧ (K env' h').run = some r
 | [], env, h, K, ho, he, e => ⟨env, h, .refl _ _, .refl ho he, e⟩
 | (i, el) :: l, env, h, K, ho, he, e => by
   unfold qQG at e;split at e
   ·rename_i v hv
    cases hn : qDV v with
    | false =>
      rw [hn] at e;obtain ⟨env', h2, b1, b2, b3⟩ := sF (l := l) ho he e;exact ⟨env', h2, b1, b2.up fun j hj => zKD _ hj, b3⟩
    | true =>
      rw [hn] at e;simp only [cond_true] at e;split at e
      ·rename_i s t hs ht;obtain ⟨c, e1⟩ := qG e;rw [zJ5] at c;have hw : t.w = s + 1 := zJ6 c.1;have hn2 := xZ (k := nm.b + i) (f := fun v => .list el true v v t []) ho ⟨rfl, rfl, by rw [hs, hw], by omega⟩
       have hfr : fresh nm (nm.b + i) (qB env) (qD h.l) = true := by
        have c2 := c.2;unfold qC8 at c2;simp only [zJ5] at c2;unfold fresh;rw [c2.1, c2.2.1, wC c2.2.2]; rfl
       have hwk : Wk P nm (qB env) (qD h.l) (qB (xA env i (.own (nm.b + i) h.next 0))) (qD (h.new (nm.b + i) fun v => .list el true v v t []).l) := by
        have := Wk.zHY (P := P) (nm := nm) (ph := qD h.l) i (nm.b + i) el (by rw [zH, hv, zKJ, qD1 hn]) hs hfr;rw [xV];simpa [SV.enc, SH.new, qD, SO.enc] using this
       have hok : (SV.own (nm.b + i) h.next 0).ok (h.new (nm.b + i) fun v => .list el true v v t []) := vR (xs := ([] : List t.sem)) rfl;obtain ⟨env', h2, b1, b2, b3⟩ := sF (l := l) hn2.2 (xW (t := i) (qL hn2.1 he) hok) e1;refine ⟨env', h2, hwk.trans b1, ?_, b3⟩
       have h0 : jU P [i] env h (xA env i (.own (nm.b + i) h.next 0)) (h.new (nm.b + i) fun v => .list el true v v t []) := ⟨xW (qL hn2.1 he) hok, hn2.2, hn2.1, fun j hj => o6 fun q => hj (by rw [q]; exact zM5 j), jE _ _ _⟩
       exact h0.trans b2
      ·cases e
   ·cases e
omit [Yl] in
theorem qGD {f : PHp -> PV -> Option (FV × PHp)} (hf : ∀ ph x y ph', f ph x = some (y, ph') -> oK ph' ph) : ∀ {l : List PV} {ph ph' : PHp} {ys : List FV}, qDR f l ph = some (ys, ph') -> oK ph' ph
 | [], ph, ph', ys, h => by cases h; exact .refl _
 | x :: l, ph, ph', ys, h => by
   unfold qDR at h;split at h
   ·rename_i y ph1 h1;split at h
    ·rename_i zs ph2 h2;cases h;exact fun k ob q => hf _ _ _ _ h1 k ob (qGD hf h2 k ob q)
    ·cases h
   ·cases h
omit [Yl] in
theorem qMK : ∀ (n : Nat) (ph : PHp) (x : PV) (y : FV) (ph' : PHp), fz1 P n ph x = some (y, ph') -> oK ph' ph
 | 0, ph, x, y, ph', h => by
   cases x with
   | f x =>
     have h : some (x, ph) = some (y, ph') := h;cases h; exact .refl _
   | _ =>
     have h : (none : Option (FV × PHp)) = some (y, ph') := h;cases h
 | n + 1, ph, x, y, ph', h => by
   cases x with
   | f x =>
     have h : some (x, ph) = some (y, ph') := h;cases h; exact .refl _
   | own k t o c =>
     unfold fz1 at h;split at h
     case h_2 => cases h
     split at h
     case h_2 => cases h
     obtain ⟨_, h⟩ := xO h;split at h
     case h_2 => cases h
     rename_i hq;cases h
     exact fun j ob q => by
      have q1 := qGD (qMK n) hq j ob q;rw [xC] at q1;split at q1
      ·cases q1
      ·exact q1
   | _ =>
     have h : (none : Option (FV × PHp)) = some (y, ph') := h;cases h
omit [Yl] in
theorem q1T (h : fzP P ph x = some (y, ph')) : oK ph' ph := by
 unfold fzP at h;split at h
 ·split at h
  ·rename_i hq;cases h; exact qGD (qMK 4) hq
  ·cases h
 ·split at h
  ·rename_i hq;cases h; exact qMK 4 _ _ _ _ hq
  ·cases h
omit [Yl] in
theorem Wk.zH0 {env : List PV} (kb i : Nat) (ty : TypeId) (hk' : qA kb ph' = some ob) (hsp : spec P ob.el = false) (hgr : ob.gr = false) (hi : zC ob.cs i = some x) (hf : fzP P ph x = some (y, ph')) (hk : qA kb ph = some ob) :
 Wk P nm env ph env (kQ kb ⟨ob.el, false, xA ob.cs i (rt1 P ty y)⟩ ph') := by
 intro Z H m q99 hp he;have hkM : own m ph kb = some (m kb, ob) := qN hk;have zBA : ¬ (ob.gr = true ∧ ob.cs = []) := fun h => by rw [hgr] at h; cases h.1
 rcases hp.obj kb _ ob hkM with h | ⟨_, _, _, ⟨_, vs0, a40, a50, _⟩ | ⟨hs2, _⟩⟩
 rotate_right 1
 ·rw [hsp] at hs2; cases hs2
 ·exact absurd h zBA
 obtain ⟨v, hv1, hv2⟩ := a50.get (i := i) (by rw [<- qF]; exact hi);obtain ⟨Z', fz, hy⟩ := qJG hp hv2 hf;have hyr : ∀ M, VR P Z' H M (rt1 P ty y) v := fun M => qDM (bE hy (qO5 hf))
 have hp1 := fz.hp;have zEL : own m ph' kb = some (m kb, ob) := qN hk';generalize zH1 : kQ kb (⟨ob.el, false, xA ob.cs i (rt1 P ty y)⟩ : PO) ph' = ph2
 have hM' : ∀ j, own m ph2 j = if j = kb then some (m kb, ⟨ob.el, false, xA ob.cs i (rt1 P ty y)⟩) else own m ph' j := fun j => by
  subst zH1;unfold own;rw [qZ];by_cases h2 : j = kb
  ·subst h2; rw [if_pos ⟨rfl, by rw [hk']; rfl⟩, if_pos rfl]; rfl
  ·rw [if_neg (fun h => h2 h.1), if_neg h2]
 have zBR : own m ph2 kb = some (m kb, ⟨ob.el, false, xA ob.cs i (rt1 P ty y)⟩) := by rw [hM', if_pos rfl]
 have hold : ∀ j, j ≠ kb -> own m ph2 j = own m ph' j := fun j h2 => by rw [hM', if_neg h2]
 have hkr : ∀ p, KR p (own m ph') (own m ph2) := fun p j b o hj => by
  by_cases h2 : j = kb
  ·subst h2;rw [zBR] at hj;cases hj;exact .inl ⟨ob, zEL, by simp [zA], rfl, hgr⟩
  ·rw [hold j h2] at hj; exact .inl ⟨o, hj, rfl, rfl, rfl⟩
 have mono : ∀ {xs : List PV} {vs : List Value}, VRL P Z' H (own m ph') xs vs -> VRL P Z' H (own m ph2) xs vs := fun h => h.mono (fun _ h => h) (zJ7 _) (fun _ _ _ => rfl) (hkr fun _ => false) fun j hj => by cases hj
 have hp' : Hp P Z' H (own m ph2) := by
  refine ⟨hp1.zlt, fun j b o hj => ?_, fun j j' b b' o o' h1 h2 r1 r2 hn => ?_, hp1.gl⟩
  ·by_cases h2 : j = kb
   ·subst h2;rw [zBR] at hj; cases hj
    rcases hp1.obj j _ ob zEL with h | ⟨a1, a2, a3, ⟨_, vs, a4, a5, a6⟩ | ⟨hs2, _⟩⟩
    rotate_right 1
    ·rw [hsp] at hs2; cases hs2
    ·exact absurd h zBA
    ·have hv := mono a5
     have hvv : vs = vs0 := by
      rw [a40] at a4;injection a4 with e1;injection e1 with e2;injection e2 with e3;exact e3.symm
     subst hvv;refine .inr ⟨a1, a2, a3, .inl ⟨hsp, vs, ?_, hv.slot hv1 (hyr _), a6⟩⟩;rw [a4, hgr]
   ·rw [hold j h2] at hj
    rcases hp1.obj j b o hj with h | ⟨a1, a2, a3, a4⟩
    ·exact .inl h
    ·exact .inr ⟨a1, a2, a3, a4.mono rfl fun _ a5 => mono a5⟩
  ·have tr : ∀ {j b o}, own m ph2 j = some (b, o) -> ¬ (o.gr = true ∧ o.cs = []) -> ∃ o2, own m ph' j = some (b, o2) ∧ ¬ (o2.gr = true ∧ o2.cs = []) := fun {j b o} hj hr => by
    by_cases h2 : j = kb
    ·subst h2; rw [zBR] at hj; cases hj; exact ⟨ob, zEL, zBA⟩
    ·rw [hold j h2] at hj; exact ⟨o, hj, hr⟩
   obtain ⟨o2, q1, q2⟩ := tr h1 r1;obtain ⟨o3, q3, q4⟩ := tr h2 r2;exact hp1.inj j j' b b' o2 o3 q1 q3 q2 q4 hn
 have hst : Step Z' H (own m ph') Z' H (own m ph2) := ⟨zJ7 _, rfl, fun _ h => h, fun _ _ _ => rfl, fun b h _ => .inl h, fun b ⟨j, o, h1, h2⟩ _ => by
  by_cases e2 : j = kb
  ·subst e2; rw [zBR] at h1; cases h1; exact ⟨j, ob, zEL, zBA⟩
  ·rw [hold j e2] at h1; exact ⟨j, o, h1, h2⟩⟩
 exact ⟨Z', m, hp', mono (fz.vrl he), fz.step.trans hst, (fz.kr _).trans (hkr _)⟩
def q7M (P : Program) (i c : Nat) (ty : TypeId) (env : List SV) (h : SH) (K : List SV -> SH -> q98 R) : q98 R := match zC env i, qD4 P 8 ty with
 | some (.ref kb _ _), some t => (match slk kb h.l with
   | some (.cells _ _ cs) => (match zC cs c with
     | some v => (match q37 P ty t v h with
       | some (x, h') => (match slk kb h'.l with
         | some (.cells e _ cs') => cond (!spec P e) (K env (h'.put kb fun v => .cells e v (xA cs' c (t.sv x)))) .fail
         | _ => .fail)
       | none => .fail)
     | none => .fail)
   | _ => .fail)
 | _, _ => .fail
theorem q3D {c : Nat} {K : List SV -> SH -> q98 R} (ho : OkH P h) (he : okL h env) (e : (q7M P i c ty env h K).run = some r) :
 ∃ env' h', Wk P nm (qB env) (qD h.l) (qB env') (qD h'.l) ∧ jU P [i] env h env' h' ∧ (K env' h').run = some r := by
 unfold q7M at e;split at e
 case h_2 => cases e
 rename_i kb _ _ t hi ht;split at e
 case h_2 => cases e
 rename_i eb wb cs hkb;split at e
 case h_2 => cases e
 rename_i v hv;split at e
 case h_2 => cases e
 rename_i x h' hd;split at e
 case h_2 => cases e
 rename_i e2 w2 cs2 hkb2;obtain ⟨hc, e1⟩ := qG e;have hvk : v.ok h := dI (ho.cells _ _ _ _ hkb) hv;obtain ⟨y, a1, a2, a3, a4, _⟩ := qBE ho hvk hd;have hsp : spec P e2 = false := by simpa using hc
 have hp2 := fZ (k := kb) (f := fun v => .cells e2 v (xA cs2 c (t.sv x))) a4 hkb2 ⟨rfl, xW (a4.cells _ _ _ _ hkb2) (qJD t x)⟩;have hk2 := y5 hkb2;have hk1 := y5 hkb;have hsub := q1T a1 kb _ hk2
 have hcs : qB cs2 = qB cs := by
  rw [hk1] at hsub;injection hsub with q;injection q with q1 q2 q3;exact q3.symm
 refine ⟨env, h'.put kb fun v => .cells e2 v (xA cs2 c (t.sv x)), ?_, ⟨qL hp2.1 (qL a3 he), hp2.2, a3.trans hp2.1, fun _ _ => rfl, rfl⟩, e1⟩
 have := Wk.zH0 (P := P) (nm := nm) (env := qB env) kb c ty hk2 hsp rfl (x := v.enc) (by
  show zC (qB cs2) c = _
  rw [hcs, zH, hv]; rfl) a1 hsub
 refine this.trans ?_
 have he2 : kQ kb ⟨(SO.cells e2 w2 cs2).enc.el, false, xA (SO.cells e2 w2 cs2).enc.cs c (rt1 P ty y)⟩ (qD h'.l) = qD ((h'.put kb fun v => .cells e2 v (xA cs2 c (t.sv x))).l) := by
  show _ = qD (sst kb _ h'.l);rw [vH];simp [SO.enc, xV, mO, a2]
 rw [he2];exact .refl _ _
def q7R (i : Nat) (env : List SV) (h : SH) (K : List SV -> SH -> q98 R) : q98 R := match zC env i with
 | some (.d (.list el (.int k)) xs) => .ite (List.isEmpty xs) .fail (K (xA env i (.d (.ol el k) xs)) h)
 | _ => .fail
theorem q4D {K : List SV -> SH -> q98 R} (ho : OkH P h) (he : okL h env) (e : (q7R i env h K).run = some r) :
 ∃ env' h', Wk P nm (qB env) (qD h.l) (qB env') (qD h'.l) ∧ jU P [i] env h env' h' ∧ (K env' h').run = some r := by
 unfold q7R at e;split at e
 ·rename_i el k xs hi
  rcases run_ite e with ⟨_, e1⟩ | ⟨hx, e1⟩
  ·cases e1
  ·refine ⟨_, h, ?_, ⟨xW he (by simp [SV.ok]), ho, .refl _, fun j hj => o6 fun q => hj (by rw [q]; exact zM5 j), jE _ _ _⟩, e1⟩
   have : qB (xA env i (.d (.ol el k) xs)) = qB env := by
    rw [xV]
    have h2 : (SV.d (.ol el k) xs).enc = (SV.d (.list el (.int k)) xs).enc := by
     cases xs with
     | nil => cases hx
     | cons x xs => simp [SV.enc, Ty.fv, fvo, Ty.cells]
    rw [h2, zA]
    have h3 : (qB env)[i]? = some (SV.d (.list el (.int k)) xs).enc := by
     rw [<- qF, zH, hi]; rfl
    obtain ⟨h4, h5⟩ := zKA.1 h3;rw [<- h5, List.set_getElem_self]
   rw [this];exact .refl _ _
 ·cases e
def fzv (P : Program) (nm : Nm) : List (Nat × TypeId) -> List SV -> SH -> (List SV -> SH -> q98 R) -> q98 R
 | [], env, h, K => K env h
 | (i, ty) :: l, env, h, K => cond (Nat.ble 2000000000 ty) ((cond (Nat.ble 4000000000 ty) (cond (Nat.ble 5000000000 ty) (q7R i env h fun env h => fzv P nm l env h K) (q7M P i ((ty - 4000000000) / 100000) ((ty - 4000000000) % 100000) env h fun env h => fzv P nm l env h K)) .fail)) <| cond (Nat.ble 1000000000 ty) (qQG P nm [(i, ty - 1000000000)] env h fun env h => fzv P nm l env h K) (fzs P [(i, ty)] env h fun env h => fzv P nm l env h K)
theorem q0B : ∀ {l : List (Nat × TypeId)} {env : List SV} {h : SH} {K : List SV -> SH -> q98 R}, OkH P h -> okL h env -> (fzv P nm l env h K).run = some r ->
 ∃ env' h', Wk P nm (qB env) (qD h.l) (qB env') (qD h'.l) ∧ jU P (l.map (·.1)) env h env' h' ∧ (K env' h').run = some r
 | [], env, h, K, ho, he, e => ⟨env, h, .refl _ _, .refl ho he, e⟩
 | (i, ty) :: l, env, h, K, ho, he, e => by
   unfold fzv at e
   have go : ∀ {zAG h1}, Wk P nm (qB env) (qD h.l) (qB zAG) (qD h1.l) -> jU P [i] env h zAG h1 -> (fzv P nm l zAG h1 K).run = some r -> ∃ env' h', Wk P nm (qB env) (qD h.l) (qB env') (qD h'.l) ∧ jU P (((i, ty) :: l).map (·.1)) env h env' h' ∧ (K env' h').run = some r := fun a b e => by
    obtain ⟨env', h', c1, c2, c3⟩ := q0B (l := l) b.2.1 b.1 e;exact ⟨env', h', a.trans c1, b.trans c2, c3⟩
   cases hb2 : Nat.ble 2000000000 ty with
   | true =>
     rw [hb2] at e
     cases hb4 : Nat.ble 4000000000 ty with
     | true =>
       rw [hb4] at e
       cases hb5 : Nat.ble 5000000000 ty with
       | true =>
         rw [hb5] at e;have e : (q7R i env h fun env h => fzv P nm l env h K).run = some r := e;obtain ⟨zAG, h1, a, b, e1⟩ := q4D (nm := nm) ho he e;exact go a b e1
       | false =>
       rw [hb5] at e;have e : (q7M P i ((ty - 4000000000) / 100000) ((ty - 4000000000) % 100000) env h fun env h => fzv P nm l env h K).run = some r := e;obtain ⟨zAG, h1, a, b, e1⟩ := q3D (nm := nm) ho he e;exact go a b e1
     | false =>
       rw [hb4] at e;cases e
   | false =>
   rw [hb2] at e
   cases hb : Nat.ble 1000000000 ty with
   | true =>
     rw [hb] at e;obtain ⟨zAG, h1, a, b, e1⟩ := sF (nm := nm) ho he e;exact go a b e1
   | false =>
     rw [hb] at e;obtain ⟨zAG, h1, a, b, e1⟩ := q0P (nm := nm) ho he e;exact go a b e1
def qHQ (P : Program) (nm : Nm) : List (Nat × Nat × TypeId × Nat) -> List SV -> SH -> (List SV -> SH -> q98 R) -> q98 R
 | [], env, h, K => K env h
 | (kb, i, el, k) :: l, env, h, K => match slk kb h.l with
   | some (.cells e _ cs) => (match zC cs i with
     | some v => cond (qDV v) (match szT P el, qD4 P 8 el with
       | some (s + 1), some t => cond (Nat.beq t.w (s + 1) && (qC8 nm k env h && (!Nat.beq k kb && !spec P e))) (qHQ P nm l env ((h.new k fun v => .list el true v v t []).put kb fun v => .cells e v (xA cs i (.own k h.next 0))) K) .fail
       | _, _ => .fail) (qHQ P nm l env h K)
     | none => .fail)
   | _ => .fail
theorem tT : ∀ {l : List (Nat × Nat × TypeId × Nat)} {env : List SV} {h : SH} {K : List SV -> SH -> q98 R}, OkH P h -> okL h env -> (qHQ P nm l env h K).run = some r ->
 ∃ h', Wk P nm (qB env) (qD h.l) (qB env) (qD h'.l) ∧ Keep h h' ∧ OkH P h' ∧ (K env h').run = some r
 | [], env, h, K, ho, he, e => ⟨h, .refl _ _, .refl _, ho, e⟩
 | (kb, i, el, k) :: l, env, h, K, ho, he, e => by
   unfold qHQ at e;split at e
   case h_2 => cases e
   rename_i eb wb cs hkb;split at e
   case h_2 => cases e
   rename_i v hv
   cases hn : qDV v with
   | false =>
     rw [hn] at e;exact tT (l := l) ho he e
   | true =>
     rw [hn] at e;simp only [cond_true] at e;split at e
     case h_2 => cases e
     rename_i s t hs ht;obtain ⟨c, e1⟩ := qG e;simp only [zJ5] at c;have hw : t.w = s + 1 := zJ6 c.1
     have hne : k ≠ kb := fun q => by
      have := c.2.2.1;rw [q, rF] at this;cases this
     have hsp : spec P eb = false := by simpa using c.2.2.2
     have hn2 := xZ (k := k) (f := fun v => .list el true v v t []) ho ⟨rfl, rfl, by rw [hs, hw], by omega⟩;have hok : (SV.own k h.next 0).ok (h.new k fun v => .list el true v v t []) := vR (xs := ([] : List t.sem)) rfl
     have zH2 : slk kb (h.new k fun v => .list el true v v t []).l = some (.cells eb wb cs) := by
      rw [show slk kb (h.new k fun v => .list el true v v t []).l = slk kb h.l from yC hne.symm]; exact hkb
     have hcs : okL (h.new k fun v => .list el true v v t []) cs := qL hn2.1 (ho.cells _ _ _ _ hkb);have hp2 := fZ (k := kb) (f := fun v => .cells eb v (xA cs i (.own k h.next 0))) hn2.2 zH2 ⟨rfl, xW hcs hok⟩
     have hfr : fresh nm k (qB env) (qD h.l) = true := by
      have c2 := c.2.1;unfold qC8 at c2;simp only [zJ5] at c2;unfold fresh;rw [c2.1, c2.2.1, wC c2.2.2]; rfl
     obtain ⟨h', b1, b2, b3, b4⟩ := tT (l := l) hp2.2 (qL hp2.1 (qL hn2.1 he)) e1;refine ⟨h', ?_, hn2.1.trans (hp2.1.trans b2), b3, b4⟩;have hk := y5 hkb
     have := Wk.zGO (P := P) (nm := nm) (env := qB env) kb i k el hk hsp rfl (by
      show zC (qB cs) i = _
      rw [zH, hv, zKJ, qD1 hn]) hs hfr hne
     refine Wk.trans this ?_
     have he2 : (k, (⟨el, true, []⟩ : PO)) :: kQ kb ⟨(SO.cells eb wb cs).enc.el, false, xA (SO.cells eb wb cs).enc.cs i (.own k 0 0 0)⟩ (qD h.l) = qD (((h.new k fun v => .list el true v v t []).put kb fun v => .cells eb v (xA cs i (.own k h.next 0))).l) := by
      show _ = qD (sst kb _ ((k, _) :: h.l));have : (kb == k) = false := by simpa using hne.symm
      show _ = qD (cond (kb == k) _ ((k, _) :: sst kb _ h.l));rw [this];show _ = (k, _) :: qD (sst kb _ h.l);rw [vH];simp [SO.enc, xV, SV.enc]
     rw [he2];exact b1
def qEQ (P : Program) : List Nat -> SH -> SH
 | [], h => h
 | kb :: l, h => match slk kb h.l with
   | some (.cells el _ cs) => (match qD4 P 8 el with
     | some t => (match t.zCR cs with
       | some x => qEQ P l (h.put kb fun v => .cells el v (t.svs x))
       | none => qEQ P l h)
     | none => qEQ P l h)
   | _ => qEQ P l h
theorem eX : ∀ {bs : List Nat} {h : SH}, OkH P h -> Keep h (qEQ P bs h) ∧ OkH P (qEQ P bs h) ∧ ∀ l, qA l (qD (qEQ P bs h).l) = qA l (qD h.l)
 | [], h, ho => ⟨.refl _, ho, fun _ => rfl⟩
 | kb :: bs, h, ho => by
   unfold qEQ;split
   ·rename_i el w cs hk;split
    ·rename_i t ht;split
     ·rename_i x hx;have hp := fZ (k := kb) (f := fun v => .cells el v (t.svs x)) ho hk ⟨rfl, qD6 t x⟩;obtain ⟨a1, a2, a3⟩ := eX (bs := bs) hp.2;refine ⟨hp.1.trans a1, a2, fun l => (a3 l).trans ?_⟩;show qA l (qD (sst kb _ h.l)) = _;rw [vH, qZ];split
      ·rename_i e;rw [e.1, y5 hk];show some (⟨el, false, qB (t.svs x)⟩ : PO) = some ⟨el, false, qB cs⟩;rw [gI, mJ hx]
      ·rfl
     ·exact eX (bs := bs) ho
    ·exact eX (bs := bs) ho
   ·exact eX (bs := bs) ho
omit [Yl] in
theorem Wk.ext {pe : List PV} {a b : PHp} (h : ∀ l, qA l b = qA l a) : Wk P nm pe a pe b := fun Z H m vs hp hv => by
 have e : own m b = own m a := qAX h;exact ⟨Z, m, by rw [e]; exact hp, by rw [e]; exact hv, by rw [e]; exact .refl _ _ _, by rw [e]; exact .refl _ _⟩
def qR3 (P : Program) (nm : Nm) (bs : List Nat) (bv : List (Nat × Nat × TypeId × Nat)) (env : List SV) (h : SH) (K : List SV -> SH -> q98 R) : q98 R := qHQ P nm bv env h fun env h => K env (qEQ P bs h)
theorem qJ4 {bs : List Nat} {l : List (Nat × Nat × TypeId × Nat)} {K : List SV -> SH -> q98 R} (ho : OkH P h) (he : okL h env) (e : (qR3 P nm bs l env h K).run = some r) :
 ∃ h', Wk P nm (qB env) (qD h.l) (qB env) (qD h'.l) ∧ Keep h h' ∧ OkH P h' ∧ (K env h').run = some r := by
 obtain ⟨h', a1, a2, a3, a4⟩ := tT (nm := nm) ho he e;obtain ⟨b1, b2, b3⟩ := eX (bs := bs) a3;exact ⟨_, a1.trans (.ext b3), a2.trans b1, b2, a4⟩
end
end Go.Sv
namespace Go.Sv
open Go.Idl
noncomputable section
variable [Gc]
variable [Yl]
variable {P : Program} {R : Type} {r : R} {nm : Nm}
def q81 : SV -> Option Ty
 | .d t _ => cond t.one (some t) none
 | .c (.int k _) => some (.int k)
 | .c (.bool _) => some .bool
 | .c (.string _) => some .str
 | _ => none
def tyV : SV -> Option Ty
 | .agg l => tyL (l.map q81)
 | v => q81 v
def q8Y : List SV -> Option (List Ty)
 | [] => some []
 | v :: l => match tyV v, q8Y l with
   | some t, some ts => some (t :: ts)
   | _, _ => none
def q7F (t : Ty) (v : SV) : Option t.sem := cond t.one (t.zEJ v) (match v with
 | .agg l => t.zCR l
 | _ => none)
theorem qN4 {t : Ty} {v : SV} {x : t.sem} (e : q7F t v = some x) : v.enc = t.pv x := by
 unfold q7F at e;unfold Ty.pv
 cases ht : t.one with
 | true => rw [ht] at e; exact (sD e).1
 | false =>
   rw [ht] at e;simp only [cond_false] at e ⊢;split at e
   ·simp only [SV.enc, mJ e]
   ·cases e
def qCL : (ts : List Ty) -> List SV -> Option (TyL ts)
 | [], [] => some ()
 | [t], [v] => q7F t v
 | t :: u :: ts, v :: vs => match q7F t v with
   | some x => (match qCL (u :: ts) vs with
     | some y => some (x, y)
     | none => none)
   | none => none
 | _, _ => none
theorem mF : ∀ {ts : List Ty} {l : List SV} {s : TyL ts}, qCL ts l = some s -> qB l = qB (svL ts s)
 | [], [], s, e => by simp [svL]
 | [t], [v], s, e => by
   unfold qCL at e;simp only [svL, qB, mO, qN4 e]
 | t :: u :: ts, v :: vs, s, e => by
   unfold qCL at e;split at e
   ·rename_i x hx;split at e
    ·rename_i y hy;cases e;have ih := mF hy;show qB (v :: vs) = qB (t.sv x :: svL (u :: ts) y);simp only [qB, mO, qN4 hx, ih]
    ·cases e
   ·cases e
 | [], _ :: _, _, e => by cases e
 | t :: ts, [], _, e => by cases ts <;> (unfold qCL at e; cases e)
 | [_], _ :: _ :: _, _, e => by unfold qCL at e; cases e
def qIA : List Nat -> List SV -> Option (List SV)
 | [], _ => some []
 | i :: is, env => match zC env i, qIA is env with
   | some v, some l => some (v :: l)
   | _, _ => none
def spD : SpO -> Option SV
 | .map es => some (.d .raw es)
 | .iter s pos => some (.agg [.d .str s, .d (.int .i64) (pos : Int)])
 | .mit _ _ _ _ _ => none
def obD : SO -> Option (SV × Bool)
 | .list el gr _ _ u xs => cond (Nat.beq el 1000000001) none (some (.d (.list el u) xs, gr))
 | .spc _ x => (spD x).map fun v => (v, false)
 | .cells _ _ _ => none
def qWG : List Nat -> SH -> Option (List SV)
 | [], _ => some []
 | k :: ks, h => match slk k h.l, qWG ks h with
   | some ob, some l => (match obD ob with
     | some p => some (p.1 :: l)
     | none => none)
   | _, _ => none
def q19 : List Nat -> SH -> Option (List (Nat × Bool))
 | [], _ => some []
 | k :: ks, h => match slk k h.l, q19 ks h with
   | some ob, some l => (match obD ob with
     | some p => some ((k, p.2) :: l)
     | none => none)
   | _, _ => none
def qCU (i : Nat) : List Nat -> Bool
 | [] => false
 | j :: l => cond (Nat.beq i j) true (qCU i l)
omit [Yl] in
theorem wP {i : Nat} : ∀ {l : List Nat}, qCU i l = true ↔ i ∈ l
 | [] => by simp [qCU]
 | j :: l => by
   unfold qCU;rw [zKS]
   cases h : Nat.beq i j with
   | true => simp [zJ6 h]
   | false =>
     have : i ≠ j := fun e => by subst e; rw [rF] at h; cases h
     simp only [cond_false, wP (l := l), this, false_or]
def blank (W : List Nat) : Nat -> List SV -> List SV
 | _, [] => []
 | i, x :: l => cond (qCU i W) .unk x :: blank W (i + 1) l
omit [Yl] in
theorem tQ (W : List Nat) : ∀ (i : Nat) (l : List SV), (blank W i l).length = l.length
 | _, [] => rfl
 | i, x :: l => by simp [blank, tQ W (i + 1) l]
omit [Yl] in
theorem qB9 (W : List Nat) : ∀ (i j : Nat) (l : List SV), zC (blank W i l) j = (zC l j).map fun x => cond (qCU (i + j) W) SV.unk x
 | _, _, [] => rfl
 | i, 0, x :: l => rfl
 | i, j + 1, x :: l => by
   show zC (blank W (i + 1) l) j = (zC l j).map _;rw [qB9 W (i + 1) j l, zLY, zMZ 1 j]
omit [Yl] in
theorem qM5 {h : SH} {W : List Nat} : ∀ {i : Nat} {l : List SV}, okL h l -> okL h (blank W i l)
 | _, [], _ => by simp [blank, okL]
 | i, x :: l, hl => by
   simp only [okL] at hl;show okL h (cond (qCU i W) .unk x :: blank W (i + 1) l);simp only [okL];refine ⟨?_, qM5 hl.2⟩;cases qCU i W
   ·exact hl.1
   ·simp [SV.ok]
def dO : List Nat -> List SV -> List SV -> List SV × List SV
 | [], l, env => (env, l)
 | i :: is, c :: l, env => dO is l (xA env i c)
 | _ :: _, [], env => (env, [])
def q4W (P : Program) (gr : Bool) : SV -> Option (Nat -> SO)
 | .d (.list el u) xs => (match szT P el with
   | some n => cond (Nat.beq n u.w && (Nat.ble 1 n && !Nat.beq el 1000000001)) (some fun v => .list el gr v v u xs) none
   | none => none)
 | .d .raw es => some fun v => .spc v (.map es)
 | .agg [.d .str s, .d (.int .i64) p] => some fun v => .spc v (.iter s (Int.toNat p))
 | _ => none
def q1V (P : Program) : List (Nat × Bool) -> List SV -> SH -> Option SH
 | [], [] => fun h => some h
 | (k, gr) :: ks, c :: l => fun h => (match q4W P gr c with
   | some f => q1V P ks l ((h.del k).new k f)
   | none => none)
 | _, _ => fun _ => none
def mkM : Nat := 1000000000000000
def q0L : List (Nat × Nat) -> SH -> List SV -> Option (List SV)
 | [], _, env => some env
 | (i, k) :: l, h, env => cond (Nat.ble mkM k) (q0L l h (xA env i (.mp (k - mkM)))) (match slk k h.l with
   | some (.list _ _ g _ _ xs) => q0L l h (xA env i (.own k g (List.length xs)))
   | _ => none)
def q5X (j : Nat) : Bool := Nat.beq j 1000000000
def q8M (k w : Nat) : SV -> Option Bool
 | .ref k' off w' => cond (Nat.beq k k' && (Nat.beq off 0 && Nat.beq w w')) (some true) none
 | .c (.pointer none) => some false
 | .opt b k' off w' => cond (Nat.beq k k' && (Nat.beq off 0 && Nat.beq w w')) (some b) none
 | _ => none
theorem qY1 {k w : Nat} {v : SV} {b : Bool} (e : q8M k w v = some b) : v.enc = (SV.opt b k 0 w).enc := by
 have eqs : ∀ {k' off w' : Nat} {x y : Option Bool}, cond (Nat.beq k k' && (Nat.beq off 0 && Nat.beq w w')) x none = y -> y ≠ none -> k = k' ∧ off = 0 ∧ w = w' ∧ x = y := fun {k' off w' x y} h hy => by
  cases hc : (Nat.beq k k' && (Nat.beq off 0 && Nat.beq w w')) with
  | false => rw [hc] at h; exact absurd h.symm hy
  | true =>
    rw [hc] at h;simp only [zJ5] at hc;exact ⟨zJ6 hc.1, zJ6 hc.2.1, zJ6 hc.2.2, h⟩
 unfold q8M at e;split at e
 ·obtain ⟨rfl, rfl, rfl, h⟩ := eqs e (by simp);cases h; simp [SV.enc]
 ·cases e; simp [SV.enc]
 ·obtain ⟨rfl, rfl, rfl, h⟩ := eqs e (by simp);cases h; simp [SV.enc]
 ·cases e
def qZ9 (k w : Nat) : List (Option Nat) -> List SV -> Option (List SV)
 | [], [] => some []
 | none :: ds, v :: l => (match qZ9 k w ds l with
   | some r => some (v :: r)
   | none => none)
 | some j :: ds, v :: l => cond (q5X j) (match q8M k w v, qZ9 k w ds l with
   | some b, some r => some (.d .bool b :: r)
   | _, _ => none) (qZ9 k w ds l)
 | _, _ => none
def qLW (k : Nat) (v : SV) (h : SH) : Bool := match v with
 | .own k' g _ => Nat.beq k' k && (match slk k' h.l with
   | some (.list _ _ g' _ _ _) => Nat.beq g g'
   | _ => false)
 | _ => false
def q1Z : List (Option Nat) -> List SV -> SH -> Bool
 | some k :: ds, v :: l, h => cond (q5X k) true (qLW k v h) && q1Z ds l h
 | none :: ds, _ :: l, h => q1Z ds l h
 | _, _, _ => true
def mkB (kb w : Nat) : List (Option Nat) -> List SV -> SH -> Option (List SV × List SV)
 | [], l, _ => some ([], l)
 | none :: ds, c :: l, h => (match mkB kb w ds l h with
   | some p => some (c :: p.1, p.2)
   | none => none)
 | some k :: ds, l, h => cond (q5X k) (match l with
   | c :: l' => (match asB c, mkB kb w ds l' h with
     | some b, some p => some (.opt b kb 0 w :: p.1, p.2)
     | _, _ => none)
   | [] => none) (match slk k h.l with
   | some (.list _ _ g _ _ xs) => (match mkB kb w ds l h with
     | some p => some (.own k g (List.length xs) :: p.1, p.2)
     | none => none)
   | _ => none)
 | none :: _, [], _ => none
def q4V (h1 : SH) : List (Nat × List (Option Nat)) -> List SV -> SH -> Option SH
 | [], _, h => some h
 | (k, ds) :: bs, l, h => match slk k h1.l with
   | some (.cells el _ _) => (match mkB k (List.length ds) ds l h with
     | some p => q4V h1 bs p.2 ((h.del k).new k fun v => .cells el v p.1)
     | none => none)
   | _ => none
def q1A : List (Nat × List (Option Nat)) -> SH -> Option (List SV)
 | [], _ => some []
 | (k, ds) :: bs, h => match slk k h.l with
   | some (.cells _ _ l) => (match qZ9 k (List.length ds) ds l, q1A bs h with
     | some a, some b => some (a ++ b)
     | _, _ => none)
   | _ => none
def qFJ (L : List Nat) (bs : List (Nat × List (Option Nat))) (h1 h : SH) : Bool := bs.all fun p => qCU p.1 L && ((p.2.all fun x => match x with
 | some k => !qCU k L
 | none => true) && (match slk p.1 h1.l, slk p.1 h.l with
 | some (.cells e1 _ _), some (.cells e2 _ l) => Nat.beq e1 e2 && q1Z p.2 l h
 | _, _ => false))
def mkS (P : Program) (W : List Nat) (sh : Sh) (ts : List Ty) (os : List (Nat × Bool)) (env : List SV) (h : SH) (s : TyL ts) : Option (List SV × SH) :=
 match q1V P os ((dO sh.d (svL ts s) (blank W 0 env)).2.take os.length) h with
 | some h2 => (match q4V h sh.b ((dO sh.d (svL ts s) (blank W 0 env)).2.drop os.length) h2 with
   | some h3 => (match q0L sh.s h3 (dO sh.d (svL ts s) (blank W 0 env)).1 with
     | some e2 => some (e2, h3)
     | none => none)
   | none => none)
 | none => none
omit [Yl] in
theorem qFX {l m : List PV} {i : Nat} {x : PV} (h : WkP l m) (hx : zC l i = some x) : WkP l (xA m i x) := by
 rw [zA];rw [qF] at hx
 have hl : l.length = (m.set i x).length := by
  rw [zM7];clear hx
  induction h with
  | nil => rfl
  | same _ ih => simp [ih]
  | any _ ih => simp [ih]
 have hp : ∀ j : Nat, m[j]? = l[j]? ∨ m[j]? = some PV.unk := by
  clear hx hl
  induction h with
  | nil => intro j; exact .inl rfl
  | same _ ih => intro j; cases j with
    | zero => exact .inl rfl
    | succ j => exact ih j
  | any _ ih => intro j; cases j with
    | zero => exact .inr rfl
    | succ j => exact ih j
 refine qT6 hl fun j => ?_
 rw [qF, qF, zK2];by_cases e : i = j
 ·subst e;rw [if_pos rfl];split
  ·exact .inl hx.symm
  ·rename_i hlt;have hlt' : i < l.length := (zKA.1 hx).1;rw [hl, zM7] at hlt';exact absurd hlt' hlt
 ·rw [if_neg e];exact hp j
theorem qSV : ∀ {is : List Nat} {env l b m rest : List SV}, qIA is env = some l -> qB (l ++ b) = qB m -> WkP (qB env) (qB rest) -> WkP (qB env) (qB (dO is m rest).1) ∧ qB (dO is m rest).2 = qB b
 | [], env, l, b, m, rest, e, hm, hw => by
   cases e;exact ⟨hw, hm.symm⟩
 | i :: is, env, l, b, m, rest, e, hm, hw => by
   unfold qIA at e;split at e
   ·rename_i v l' hv hl';cases e
    cases m with
    | nil => simp [qB] at hm
    | cons c m =>
      simp only [zL2, qB, zKV] at hm;show WkP (qB env) (qB (dO is m (xA rest i c)).1) ∧ qB (dO is m (xA rest i c)).2 = qB b;refine qSV hl' hm.2 ?_;rw [xV, <- hm.1];exact qFX hw (by rw [zH, hv]; rfl)
   ·cases e
omit [Yl] in
theorem qGV : ∀ (is : List Nat) (l env : List SV), (dO is l env).1.length = env.length
 | [], l, env => rfl
 | i :: is, [], env => rfl
 | i :: is, c :: l, env => by
   show (dO is l (xA env i c)).1.length = _;rw [qGV is l, jE]
omit [Yl] in
theorem qKZ {h : SH} : ∀ {is : List Nat} {l env : List SV}, okL h l -> okL h env -> okL h (dO is l env).1
 | [], l, env, _, he => he
 | i :: is, [], env, _, he => he
 | i :: is, c :: l, env, hl, he => by
   simp only [okL] at hl;show okL h (dO is l (xA env i c)).1;exact qKZ hl.2 (xW he hl.1)
omit [Yl] in
theorem qD9 : ∀ {is : List Nat} {l env : List SV} {j : Nat}, j ∉ is -> zC (dO is l env).1 j = zC env j
 | [], l, env, j, _ => rfl
 | i :: is, [], env, j, _ => rfl
 | i :: is, c :: l, env, j, hj => by
   rw [zKS, not_or] at hj;show zC (dO is l (xA env i c)).1 j = _;rw [qD9 hj.2, zA, qF, qF, zK2, if_neg (fun e => hj.1 e.symm)]
omit [Yl] in
theorem qHM {k : Nat} {gr : Bool} {ks : List (Nat × Bool)} {c : SV} {l : List SV} {h h2 : SH} (e : q1V P ((k, gr) :: ks) (c :: l) h = some h2) :
 ∃ f, q4W P gr c = some f ∧ q1V P ks l ((h.del k).new k f) = some h2 := by
 unfold q1V at e;split at e
 ·rename_i f hf; exact ⟨f, hf, e⟩
 ·cases e
omit [Yl] in
theorem qWQ {gr : Bool} {c : SV} {f : Nat -> SO} (e : q4W P gr c = some f) (h : SH) (n : Nat) : q46 P h n (f n) := by
 unfold q4W at e;split at e
 ·rename_i el u xs;split at e
  ·rename_i m hm
   cases hc : (Nat.beq m u.w && (Nat.ble 1 m && !Nat.beq el 1000000001)) with
   | false => rw [hc] at e; cases e
   | true =>
     rw [hc] at e;cases e;simp only [zJ5] at hc;have hw : m = u.w := zJ6 hc.1;have h1 := zKE hc.2.1;exact ⟨rfl, rfl, by rw [hm, hw], by omega⟩
  ·cases e
 ·cases e; rfl
 ·cases e; rfl
 ·cases e
omit [Yl] in
theorem qK0 : ∀ {os : List (Nat × Bool)} {l : List SV} {h h2 : SH}, OkH P h -> q1V P os l h = some h2 -> Keep h h2 ∧ OkH P h2 ∧ ∀ k, k ∉ os.map (·.1) -> slk k h2.l = slk k h.l
 | [], [], h, h2, ho, e => by cases e; exact ⟨.refl _, ho, fun _ _ => rfl⟩
 | (k, gr) :: ks, c :: l, h, h2, ho, e => by
   obtain ⟨f, hf, e1⟩ := qHM e;have hd := dV (k := k) ho;have hn2 := xZ (h := h.del k) (k := k) (f := f) hd.2 (qWQ hf _ _);obtain ⟨a1, a2, a3⟩ := qK0 hn2.2 e1;refine ⟨hd.1.trans (hn2.1.trans a1), a2, fun j hj => ?_⟩;rw [zKM, zKS, not_or] at hj;rw [a3 j hj.2];show slk j ((k, _) :: (h.del k).l) = _;rw [yC hj.1];exact kZ hj.1 _
 | [], _ :: _, _, _, _, e => by cases e
 | _ :: _, [], _, _, _, e => by cases e
def qXG : List FV -> List (Value × Value)
 | .v k :: .v x :: l => (k, x) :: qXG l
 | _ => []
omit [Yl] in
theorem qEN : ∀ (es : List (Value × Value)), qXG (bT es) = es
 | [] => rfl
 | p :: es => by
   show (p.1, p.2) :: qXG (bT es) = _;rw [qEN es]
def obE (gr : Bool) : PV -> Option PO
 | .f (.l el _ cs) => cond (Nat.beq el 1000000001) (some (SpO.map (qXG cs)).enc) (some ⟨el, gr, cs.map .f⟩)
 | .agg [.f (.v (.string s)), .f (.v (.int _ p))] => some (SpO.iter s p.toNat).enc
 | _ => none
theorem q43 {gr : Bool} {c : SV} {f : Nat -> SO} (e : q4W P gr c = some f) (n : Nat) : obE gr c.enc = some (f n).enc := by
 unfold q4W at e;split at e
 ·rename_i el u xs;split at e
  ·rename_i m hm
   cases hc : (Nat.beq m u.w && (Nat.ble 1 m && !Nat.beq el 1000000001)) with
   | false => rw [hc] at e; cases e
   | true =>
     rw [hc] at e;cases e;simp only [zJ5, zK4] at hc;simp only [SV.enc, Ty.fv, obE, hc.2.2, cond_false];rfl
  ·cases e
 ·rename_i es;cases e;simp only [SV.enc, Ty.fv, obE];show cond (Nat.beq 1000000001 1000000001) _ _ = _;rw [qEN]; rfl
 ·cases e;simp only [SV.enc, qB, Ty.fv, obE];rfl
 ·cases e
theorem q8J {ob : SO} {p : SV × Bool} (e : obD ob = some p) : obE p.2 p.1.enc = some ob.enc := by
 unfold obD at e;split at e
 ·rename_i el gr g w u xs
  cases hc : Nat.beq el 1000000001 with
  | true => rw [hc] at e; cases e
  | false =>
    rw [hc] at e;cases e;simp only [SV.enc, Ty.fv, obE, hc, cond_false];rfl
 ·rename_i w x
  cases x with
  | map es =>
    cases e;simp only [SV.enc, Ty.fv, obE];show cond (Nat.beq 1000000001 1000000001) _ _ = _;rw [qEN]; rfl
  | iter s pos =>
    cases e;simp only [SV.enc, qB, Ty.fv, obE];rfl
  | mit t j si la seen => cases e
 ·cases e
theorem qNS {q : PHp} {B : Nat -> Prop} : ∀ {os : List (Nat × Bool)} {l : List SV} {h h2 : SH}, q1V P os l h = some h2 -> (∀ k o, ¬ B k -> k ∉ os.map (·.1) -> slk k h.l = some o -> qA k q = some o.enc) ->
 (∀ (i : Nat) k gr c, os[i]? = some (k, gr) -> l[i]? = some c -> qA k q = obE gr c.enc) -> ∀ k o, ¬ B k -> slk k h2.l = some o -> qA k q = some o.enc
 | [], [], h, h2, e, h0, _, k, o, hB, hk => by
   cases e;exact h0 k o hB (by simp) hk
 | (j, gr) :: ks, c :: l, h, h2, e, h0, h1, k, o, hB, hk => by
   obtain ⟨f, hf, e1⟩ := qHM e;refine qNS (q := q) (B := B) e1 (fun k2 o2 hB2 hk2 ho2 => ?_) (fun i k2 gr2 c2 a1 a2 => h1 (i + 1) k2 gr2 c2 (by simpa using a1) (by simpa using a2)) k o hB hk;by_cases hj : k2 = j
   ·subst hj;rw [show slk k2 ((h.del k2).new k2 f).l = some (f (h.del k2).next) from vI] at ho2;cases ho2;rw [h1 0 k2 gr c rfl rfl];exact q43 hf _
   ·rw [show slk k2 ((h.del j).new j f).l = slk k2 (h.del j).l from yC hj, show slk k2 (h.del j).l = slk k2 h.l from kZ hj _] at ho2;exact h0 k2 o2 hB2 (by rw [zKM, zKS, not_or]; exact ⟨hj, hk2⟩) ho2
 | [], _ :: _, _, _, e, _, _, _, _, _, _ => by cases e
 | _ :: _, [], _, _, e, _, _, _, _, _, _ => by cases e
omit [Yl] in
theorem qBY {h : SH} : ∀ {is : List Nat} {l env : List SV}, okL h l -> okL h (dO is l env).2
 | [], l, env, hl => hl
 | i :: is, [], env, _ => by simp [dO, okL]
 | i :: is, c :: l, env, hl => by
   simp only [okL] at hl;show okL h (dO is l (xA env i c)).2;exact qBY hl.2
omit [Yl] in
theorem qM0 {h : SH} {l : List SV} (n : Nat) (hl : okL h l) : okL h (l.drop n) := yA.2 fun x hx => yA.1 hl x (zMV hx)
theorem qVR (l : List SV) (n : Nat) : qB (l.take n) = (qB l).take n := by rw [qX, qX, zMI]
theorem qRL (l : List SV) (n : Nat) : qB (l.drop n) = (qB l).drop n := by rw [qX, qX, zMH]
omit [Yl] in
theorem qK1 {h : SH} (ho : OkH P h) : ∀ {l : List (Nat × Nat)} {env e2 : List SV}, okL h env -> q0L l h env = some e2 -> okL h e2 ∧ e2.length = env.length ∧ ∀ j, j ∉ l.map (·.1) -> zC e2 j = zC env j
 | [], env, e2, he, e => by cases e; exact ⟨he, rfl, fun _ _ => rfl⟩
 | (i, k) :: l, env, e2, he, e => by
   unfold q0L at e
   cases hmk : Nat.ble mkM k with
   | true =>
     rw [hmk] at e;simp only [cond_true] at e;obtain ⟨a1, a2, a3⟩ := qK1 ho (xW (t := i) he (v := .mp (k - mkM)) (by simp [SV.ok])) e;refine ⟨a1, a2.trans (jE _ _ _), fun j hj => ?_⟩;rw [zKM, zKS, not_or] at hj;rw [a3 j hj.2, zA, qF, qF, zK2, if_neg (fun e => hj.1 e.symm)]
   | false =>
   rw [hmk] at e;simp only [cond_false] at e;split at e
   ·rename_i el gr g w u xs hk;have hg := (ho.list _ _ _ _ _ _ _ hk).1
    have hok : (SV.own k g (List.length xs)).ok h := by
     simp only [SV.ok];exact ⟨hg, fun el2 gr2 w2 t2 xs2 hk2 => by rw [hk] at hk2; cases hk2; rfl⟩
    obtain ⟨a1, a2, a3⟩ := qK1 ho (xW (t := i) he hok) e;refine ⟨a1, a2.trans (jE _ _ _), fun j hj => ?_⟩;rw [zKM, zKS, not_or] at hj;rw [a3 j hj.2, zA, qF, qF, zK2, if_neg (fun e => hj.1 e.symm)]
   ·cases e
omit [Yl] in
theorem qJB {kb w : Nat} {h : SH} (ho : OkH P h) : ∀ {ds : List (Option Nat)} {l : List SV} {p : List SV × List SV}, okL h l -> mkB kb w ds l h = some p -> okL h p.1 ∧ okL h p.2
 | [], l, p, hl, e => by cases e; exact ⟨by simp [okL], hl⟩
 | none :: ds, c :: l, p, hl, e => by
   unfold mkB at e;simp only [okL] at hl;split at e
   ·rename_i q hq;cases e;have ih := qJB ho hl.2 hq;exact ⟨by simp only [okL]; exact ⟨hl.1, ih.1⟩, ih.2⟩
   ·cases e
 | some k :: ds, l, p, hl, e => by
   unfold mkB at e
   cases hm : q5X k with
   | true =>
     rw [hm] at e;simp only [cond_true] at e;split at e
     ·simp only [okL] at hl;split at e
      ·rename_i b q hb hq;cases e;have ih := qJB ho hl.2 hq;exact ⟨by simp only [okL]; exact ⟨by simp [SV.ok], ih.1⟩, ih.2⟩
      ·cases e
     ·cases e
   | false =>
   rw [hm] at e;simp only [cond_false] at e;split at e
   ·rename_i el gr g w u xs hk;split at e
    ·rename_i q hq;cases e;have ih := qJB ho hl hq;have hg := (ho.list _ _ _ _ _ _ _ hk).1;refine ⟨?_, ih.2⟩;simp only [okL, SV.ok];exact ⟨⟨hg, fun el2 gr2 w2 t2 xs2 hk2 => by rw [hk] at hk2; cases hk2; rfl⟩, ih.1⟩
    ·cases e
   ·cases e
 | none :: _, [], _, _, e => by cases e
omit [Yl] in
theorem qK8 {h1 : SH} : ∀ {bs : List (Nat × List (Option Nat))} {l : List SV} {h h2 : SH}, OkH P h -> okL h l -> q4V h1 bs l h = some h2 -> Keep h h2 ∧ OkH P h2 ∧ ∀ k, k ∉ bs.map (·.1) -> slk k h2.l = slk k h.l
 | [], l, h, h2, ho, hl, e => by cases e; exact ⟨.refl _, ho, fun _ _ => rfl⟩
 | (k, ds) :: bs, l, h, h2, ho, hl, e => by
   unfold q4V at e;split at e
   ·rename_i el w0 l0 hk0;split at e
    ·rename_i p hp;obtain ⟨m1, m2⟩ := qJB ho hl hp;have hd := dV (k := k) ho;have hn2 := xZ (h := h.del k) (k := k) (f := fun v => .cells el v p.1) hd.2 ⟨rfl, qL hd.1 m1⟩;obtain ⟨a1, a2, a3⟩ := qK8 hn2.2 (qL hn2.1 (qL hd.1 m2)) e;refine ⟨hd.1.trans (hn2.1.trans a1), a2, fun j hj => ?_⟩;rw [zKM, zKS, not_or] at hj;rw [a3 j hj.2];show slk j ((k, _) :: (h.del k).l) = _;rw [yC hj.1];exact kZ hj.1 _
    ·cases e
   ·cases e
theorem qLM {h h2 : SH} (ho : OkH P h) (ho2 : OkH P h2) {k : Nat} {v : SV} {el : TypeId} {gr : Bool} {g w : Nat} {u : Ty} {xs : List u.sem} (hv : v.ok h) (c : qLW k v h = true) (hk : slk k h2.l = some (.list el gr g w u xs)) (h1 : qA k (qD h.l) = some (SO.list el gr g w u xs).enc) :
 v.enc = (SV.own k g xs.length).enc := by
 unfold qLW at c;split at c
 ·rename_i k' g' n';rw [zJ5] at c;have hkk : k' = k := zJ6 c.1;subst hkk;have c2 := c.2;split at c2
  ·rename_i el3 gr3 g3 w3 u3 xs3 hk3;have hg : g' = g3 := zJ6 c2;subst hg;simp only [SV.ok] at hv;have hn := hv.2 _ _ _ _ _ hk3;rw [y5 hk3] at h1;have h1 := zK5 h1;have e1 : el3 = el := congrArg PO.el h1
   have e2' : xs3.length * u3.w = xs.length * u.w := by
    have := congrArg (fun o : PO => o.cs.length) h1;simp only [qV] at this;exact this
   have l1 := ho.list _ _ _ _ _ _ _ hk3;have l2 := ho2.list _ _ _ _ _ _ _ hk
   have hww : u3.w = u.w := by
    have a1 := l1.2.1;have a2 := l2.2.1;rw [e1, a2] at a1;exact (zK5 a1).symm
   have hlen : xs3.length = xs.length := by
    rw [hww] at e2';exact Nat.eq_of_mul_eq_mul_right l2.2.2 e2'
   simp only [SV.enc, hn, hlen]
  ·cases c2
 ·cases c
theorem qGL {kb w : Nat} {hn h : SH} (hon : OkH P hn) (ho : OkH P h) : ∀ {ds : List (Option Nat)} {l ln dl rest : List SV} {p : List SV × List SV}, mkB kb w ds l h = some p -> qZ9 kb w ds ln = some dl -> q1Z ds ln hn = true -> qB (dl ++ rest) = qB l -> okL hn ln ->
 (∀ k o, some k ∈ ds -> slk k h.l = some o -> qA k (qD hn.l) = some o.enc) -> qB p.1 = qB ln ∧ qB p.2 = qB rest
 | [], l, ln, dl, rest, p, e, ec, eo, hl, hok, hq => by
   cases e
   cases ln with
   | nil => cases ec; exact ⟨rfl, hl.symm⟩
   | cons _ _ => cases ec
 | none :: ds, c :: l, ln, dl, rest, p, e, ec, eo, hl, hok, hq => by
   unfold mkB at e;split at e
   ·rename_i q hm;cases e
    cases ln with
    | nil => cases ec
    | cons v ln =>
      unfold qZ9 at ec;split at ec
      ·rename_i r hr;cases ec;simp only [zL2, qB, zKV] at hl;simp only [okL] at hok;obtain ⟨a1, a2⟩ := qGL hon ho hm hr (by unfold q1Z at eo; exact eo) hl.2 hok.2 fun k o hk ho => hq k o (zKD _ hk) ho
       exact ⟨by simp only [qB, a1, hl.1], a2⟩
      ·cases ec
   ·cases e
 | some k :: ds, l, ln, dl, rest, p, e, ec, eo, hl, hok, hq => by
   unfold mkB at e
   cases hmk : q5X k with
   | true =>
     rw [hmk] at e;simp only [cond_true] at e;split at e
     case h_2 => cases e
     rename_i c l';split at e
     case h_2 => cases e
     rename_i b q hb hm;cases e
     cases ln with
     | nil => cases ec
     | cons v ln =>
       unfold qZ9 at ec;rw [hmk] at ec;simp only [cond_true] at ec;split at ec
       case h_2 => cases ec
       rename_i b2 r hb2 hr;cases ec;simp only [okL] at hok;unfold q1Z at eo;rw [zJ5] at eo;simp only [zL2, qB, zKV] at hl;obtain ⟨a1, a2⟩ := qGL hon ho hm hr eo.2 hl.2 hok.2 fun k o hk ho => hq k o (zKD _ hk) ho
       refine ⟨?_, a2⟩
       have hbb : b2 = b := by
        have := hl.1;rw [o8 hb] at this;simp only [SV.enc, Ty.fv, fvv] at this;injection this with this;injection this with this;injection this
       simp only [qB, a1, qY1 hb2, hbb]
   | false =>
   rw [hmk] at e;simp only [cond_false] at e;split at e
   ·rename_i el gr g w u xs hk;split at e
    ·rename_i q hm;cases e
     cases ln with
     | nil => cases ec
     | cons v ln =>
       unfold qZ9 at ec;rw [hmk] at ec;simp only [cond_false] at ec;simp only [okL] at hok;unfold q1Z at eo;rw [hmk, zJ5] at eo;simp only [cond_false] at eo;obtain ⟨a1, a2⟩ := qGL hon ho hm ec eo.2 hl hok.2 fun k o hk ho => hq k o (zKD _ hk) ho
       refine ⟨?_, a2⟩;simp only [qB, a1];rw [qLM hon ho hok.1 eo.1 hk (hq k _ zKI hk)]
    ·cases e
   ·cases e
 | none :: _, [], _, _, _, _, e, _, _, _, _, _ => by cases e
theorem qOL {hn h1 : SH} {L : List Nat} (hon : OkH P hn) : ∀ {bs : List (Nat × List (Option Nat))} {l c rest : List SV} {h h2 : SH}, OkH P h -> okL h l -> q4V h1 bs l h = some h2 -> q1A bs hn = some c -> qB (c ++ rest) = qB l -> qFJ L bs h1 hn = true ->
 (∀ k o, slk k h.l = some o -> k ∉ bs.map (·.1) -> qA k (qD hn.l) = some o.enc) -> (∀ k o, slk k h.l = some o -> k ∉ L -> qA k (qD hn.l) = some o.enc) -> ∀ k o, slk k h2.l = some o -> qA k (qD hn.l) = some o.enc
 | [], l, c, rest, h, h2, ho, hl, e, ec, hc, hb, hq, _, k, o, hk => by
   cases e;exact hq k o hk (by simp)
 | (j, ds) :: bs, l, c, rest, h, h2, ho, hl, e, ec, hc, hb, hq, hqL, k, o, hk => by
   unfold qFJ at hb;rw [zK9, zJ5, zJ5, zJ5] at hb;obtain ⟨⟨b0, b1, b2⟩, b3⟩ := hb;unfold q4V at e;split at e
   case h_2 => cases e
   rename_i el w0 l0 hk0;split at e
   case h_2 => cases e
   rename_i p hp;rw [hk0] at b2;simp only at b2;unfold q1A at ec;split at ec
   case h_2 => cases ec
   rename_i el2 w2 ln hkn;rw [hkn] at b2;simp only [zJ5] at b2;split at ec
   case h_2 => cases ec
   rename_i a b ha hb2;cases ec;have hel : el = el2 := zJ6 b2.1;subst hel;obtain ⟨m1, m2⟩ := qJB ho hl hp
   obtain ⟨q1, q2⟩ := qGL hon ho hp ha b2.2 (rest := b ++ rest) (by rw [<- zK0]; exact hc) (hon.cells _ _ _ _ hkn) (fun k o hk ho2 => hqL k o ho2 fun hm => by
    have := zJ8.1 b1 (some k) hk;simp only [wP.2 hm] at this
    cases this)
   have hd := dV (k := j) ho;have hn2 := xZ (h := h.del j) (k := j) (f := fun v => .cells el v p.1) hd.2 ⟨rfl, qL hd.1 m1⟩
   have look : ∀ i, i ≠ j -> slk i ((h.del j).new j fun v => .cells el v p.1).l = slk i h.l := fun i hi => by
    show slk i ((j, _) :: (h.del j).l) = _;rw [yC hi];exact kZ hi _
   have zE1 : slk j ((h.del j).new j fun v => .cells el v p.1).l = some (.cells el (h.del j).next p.1) := vI
   have zBR : qA j (qD hn.l) = some (SO.cells el (h.del j).next p.1).enc := by
    rw [y5 hkn];simp [SO.enc, q1]
   refine qOL hon (bs := bs) (c := b) (rest := rest) hn2.2 (qL hn2.1 (qL hd.1 m2)) e hb2 q2.symm b3 (fun i o2 hi hni => ?_) (fun i o2 hi hni => ?_) k o hk
   ·by_cases hij : i = j
    ·subst hij;rw [zE1] at hi; cases hi; exact zBR
    ·rw [look i hij] at hi;exact hq i o2 hi (by rw [zKM, zKS, not_or]; exact ⟨hij, hni⟩)
   ·by_cases hij : i = j
    ·subst hij;rw [zE1] at hi; cases hi; exact zBR
    ·rw [look i hij] at hi;exact hqL i o2 hi hni
end
end Go.Sv
namespace Go.Sv
open Go.Idl
noncomputable section
variable [Gc]
variable [Yl]
variable {P : Program} {R : Type} {r : R} {nm : Nm}
def q07 (os : List (Nat × Bool)) (h : SH) : Bool := os.all fun p => match slk p.1 h.l with
 | some ob => (match obD ob with
   | some q => q.2 == p.2
   | none => false)
 | none => false
def qLE (l : List (Nat × Nat)) (env : List SV) (h : SH) : Bool := l.all fun p => cond (Nat.ble mkM p.2) (match zC env p.1 with
 | some (.mp k) => Nat.beq k (p.2 - mkM)
 | _ => false) (match zC env p.1 with
 | some (.own k g _) => Nat.beq k p.2 && (match slk k h.l with
   | some (.list _ _ g' _ _ _) => Nat.beq g g'
   | _ => false)
 | _ => false)
def mW (ls : List Nat) (hh h : SH) : Bool := hh.l.all fun p => qCU p.1 ls || (match slk p.1 h.l with
 | some o => Nat.beq o.w p.2.w
 | none => false)
omit [Yl] in
theorem qMQ {k : Nat} {o : SO} : ∀ {l : List (Nat × SO)}, slk k l = some o -> (k, o) ∈ l
 | (j, p) :: l, h => by
   have h1 : cond (k == j) (some p) (slk k l) = some o := h;clear h
   cases hj : k == j with
   | true =>
     rw [hj] at h1;have h2 : p = o := zK5 h1;have : k = j := by simpa using hj
     rw [this, h2];exact zKI
   | false =>
     rw [hj] at h1;exact zKD _ (qMQ (l := l) h1)
omit [Yl] in
theorem qFA : ∀ {ks : List Nat} {h : SH} {os : List (Nat × Bool)}, q19 ks h = some os -> os.map (·.1) = ks
 | [], h, os, e => by cases e; rfl
 | k :: ks, h, os, e => by
   unfold q19 at e;split at e
   ·rename_i hk hl;split at e
    ·cases e;rw [zKM, qFA hl]
    ·cases e
   ·cases e
omit [Yl] in
theorem qMM : ∀ {ks : List Nat} {h : SH} {os : List (Nat × Bool)}, q19 ks h = some os -> q07 os h = true
 | [], h, os, e => by cases e; rfl
 | k :: ks, h, os, e => by
   unfold q19 at e;split at e
   ·rename_i ob os' hk hl;split at e
    ·rename_i p hp;cases e;have ih := qMM hl;unfold q07 at ih ⊢;rw [zK9, ih];simp only [hk, hp];simp
    ·cases e
   ·cases e
omit [Yl] in
theorem qU8 : ∀ {ks : List Nat} {h : SH} {b : List SV}, qWG ks h = some b -> ∀ (i : Nat) k, ks[i]? = some k -> ∃ ob p, slk k h.l = some ob ∧ obD ob = some p ∧ b[i]? = some p.1
 | [], h, b, e, i, k, hk => by simp at hk
 | j :: ks, h, b, e, i, k, hk => by
   unfold qWG at e;split at e
   ·rename_i ob l hj hl;split at e
    ·rename_i p hp;cases e
     cases i with
     | zero =>
       simp at hk;subst hk;exact ⟨ob, p, hj, hp, rfl⟩
     | succ i => exact qU8 hl i k (by simpa using hk)
    ·cases e
   ·cases e
omit [Yl] in
theorem qO0 : ∀ {ks : List Nat} {h : SH} {b : List SV}, qWG ks h = some b -> b.length = ks.length
 | [], h, b, e => by cases e; rfl
 | k :: ks, h, b, e => by
   unfold qWG at e;split at e
   ·rename_i hk hl;split at e
    ·cases e;simp only [zKO, qO0 hl]
    ·cases e
   ·cases e
theorem qL1 {h h2 : SH} {env : List SV} (ho : OkH P h) (ho2 : OkH P h2) (hs : ∀ k o, slk k h2.l = some o -> qA k (qD h.l) = some o.enc) (hen : okL h env) : ∀ {l : List (Nat × Nat)} {m e2 : List SV}, qLE l env h = true -> q0L l h2 m = some e2 -> WkP (qB env) (qB m) -> WkP (qB env) (qB e2)
 | [], m, e2, _, e, hw => by cases e; exact hw
 | (i, k) :: l, m, e2, hc, e, hw => by
   unfold qLE at hc;rw [zK9, zJ5] at hc;unfold q0L at e;have c0 := hc.1;simp only at c0
   cases hmk : Nat.ble mkM k with
   | true =>
     rw [hmk] at e c0;simp only [cond_true] at e c0;refine qL1 ho ho2 hs hen hc.2 e ?_;split at c0
     ·rename_i k' hi;have hkk := zJ6 c0;rw [xV];refine qFX hw ?_;rw [zH, hi, hkk];rfl
     ·cases c0
   | false =>
   rw [hmk] at e c0;simp only [cond_false] at e c0;split at e
   ·rename_i el gr g w u xs hk;refine qL1 ho ho2 hs hen hc.2 e ?_;have c1 := c0;split at c1
    ·rename_i k' g' n' hi;have c3 : qLW k (.own k' g' n') h = true := c1;rw [xV];refine qFX hw ?_;rw [zH, hi];show some (SV.own k' g' n').enc = _;rw [qLM ho ho2 (dI hen hi) c3 hk (hs k _ hk)]
    ·cases c1
   ·cases e
theorem qRH {W : List Nat} {sh : Sh} {ts : List Ty} {os : List (Nat × Bool)} {zAG e2 b c : List SV} {h1 h h2 : SH} {s : TyL ts} (ho : OkH P h) (ho1 : OkH P h1)
 (hb : qWG sh.o h = some b) (hcB : q1A sh.b h = some c) (w2 : qB (dO sh.d (svL ts s) (blank W 0 zAG)).2 = qB (b ++ c)) (hm : mkS P W sh ts os zAG h1 s = some (e2, h2)) (hos : os.map (·.1) = sh.o) (hgr : q07 os h = true) (hbx : qFJ (sh.b.map (·.1)) sh.b h1 h = true)
 (hkept : ∀ k o, k ∉ sh.o -> k ∉ sh.b.map (·.1) -> slk k h1.l = some o -> qA k (qD h.l) = some o.enc) :
 OkH P h2 ∧ q0L sh.s h2 (dO sh.d (svL ts s) (blank W 0 zAG)).1 = some e2 ∧ ∀ k o, slk k h2.l = some o -> qA k (qD h.l) = some o.enc := by
 unfold mkS at hm;split at hm
 case h_2 => cases hm
 rename_i h3 hso;split at hm
 case h_2 => cases hm
 rename_i h4 hsb;split at hm
 case h_2 => cases hm
 rename_i e3 hss;cases hm;have hlen : os.length = b.length := by rw [qO0 hb, <- hos, zKQ]
 have t1 : qB ((dO sh.d (svL ts s) (blank W 0 zAG)).2.take os.length) = qB b := by
  rw [qVR, w2, qX, qX, zLC, hlen, <- zKQ (as := b) (f := SV.enc), List.take_left]
 have t2 : qB ((dO sh.d (svL ts s) (blank W 0 zAG)).2.drop os.length) = qB c := by
  rw [qRL, w2, qX, qX, zLC, hlen, <- zKQ (as := b) (f := SV.enc), List.drop_left]
 have zE2 : ∀ k o, ¬ k ∈ sh.b.map (·.1) -> slk k h3.l = some o -> qA k (qD h.l) = some o.enc := by
  refine qNS (B := fun k => k ∈ sh.b.map (·.1)) hso (fun k o hB hk hk2 => hkept k o (by rw [<- hos]; exact hk) hB hk2) ?_;intro i k gr x hi hx;have hki : sh.o[i]? = some k := by rw [<- hos, zKL, hi]; rfl
  obtain ⟨ob, p, q1, q0, q2⟩ := qU8 hb i k hki
  have hce : x.enc = p.1.enc := by
   have e1 : (qB b)[i]? = some p.1.enc := by rw [qX, zKL, q2]; rfl
   rw [<- t1, qX, zKL, hx] at e1;exact zK5 e1
  have hg : p.2 = gr := by
   unfold q07 at hgr;have := zJ8.1 hgr (k, gr) (zK8 hi);simp only [q1, q0] at this;simpa using this
  rw [hce, y5 q1, <- hg, q8J q0]
 obtain ⟨k3, ho3, _⟩ := qK0 ho1 hso;have hrest : okL h3 ((dO sh.d (svL ts s) (blank W 0 zAG)).2.drop os.length) := qM0 _ (qBY (qA5 ts s));have hsub := qOL (L := sh.b.map (·.1)) ho (c := c) (rest := []) ho3 hrest hsb hcB (by rw [zLS]; exact t2.symm) hbx (fun k o hk hn => zE2 k o hn hk) (fun k o hk hn => zE2 k o hn hk);obtain ⟨_, ho4, _⟩ := qK8 ho3 hrest hsb;exact ⟨ho4, hss, hsub⟩
theorem qEO {h h2 : SH} (hsub : ∀ k o, slk k h2.l = some o -> qA k (qD h.l) = some o.enc) : oK (qD h2.l) (qD h.l) := fun k ob hk => by
 rw [uV] at hk;obtain ⟨o, h1, h2⟩ := zKF.1 hk;rw [hsub k o h1, h2]
theorem q55 {W : List Nat} {sh : Sh} {ts : List Ty} {os : List (Nat × Bool)} {zAG env e2 a b c : List SV} {h1 h h2 : SH} {s : TyL ts} (ho : OkH P h) (ho1 : OkH P h1) (hen : okL h env)
 (ha : qIA sh.d env = some a) (hb : qWG sh.o h = some b) (hcB : q1A sh.b h = some c) (hd : qCL ts (a ++ (b ++ c)) = some s) (hm : mkS P W sh ts os zAG h1 s = some (e2, h2)) (hos : os.map (·.1) = sh.o) (hgr : q07 os h = true) (hown : qLE sh.s env h = true) (hbx : qFJ (sh.b.map (·.1)) sh.b h1 h = true)
 (hkept : ∀ k o, k ∉ sh.o -> k ∉ sh.b.map (·.1) -> slk k h1.l = some o -> qA k (qD h.l) = some o.enc) (hbl : WkP (qB env) (qB (blank W 0 zAG))) :
 WkP (qB env) (qB e2) ∧ oK (qD h2.l) (qD h.l) := by
 have hde := mF hd;obtain ⟨w1, w2⟩ := qSV (m := svL ts s) ha hde hbl;obtain ⟨ho4, hss, hsub⟩ := qRH ho ho1 hb hcB w2 hm hos hgr hbx hkept;exact ⟨qL1 ho ho4 hsub hen hown hss w1, qEO hsub⟩
theorem d9 {W : List Nat} {sh : Sh} {ts : List Ty} {os : List (Nat × Bool)} {zAG e2 : List SV} {h1 h2 : SH} {s : TyL ts} (ho1 : OkH P h1) (he1 : okL h1 zAG) (hm : mkS P W sh ts os zAG h1 s = some (e2, h2)) :
 Keep h1 h2 ∧ OkH P h2 ∧ okL h2 e2 ∧ e2.length = zAG.length ∧ (∀ j, j ∉ W -> j ∉ sh.d -> j ∉ sh.s.map (·.1) -> zC (qB e2) j = zC (qB zAG) j) ∧ ∀ k, k ∉ os.map (·.1) -> k ∉ sh.b.map (·.1) -> slk k h2.l = slk k h1.l := by
 unfold mkS at hm;split at hm
 case h_2 => cases hm
 rename_i h3 hso;split at hm
 case h_2 => cases hm
 rename_i h4 hsb;split at hm
 case h_2 => cases hm
 rename_i e3 hss;cases hm;obtain ⟨a1, a2, a3⟩ := qK0 ho1 hso;have hrest : okL h3 ((dO sh.d (svL ts s) (blank W 0 zAG)).2.drop os.length) := qM0 _ (qBY (qA5 ts s));obtain ⟨c1, c2, c3⟩ := qK8 a2 hrest hsb;have hok : okL h2 (dO sh.d (svL ts s) (blank W 0 zAG)).1 := qKZ (qA5 ts s) (qM5 (qL c1 (qL a1 he1)));obtain ⟨b1, b2, b3⟩ := qK1 c2 hok hss;refine ⟨a1.trans c1, c2, b1, by rw [b2, qGV, tQ], fun j hj hjd hjs => ?_, fun k hk hk2 => (c3 k hk2).trans (a3 k hk)⟩;rw [zH, zH, b3 j hjs, qD9 hjd, qB9]
 have : qCU (0 + j) W = false := by
  cases hq : qCU (0 + j) W with
  | false => rfl
  | true => rw [zKT] at hq; exact absurd (wP.1 hq) hj
 rw [this];cases zC zAG j <;> rfl
theorem qNY {W : List Nat} {env zAG : List SV} (hl : env.length = zAG.length) (h : ∀ i, i ∉ W -> zC (qB env) i = zC (qB zAG) i) : WkP (qB env) (qB (blank W 0 zAG)) := by
 refine qT6 (by rw [qW, qW, tQ, hl]) fun i => ?_
 rw [zH (blank W 0 zAG), qB9, zKT]
 cases hq : qCU i W with
 | true =>
   cases hx : zC zAG i with
   | none =>
     left
     have : zC env i = none := by
      rw [qF] at hx ⊢;rw [zMT] at hx ⊢;omega
     rw [zH, this]; rfl
   | some x => right; simp [SV.enc]
 | false =>
   left
   have hni : i ∉ W := fun hm => by
    rw [wP.2 hm] at hq;cases hq
   rw [h i hni, zH zAG];cases zC zAG i <;> rfl
end
end Go.Sv
namespace Go.Sv
open Go.Idl
noncomputable section
abbrev uK (Γ : Option Type) (R : Type) := zA8 -> GV Γ -> List SV -> SH -> q98 R
def q98.sum {R : Type} {α β : Type} (x : α ⊕ β) (f : α -> q98 R) (g : β -> q98 R) : q98 R := Sum.rec f g x
variable [Gc]
variable [Yl]
variable {P : Program} {Γ : Option Type} {R : Type} {r : R} {nm : Nm} {G : Nat -> Bool} {rd : Bool} {N : Nat} {rs : List Ty} {wd : Wld (GV Γ)}
def EQ (P : Program) (N : Nat) (w : List Nat) (env : List SV) (h : SH) (K : uK Γ R) (r : R) : YQ (GV Γ) := fun e g pe ph =>
 ∃ env' h', pe = qB env' ∧ ph = qD h'.l ∧ okL h' env' ∧ OkH P h' ∧ env'.length = N ∧ Keep h h' ∧ (e ≠ .ret -> jU P w env h env' h') ∧ (K e g env' h').run = some r
def q80 (id : Nat) (K : uK Γ R) : uK Γ R := fun e g env h => match e with
 | .exit i => cond (Nat.beq i id) (K .normal g env h) (K (.exit i) g env h)
 | e => K e g env h
def q2B : List Nat -> Nat -> (Nat -> q98 R) -> q98 R
 | [], _, _ => .fail
 | a :: l, j, K => .ite (Nat.beq j a) (K a) (q2B l j K)
omit [Yl] in
theorem qPE : ∀ {l : List Nat} {j : Nat} {K : Nat -> q98 R}, (q2B l j K).run = some r -> (K j).run = some r
 | [], j, K, e => by cases e
 | a :: l, j, K, e => by
   rcases run_ite e with ⟨z, e1⟩ | ⟨z, e1⟩
   ·rw [zJ6 z]; exact e1
   ·exact qPE e1
def bk (sh : Sh) (os : List (Nat × Bool)) (ts : List Ty) (mk : TyL ts -> Option (List SV × SH)) (h1 hh : SH) (env : List SV) (h : SH) : Option (TyL ts) := match qIA sh.d env, qWG sh.o h, q1A sh.b h with
 | some a, some b, some c => (match qCL ts (a ++ (b ++ c)) with
   | some s => cond (q07 os h && (qLE sh.s env h && (qFJ (sh.b.map (·.1)) sh.b h1 h && (mW (sh.o ++ sh.b.map (·.1)) hh h && (mk s).isSome)))) (some s) none
   | none => none)
 | _, _, _ => none
def mkL : Nat := 2000000000000000
def lbL (y : Nat) : Nat := y - mkL
def oJ : List (Nat × TypeId) -> List SV -> SH -> List SV -> List SV
 | [], _, _, e => e
 | (i, y) :: l, e0, h, e => cond (Nat.ble mkL y) (match slk (lbL y) h.l, zC e0 i with
   | some (.list _ _ g _ _ xs), some (.sl _ _ _ o m) => oJ l e0 h (xA e i (.sl (lbL y) g (List.length xs) o m))
   | _, _ => oJ l e0 h e) (oJ l e0 h e)
def slG : List (Nat × TypeId) -> List SV -> SH -> Bool
 | [], _, _ => true
 | (i, y) :: l, e0, h => cond (slG l e0 h) (cond (Nat.ble mkL y) (match slk (lbL y) h.l, zC e0 i with
   | some (.list _ _ _ _ _ xs), some (.sl _ _ _ o m) => Nat.ble (o + m) (List.length xs)
   | _, _ => false) true) false
def q88 (k : Nat) (v : SV) (h : SH) : Bool := match v with
 | .sl k' g n _ _ => qLW k (.own k' g n) h
 | _ => false
def q0V (l : List (Nat × TypeId)) (env : List SV) (h : SH) : Bool := l.all fun p => cond (Nat.ble mkL p.2) (match zC env p.1 with
 | some v => q88 (lbL p.2) v h
 | none => false) true
def slW (wb : List Nat) (l : List (Nat × TypeId)) : Bool := l.all fun p => cond (Nat.ble mkL p.2) (!qCU p.1 wb) true
def isP (k o m : Nat) (x : Option SV) : Prop := ∃ g n, x = some (.sl k g n o m)
omit [Yl] in
theorem qM6 {k o m j g0 n0 k0 : Nat} {e0 : List SV} {h : SH} (h0 : zC e0 j = some (.sl k0 g0 n0 o m)) : ∀ {l : List (Nat × TypeId)} {e : List SV}, (∀ y, (j, y) ∈ l -> Nat.ble mkL y = true -> lbL y = k) -> isP k o m (zC e j) -> isP k o m (zC (oJ l e0 h e) j)
 | [], e, _, he => he
 | (i, y) :: l, e, hy, he => by
   have ih := fun {e : List SV} => qM6 (k := k) (h := h) h0 (l := l) (e := e) fun y hm => hy y (zKD _ hm)
   unfold oJ
   cases hb : Nat.ble mkL y with
   | false => exact ih he
   | true =>
     simp only [cond_true];split
     ·rename_i hk hi;refine ih ?_;by_cases hij : i = j
      ·subst hij;rw [h0] at hi;cases hi;rw [hy y zKI hb];obtain ⟨g, n, h2⟩ := he
       have hlt : i < e.length := by
        rw [qF] at h2;exact (zKA.1 h2).1
       exact ⟨_, _, by rw [zA, qF, List.getElem?_set_self hlt]⟩
      ·rw [zA, qF, List.getElem?_set_ne hij, <- qF]; exact he
     ·exact ih he
omit [Yl] in
theorem qO7 {k o m j y0 g0 n0 k0 : Nat} {e0 : List SV} {h : SH} (h0 : zC e0 j = some (.sl k0 g0 n0 o m)) : ∀ {l : List (Nat × TypeId)} {e : List SV}, (∀ y, (j, y) ∈ l -> Nat.ble mkL y = true -> lbL y = k) -> (j, y0) ∈ l -> Nat.ble mkL y0 = true -> slG l e0 h = true -> j < e.length -> isP k o m (zC (oJ l e0 h e) j)
 | (i, y) :: l, e, hy, hm, hy0, hg, hlt => by
   have hy' : ∀ y, (j, y) ∈ l -> Nat.ble mkL y = true -> lbL y = k := fun y hm => hy y (zKD _ hm)
   unfold slG at hg
   cases hgl : slG l e0 h with
   | false => rw [hgl] at hg; cases hg
   | true =>
   rw [hgl, cond_true] at hg;have len : ∀ {x : SV}, j < (xA e i x).length := fun {x} => by rw [jE]; exact hlt
   rcases zKS.1 hm with hq | hq
   ·cases hq;unfold oJ;rw [hy0, cond_true] at hg ⊢;split at hg
    ·rename_i el gr g w t xs k2 g2 n2 o2 m2 hk hi;rw [h0] at hi;cases hi;refine qM6 h0 hy' ?_;rw [hy y0 zKI hy0];exact ⟨_, _, by rw [zA, qF, List.getElem?_set_self hlt]⟩
    ·cases hg
   ·unfold oJ
    cases hb : Nat.ble mkL y with
    | false => exact qO7 h0 hy' hq hy0 hgl hlt
    | true =>
      simp only [cond_true];split
      ·exact qO7 h0 hy' hq hy0 hgl len
      ·exact qO7 h0 hy' hq hy0 hgl hlt
omit [Yl] in
theorem qJF {j : Nat} {e0 : List SV} {h : SH} : ∀ {l : List (Nat × TypeId)} {e : List SV}, j ∉ l.map (·.1) -> zC (oJ l e0 h e) j = zC e j
 | [], e, _ => rfl
 | (i, y) :: l, e, hj => by
   rw [zKM, zKS, not_or] at hj;unfold oJ
   cases Nat.ble mkL y with
   | false => exact qJF hj.2
   | true =>
     simp only [cond_true];split
     ·rw [qJF hj.2, zA, qF, List.getElem?_set_ne (fun q => hj.1 q.symm), <- qF]
     ·exact qJF hj.2
omit [Yl] in
theorem qR1 {e0 : List SV} {h : SH} (ho : OkH P h) : ∀ {l : List (Nat × TypeId)} {e : List SV}, okL h e -> slG l e0 h = true -> okL h (oJ l e0 h e) ∧ (oJ l e0 h e).length = e.length
 | [], e, he, _ => ⟨he, rfl⟩
 | (i, y) :: l, e, he, hg => by
   unfold slG at hg
   cases hgl : slG l e0 h with
   | false => rw [hgl] at hg; cases hg
   | true =>
   rw [hgl, cond_true] at hg;unfold oJ
   cases hb : Nat.ble mkL y with
   | false => exact qR1 ho he hgl
   | true =>
     rw [hb, cond_true] at hg;simp only [cond_true];split at hg
     ·rename_i el gr g w t xs k' g' n' o m hk hi
      have hv : (SV.sl (lbL y) g (List.length xs) o m).ok h := by
       simp only [SV.ok];refine ⟨⟨(ho.list _ _ _ _ _ _ _ hk).1, fun el2 gr2 w2 t2 xs2 h2 => ?_⟩, zKE hg⟩;rw [hk] at h2;cases h2;rfl
      obtain ⟨a1, a2⟩ := qR1 ho (xW (t := i) he hv) hgl;exact ⟨a1, a2.trans (jE _ _ _)⟩
     ·cases hg
theorem qU1 {h h3 : SH} {env e0 : List SV} (ho : OkH P h) (ho3 : OkH P h3) (hs : oK (qD h3.l) (qD h.l)) (hen : okL h env) : ∀ {l : List (Nat × TypeId)} {m : List SV}, q0V l env h = true ->
 (∀ i y k g n o q, (i, y) ∈ l -> Nat.ble mkL y = true -> zC e0 i = some (.sl k g n o q) -> ∃ k' g' n', zC env i = some (.sl k' g' n' o q)) -> WkP (qB env) (qB m) -> WkP (qB env) (qB (oJ l e0 h3 m))
 | [], m, _, _, hw => hw
 | (i, y) :: l, m, hc, hom, hw => by
   unfold q0V at hc;rw [zK9, zJ5] at hc;have zH3 := fun i y k g n o q hm => hom i y k g n o q (zKD _ hm)
   have ih := fun {m : List SV} => qU1 ho ho3 hs hen (l := l) (m := m) hc.2 zH3
   unfold oJ
   cases hb : Nat.ble mkL y with
   | false => exact ih hw
   | true =>
     have c0 := hc.1;simp only [hb, cond_true] at c0 ⊢;split
     ·rename_i el gr g w t xs k0 g0 n0 o q hk hi;refine ih ?_;obtain ⟨k', g', n', hi2⟩ := hom i y _ _ _ _ _ zKI hb hi;rw [hi2] at c0;have c3 : qLW (lbL y) (.own k' g' n') h = true := c0
      have hv : (SV.own k' g' n').ok h := by
       have := dI hen hi2;simp only [SV.ok] at this ⊢;exact this.1
      have he := qLM ho ho3 hv c3 hk (hs _ _ (y5 hk));rw [xV];refine qFX hw ?_;rw [zH, hi2, zKJ];simp only [SV.enc, PV.own.injEq] at he ⊢;obtain ⟨e1, e2, _, _⟩ := he;rw [e1, e2]
     ·exact ih hw
theorem qR4 {l : List (Nat × TypeId)} {env : List SV} {h : SH} (hc : q0V l env h = true) {i y : Nat} (hm : (i, y) ∈ l) (hb : Nat.ble mkL y = true) : ∃ g n o q, zC env i = some (.sl (lbL y) g n o q) := by
 unfold q0V at hc;have := zJ8.1 hc (i, y) hm;simp only [hb, cond_true] at this;split at this
 ·rename_i v hv;unfold q88 at this;split at this
  ·rename_i k g n o q;unfold qLW at this;simp only [zJ5] at this;have hk := zJ6 this.1;rw [hk] at hv;exact ⟨g, n, o, q, hv⟩
  ·exact absurd this zMO
 ·exact absurd this zMO
def qU5 (rdv : List SV -> SH -> Option (TyL rs)) (id : Nat) (sh : Sh) (os : List (Nat × Bool)) (ts : List Ty) (mk : TyL ts -> Option (List SV × SH)) (h1 hh : SH) : uK Γ (GS Γ (TyL ts) ⊕ (GS Γ (TyL ts) ⊕ (GS Γ (TyL rs) ⊕ GS Γ (Nat × TyL ts)))) := fun e g env h => match e with
 | .normal => cond (q0V sh.v env h) (match bk sh os ts mk h1 hh env h with
   | some s => .ret (.inl (gj g s))
   | none => .fail) .fail
 | .exit j => cond (q0V sh.v env h) (match bk sh os ts mk h1 hh env h with
   | some s => .ret (.inr (cond (Nat.beq j id) (.inl (gj g s)) (.inr (.inr (gj g (j, s))))))
   | none => .fail) .fail
 | .ret => (match rdv env h with
   | some v => .ret (.inr (.inr (.inl (gj g v))))
   | none => .fail)
 | .goto _ => .fail
def goS {α : Type} (o : Option (α × SH)) (K : α -> SH -> q98 R) : q98 R := match o with
 | some p => K p.1 p.2
 | none => .fail
omit [Yl] in
theorem qB1 {α : Type} {o : Option (α × SH)} {K : α -> SH -> q98 R} (e : (goS o K).run = some r) : ∃ a h, o = some (a, h) ∧ (K a h).run = some r := by
 unfold goS at e;split at e
 ·exact ⟨_, _, rfl, e⟩
 ·cases e
def q6Y (P : Program) (nm : Nm) (wb w : List Nat) (rdv : List SV -> SH -> Option (TyL rs)) (en : TyL rs -> List SV) (hb : SH) (sh : Sh) (id : Nat) (body : ∀ {R' : Type}, GV Γ -> List SV -> SH -> uK Γ R' -> q98 R') (g : GV Γ) (env : List SV) (h : SH) (K : uK Γ R) : q98 R :=
 qQG P nm sh.v env h fun zAG h0 => qR3 P nm (sh.b.map (·.1)) sh.bv zAG h0 fun zAG h1 => match qIA sh.d zAG, qWG sh.o h1, q1A sh.b h1, q19 sh.o h1 with
  | some a, some b, some c, some os => (match q8Y (a ++ (b ++ c)) with
    | some ts => (match qCL ts (a ++ (b ++ c)) with
      | some s0 => cond ((qLE sh.s zAG h1 && qFJ (sh.b.map (·.1)) sh.b h1 h1) && (q0V sh.v zAG h1 && slW wb sh.v))
         (.loop (fun s => goS (mkS P w sh ts os zAG h1 (g2 s)) fun e hh => .ite (slG sh.v zAG hh) (body (g1 s) (oJ sh.v zAG hh e) hh (qU5 rdv id sh os ts (mkS P w sh ts os zAG h1) h1 hh)) .fail) (gj g s0)
           fun q => q98.sum q (fun s => goS (mkS P w sh ts os zAG h1 (g2 s)) fun e hh => .ite (slG sh.v zAG hh) (K .normal (g1 s) (oJ sh.v zAG hh e) hh) .fail)
            fun q2 => q98.sum q2 (fun v => K .ret (g1 v) (en (g2 v)) ⟨h.next, hb.l⟩)
             fun p => q2B sh.ex (g2 p).1 fun j => goS (mkS P w sh ts os zAG h1 (g2 p).2) fun e hh => .ite (slG sh.v zAG hh) (K (.exit j) (g1 p) (oJ sh.v zAG hh e) hh) .fail) .fail
      | none => .fail)
    | none => .fail)
  | _, _, _, _ => .fail
def lpW (w : List Nat) (sh : Sh) : List Nat := sh.v.map (·.1) ++ (w ++ (sh.d ++ sh.s.map (·.1)))
structure zC6 (P : Program) (nm : Nm) (N : Nat) (hb : SH) (rdv : List SV -> SH -> Option (TyL rs)) (en : TyL rs -> List SV) : Prop where
 ob : OkH P hb
 wk : ∀ env h v, OkH P h -> okL h env -> env.length = N -> Keep hb h -> rdv env h = some v -> Wk P nm (qB env) (qD h.l) (qB (en v)) (qD hb.l)
 kept : ∀ env h v, OkH P h -> okL h env -> Keep hb h -> rdv env h = some v -> ∀ k o, slk k hb.l = some o -> slk k h.l = some o
 len : ∀ v, (en v).length = N
 ok : ∀ v h, okL h (en v)
omit [Yl] in
theorem q53 {h : SH} (a : OkH P h) {n : Nat} (hn : h.next <= n) : OkH P ⟨n, h.l⟩ := by
 have hk : ∀ {x : SV}, x.ok h -> x.ok ⟨n, h.l⟩ := fun {x} hx => SV.ok.keep (h := h) (h' := ⟨n, h.l⟩) ⟨hn, fun k ob hh _ => hh, fun k el gr g w t xs hh _ => ⟨w, xs, hh, rfl⟩⟩ hx
 exact ⟨fun k ob hh => zKB (a.ver k ob hh) hn, fun k el w l hh => yA.2 fun x hx => hk (yA.1 (a.cells k el w l hh) x hx), fun k el gr g w t xs hh => by
  have := a.list k el gr g w t xs hh
  exact ⟨zKB this.1 hn, this.2⟩⟩
omit [Yl] in
theorem tN : OkH P ⟨0, []⟩ := ⟨fun k ob h => (by cases h), fun k el w l h => (by cases h), fun k el gr g w t xs h => (by cases h)⟩
omit [Yl] in
theorem qQV {σ ρ : Type} {f : σ -> Option (σ ⊕ ρ)} {s : σ} {q : ρ} (h : zU f s = some q) : ∃ y, f s = some y := by
 rw [wN] at h
 cases hf : f s with
 | none => rw [hf] at h; cases h
 | some y => exact ⟨y, rfl⟩
omit [Yl] in
theorem qNE {ls : List Nat} {hh h : SH} {k : Nat} {o : SO} (ho : OkH P hh) (hk : Keep hh h) (e : mW ls hh h = true) (h1 : k ∉ ls) (h2 : slk k hh.l = some o) : slk k h.l = some o := by
 unfold mW at e;have := zJ8.1 e (k, o) (qMQ h2);rw [zLB] at this;rcases this with q | q
 ·exact absurd (wP.1 q) h1
 ·simp only at q;split at q
  ·rename_i o' ho';have hw : o'.w = o.w := zJ6 q;have := hk.same k o' ho' (by rw [hw]; exact ho.ver k o h2);rw [this] at h2;cases h2;exact ho'
  ·cases q
theorem qAP {ls : List Nat} {hh h : SH} {k : Nat} {o : SO} (ho : OkH P hh) (hk : Keep hh h) (e : mW ls hh h = true) (h1 : k ∉ ls) (h2 : slk k hh.l = some o) : qA k (qD h.l) = some o.enc := y5 (qNE ho hk e h1 h2)
theorem qW8 {w : List Nat} {rdv : List SV -> SH -> Option (TyL rs)} {en : TyL rs -> List SV} {hb : SH} (hrd : zC6 P nm N hb rdv en) {sh : Sh} {id : Nat} {y : Code} {body : ∀ {R' : Type}, GV Γ -> List SV -> SH -> uK Γ R' -> q98 R'} {wb : List Nat} (hwb : w = lpW wb sh)
 (hbody : ∀ {R' : Type} {g : GV Γ} {env : List SV} {h : SH} {K : uK Γ R'} {r : R'}, OkH P h -> okL h env -> env.length = N -> Keep hb h -> (body g env h K).run = some r -> qP P G rd nm wd y g (qB env) (qD h.l) (EQ P N wb env h K r))
 {g : GV Γ} {env : List SV} {h : SH} {K : uK Γ R} (ho : OkH P h) (he : okL h env) (hl : env.length = N) (hbh : Keep hb h) (e : (q6Y P nm wb w rdv en hb sh id body g env h K).run = some r) :
 qP P G rd nm wd (.block id (.loop y)) g (qB env) (qD h.l) (EQ P N w env h K r) := by
 obtain ⟨zAG, h0, wk1, zB8, e⟩ := sF (nm := nm) ho he e;obtain ⟨h1, wk2, kp2, ho1, e⟩ := qJ4 (nm := nm) zB8.2.1 zB8.1 e
 have zB1 : jU P (sh.v.map (·.1)) env h zAG h1 := ⟨qL kp2 zB8.1, ho1, zB8.2.2.1.trans kp2, zB8.2.2.2.1, zB8.2.2.2.2⟩
 split at e
 case h_2 => cases e
 rename_i a b c os ha hb1 hc1 hos;split at e
 case h_2 => cases e
 rename_i ts hts;split at e
 case h_2 => cases e
 rename_i s0 hs0;obtain ⟨hown, e1⟩ := qG e;rw [zJ5, zJ5, zJ5] at hown;obtain ⟨hown, hsl⟩ := hown;obtain ⟨q, hq, hafter⟩ := qW6 e1;have he1 := zB1.1;have zC7 := qFA hos;have hl1 : zAG.length = N := zB1.2.2.2.2.trans hl;have zGP : Keep hb h1 := hbh.trans zB1.2.2.1
 let E : GS Γ (TyL ts) -> List PV := fun s => match mkS P w sh ts os zAG h1 (g2 s) with
  | some p => qB (oJ sh.v zAG p.2 p.1)
  | none => []
 let Ph : GS Γ (TyL ts) -> PHp := fun s => match mkS P w sh ts os zAG h1 (g2 s) with
  | some p => qD p.2.l
  | none => []
 have hE : ∀ {s e2 h2}, mkS P w sh ts os zAG h1 (g2 s) = some (e2, h2) -> E s = qB (oJ sh.v zAG h2 e2) ∧ Ph s = qD h2.l := fun hm => by
  simp only [E, Ph, hm, and_self]
 obtain ⟨y0, hy0⟩ := qQV hq;obtain ⟨e0, hh0, hm0, _⟩ := qB1 hy0;obtain ⟨wp0, sp0⟩ := q55 ho1 ho1 he1 ha hb1 hc1 hs0 (by rw [q0N] at hm0; exact hm0) zC7 (qMM hos) hown.1 hown.2 (fun k o _ _ hk => y5 hk) (qNY rfl fun _ _ => rfl);have wp0 := qU1 ho1 (d9 ho1 he1 hm0).2.1 sp0 he1 hsl.1 (fun i y k g n o q _ _ hi => ⟨k, g, n, hi⟩) wp0
 have fin : ∀ {s e2 h2}, mkS P w sh ts os zAG h1 s = some (e2, h2) -> slG sh.v zAG h2 = true -> okL h2 (oJ sh.v zAG h2 e2) ∧ OkH P h2 ∧ (oJ sh.v zAG h2 e2).length = N ∧ jU P w env h (oJ sh.v zAG h2 e2) h2 ∧ Keep h1 h2 := fun {s e2 h2} hm hg => by
  obtain ⟨a1, a2, a3, a4, a5, _⟩ := d9 ho1 he1 hm;obtain ⟨b1, b2⟩ := qR1 a2 a3 hg;refine ⟨b1, a2, (b2.trans a4).trans hl1, ⟨b1, a2, zB1.2.2.1.trans a1, fun i hi => ?_, (b2.trans a4).trans zB1.2.2.2.2⟩, a1⟩;have hi2 : i ∉ lpW wb sh := by rw [<- hwb]; exact hi
  unfold lpW at hi2;simp only [zLJ, not_or] at hi2;rw [zH, qJF hi2.1, <- zH, a5 i hi hi2.2.2.1 hi2.2.2.2, zB1.2.2.2.1 i hi2.1]
 refine qP.post (qP.pre' (wk1.trans wk2) ?_);refine qP.loop E Ph g1 hq (by rw [(hE hm0).1]; exact wp0) (by rw [(hE hm0).2]; exact sp0) q1D.symm ?_;intro s yy hstep;obtain ⟨e2, hh, hm, hb2⟩ := qB1 hstep
 rcases run_ite hb2 with ⟨hgd, hb2⟩ | ⟨_, hb2⟩
 rotate_left 1
 ·cases hb2
 obtain ⟨f1, f2, f3, f4, f5⟩ := fin hm hgd;rw [(hE hm).1, (hE hm).2];refine (hbody f2 f1 f3 (zGP.trans f5) hb2).mono ?_;rintro ex g' pe ph ⟨env', h', rfl, rfl, k1, k2, k3, k0, k4, k5⟩;obtain ⟨_, _, _, m4, m5, m6⟩ := d9 ho1 he1 hm
 have back : ∀ {s'}, ex ≠ .ret -> q0V sh.v env' h' = true -> bk sh os ts (mkS P w sh ts os zAG h1) h1 hh env' h' = some s' -> ∃ e3 h3, mkS P w sh ts os zAG h1 s' = some (e3, h3) ∧ WkP (qB env') (qB (oJ sh.v zAG h3 e3)) ∧ oK (qD h3.l) (qD h'.l) := by
  intro s' hne zC8 hbk;unfold bk at hbk;split at hbk
  case h_2 => cases hbk
  rename_i a' b' c' ha' hb' hc';split at hbk
  case h_2 => cases hbk
  rename_i s2 hs2
  cases hc : (q07 os h' && (qLE sh.s env' h' && (qFJ (sh.b.map (·.1)) sh.b h1 h' && (mW (sh.o ++ sh.b.map (·.1)) hh h' && (mkS P w sh ts os zAG h1 s2).isSome)))) with
  | false => rw [hc] at hbk; cases hbk
  | true =>
    rw [hc] at hbk;cases hbk;simp only [zJ5] at hc;obtain ⟨⟨e3, h3⟩, hm3⟩ := zK3.1 hc.2.2.2.2;have zDV := k4 hne
    have hboth : WkP (qB env') (qB e3) ∧ oK (qD h3.l) (qD h'.l) := by
     refine q55 k2 ho1 k1 ha' hb' hc' hs2 hm3 zC7 hc.1 hc.2.1 hc.2.2.1 (fun k o hk hkb hk2 => qAP f2 zDV.2.2.1 hc.2.2.2.1 (by rw [zLJ, not_or]; exact ⟨hk, hkb⟩) ?_) (qNY ?_ ?_)
     ·rw [m6 k (by rw [zC7]; exact hk) hkb]; exact hk2
     ·rw [k3, hl1]
     ·intro i hi;have hi2 : i ∉ lpW wb sh := by rw [<- hwb]; exact hi
      unfold lpW at hi2;simp only [zLJ, not_or] at hi2;rw [zDV.2.2.2.1 i hi2.2.1, zH, qJF hi2.1, <- zH, m5 i hi hi2.2.2.1 hi2.2.2.2]
    refine ⟨e3, h3, hm3, qU1 k2 (d9 ho1 he1 hm3).2.1 hboth.2 k1 zC8 (fun i y k g n o q hmem hb hi => ?_) hboth.1, hboth.2⟩;obtain ⟨g2, n2, o2, q2, hi3⟩ := qR4 zC8 hmem hb
    have hlab : ∀ y', (i, y') ∈ sh.v -> Nat.ble mkL y' = true -> lbL y' = lbL y := fun y' hm' hb' => by
     obtain ⟨_, _, _, _, p1⟩ := qR4 hsl.1 hm' hb';obtain ⟨_, _, _, _, p2⟩ := qR4 hsl.1 hmem hb;have p3 := zK5 (p1.symm.trans p2);simp only [SV.sl.injEq] at p3;exact p3.1
    obtain ⟨g3, n3, h5⟩ := qO7 (h := hh) (e := e2) hi hlab hmem hb hgd (by
     rw [m4];rw [qF] at hi
     exact (zKA.1 hi).1)
    have hnb : i ∉ wb := fun hib => by
     have h6 := hsl.2;unfold slW at h6;have h7 := zJ8.1 h6 (i, y) hmem;simp only [hb, cond_true, wP.2 hib] at h7;cases h7
    have h8 := zDV.2.2.2.1 i hnb;rw [zH, zH, hi3, h5] at h8;simp only [zKJ, SV.enc, zKC, PV.own.injEq] at h8;obtain ⟨_, _, e1, e2⟩ := h8;exact ⟨_, _, _, by rw [hi3, e1, e2]⟩
 have out : ∀ {x s' e3 h3}, mkS P w sh ts os zAG h1 s' = some (e3, h3) -> WkP (qB env') (qB (oJ sh.v zAG h3 e3)) -> oK (qD h3.l) (qD h'.l) -> (q98.ite (slG sh.v zAG h3) (K x g' (oJ sh.v zAG h3 e3) h3) .fail).run = some r -> ∃ pe' ph', Wk P nm (qB env') (qD h'.l) pe' ph' ∧ EQ P N w env h K r x g' pe' ph' := fun {x s' e3 h3} hm3 w1 w2 hk => by
  rcases run_ite hk with ⟨zH4, hk⟩ | ⟨_, hk⟩
  rotate_left 1
  ·cases hk
  obtain ⟨g1, g2, g3, g4, g5⟩ := fin hm3 zH4;exact ⟨_, _, Wk.drop w1 w2, oJ sh.v zAG h3 e3, h3, rfl, rfl, g1, g2, g3, g4.2.2.1, fun _ => g4, hk⟩
 cases ex with
 | normal =>
   simp only [qU5] at k5;obtain ⟨zC8, k5⟩ := qG k5;split at k5
   case h_2 => cases k5
   rename_i s' hs';cases k5;obtain ⟨e3, h3, hm3, w1, w2⟩ := back (fun h => by cases h) zC8 hs';have hm3 : mkS P w sh ts os zAG h1 (g2 (gj g' s')) = some (e3, h3) := by rw [q0N]; exact hm3
   show zA8.normal = .normal ∧ WkP (qB env') (E (gj g' s')) ∧ oK (Ph (gj g' s')) (qD h'.l) ∧ g' = g1 (gj g' s');rw [(hE hm3).1, (hE hm3).2, q1D];exact ⟨rfl, w1, w2, rfl⟩
 | exit j =>
   simp only [qU5] at k5;obtain ⟨zC8, k5⟩ := qG k5;split at k5
   case h_2 => cases k5
   rename_i s' hs';obtain ⟨e3, h3, hm3, w1, w2⟩ := back (fun h => by cases h) zC8 hs';cases k5;intro hqe;refine ⟨fun h => by (cases h), ?_⟩
   cases hj : Nat.beq j id with
   | true =>
     rw [hj] at hqe;subst hqe;have hjj : j = id := zJ6 hj;subst hjj;have hafter : (goS (mkS P w sh ts os zAG h1 (g2 (gj g' s'))) fun e hh => q98.ite (slG sh.v zAG hh) (K .normal (g1 (gj g' s')) (oJ sh.v zAG hh e) hh) .fail).run = some r := hafter;obtain ⟨e4, h4, hm4, hk⟩ := qB1 hafter;rw [q0N, hm3] at hm4;cases hm4;rw [q1D] at hk;exact BQY.on (out hm3 w1 w2 hk)
   | false =>
     rw [hj] at hqe;subst hqe;have hjj : j ≠ id := fun h => by rw [h, rF] at hj; cases hj
     obtain ⟨e4, h4, hm4, hk⟩ := qB1 (qPE hafter);rw [q0N, hm3] at hm4;cases hm4;rw [q1D, q0N] at hk;exact BQY.ex hjj (out hm3 w1 w2 hk)
 | ret =>
   simp only [qU5] at k5;split at k5
   case h_2 => cases k5
   rename_i v hv;cases k5;intro hqe;subst hqe;have hbr : Keep hb h' := (zGP.trans f5).trans k0;have hkp := hrd.kept _ _ _ k2 k1 hbr hv
   have hkh : ∀ k o, slk k hb.l = some o -> slk k h.l = some o := fun k o hk => by
    have h2 := hkp k o hk;have hw : o.w < h.next := zKB (hrd.ob.ver k o hk) hbh.next;have zEM : Keep h h' := (zB1.2.2.1.trans f5).trans k0;exact zEM.same k o h2 hw
   have hkeep : Keep h ⟨h.next, hb.l⟩ := ⟨zJ7 _, fun k ob hk _ => hkh k ob hk, fun k el gr g w t xs hk _ => ⟨w, xs, hkh k _ hk, rfl⟩⟩
   have hafter : (K .ret (g1 (gj g' v)) (en (g2 (gj g' v))) ⟨h.next, hb.l⟩).run = some r := hafter;rw [q1D, q0N] at hafter;refine ⟨fun h => by (cases h), BQY.rt ⟨_, _, hrd.wk _ _ _ k2 k1 k3 hbr hv, en v, ⟨h.next, hb.l⟩, rfl, rfl, hrd.ok v _, q53 hrd.ob hbh.next, hrd.len v, hkeep, fun h => absurd rfl h, hafter⟩⟩
 | goto l => simp only [qU5] at k5; cases k5
end
end Go.Sv
namespace Go.Sv
open Go.Idl
noncomputable section
variable [Gc]
variable [Yl]
variable {P : Program} {Γ : Option Type} {R : Type} {r : R} {nm : Nm} {G : Nat -> Bool} {rd : Bool} {N : Nat} {rs : List Ty} {tab : uH} {nat : y7} {good : FuncId -> Bool} {wd : Wld (GV Γ)}
omit [Yl] in
theorem qBU : ∀ {ts : List Ty} {x : TyL ts} {y : PV}, y ∈ pvL ts x -> ∃ (t : Ty) (z : t.sem), y = t.pv z
 | [], _, _, h => by cases h
 | [t], x, y, h => ⟨t, x, by simpa [pvL] using h⟩
 | t :: u :: ts, x, y, h => by
   have h : y ∈ t.pv x.1 :: pvL (u :: ts) x.2 := h;rcases zKS.1 h with q | q
   ·exact ⟨t, x.1, q⟩
   ·exact qBU q
omit [Yl] in
theorem qVO (t : Ty) (x : t.sem) : qHK (t.pv x) = true := by
 unfold Ty.pv
 cases t.one with
 | true => rfl
 | false =>
   show ((t.cells x).map PV.f).all qRA = true;rw [zJ8];intro y hy;obtain ⟨c, _, rfl⟩ := zKX.1 hy;rfl
omit [Yl] in
theorem q1S {Z : Nat -> Prop} {H : IH} {M M' : Nat -> Option (Nat × PO)} {ts : List Ty} {x : TyL ts} {vs : List Value} (h : VRL P Z H M (pvL ts x) vs) : VRL P Z H M' (pvL ts x) vs := ⟨h.len, fun i y v a b => by
 obtain ⟨t, z, rfl⟩ := qBU (zK8 a)
 exact bE (h.val i _ v a b) (qVO t z)⟩
omit [Yl] in
theorem qF1 : ∀ (ts : List Ty) (x : TyL ts), (svL ts x).length = ts.length
 | [], _ => rfl
 | [_], _ => rfl
 | t :: u :: ts, x => by
   show (t.sv x.1 :: svL (u :: ts) x.2).length = _;simp only [zKO, qF1 (u :: ts)]
def qZE (t : Ty) (x : t.sem) : PV := .lp (t.cells x) 0
def q4G : (ts : List Ty) -> TyL ts -> List PV
 | [], _ => []
 | [t], x => [qZE t x]
 | t :: u :: ts, x => qZE t x.1 :: q4G (u :: ts) x.2
def qMS : (ts : List Ty) -> TyL ts -> List SV
 | [], _ => []
 | [t], x => [.lp t [x] 0 0]
 | t :: u :: ts, x => .lp t [x.1] 0 0 :: qMS (u :: ts) x.2
theorem qGC : ∀ (ts : List Ty) (x : TyL ts), qB (qMS ts x) = q4G ts x
 | [], _ => by simp [qMS, q4G, qB]
 | [t], x => by simp [qMS, q4G, qB, SV.enc, qZE]
 | t :: u :: ts, x => by
   show qB (.lp t [x.1] 0 0 :: qMS (u :: ts) x.2) = qZE t x.1 :: q4G (u :: ts) x.2;simp only [qB, qGC (u :: ts)];simp [SV.enc, qZE]
omit [Yl] in
theorem qRV {h : SH} : ∀ (ts : List Ty) (x : TyL ts), okL h (qMS ts x)
 | [], _ => by simp [qMS, okL]
 | [t], x => by simp [qMS, okL, SV.ok]
 | t :: u :: ts, x => by
   show okL h (.lp t [x.1] 0 0 :: qMS (u :: ts) x.2);simp only [okL, SV.ok, true_and];exact qRV (u :: ts) x.2
omit [Yl] in
theorem qEE : ∀ (ts : List Ty) (x : TyL ts), (qMS ts x).length = ts.length
 | [], _ => rfl
 | [_], _ => rfl
 | t :: u :: ts, x => by
   show (SV.lp t [x.1] 0 0 :: qMS (u :: ts) x.2).length = _;simp only [zKO, qEE (u :: ts)]
def qCA (P : Program) (t : Ty) (v : SV) (h : SH) : Option (t.sem × SH) := match v with
 | .ref k off w => (match slk k h.l with
   | some (.cells el _ l) => cond (!spec P el && (Nat.beq off 0 && Nat.beq w l.length)) (match t.zC5 P (vE P 8 el) l (h.del k) with
     | some (x, _, [], h') => some (x, h')
     | _ => none) none
   | _ => none)
 | _ => none
def aP (P : Program) : (ts : List Ty) -> List SV -> SH -> Option (TyL ts × SH)
 | [], [], h => some ((), h)
 | [t], [v], h => qCA P t v h
 | t :: u :: ts, v :: vs, h => match qCA P t v h with
   | some (x, h1) => (match aP P (u :: ts) vs h1 with
     | some (y, h2) => some ((x, y), h2)
     | none => none)
   | none => none
 | _, _, _ => none
theorem qBC {t : Ty} {v : SV} {h : SH} {x : t.sem} {h' : SH} (ho : OkH P h) (e : qCA P t v h = some (x, h')) :
 Keep h h' ∧ OkH P h' ∧ ∀ (Z : Nat -> Prop) (H : IH) (m : Nat -> Nat) (u : Value), Hp P Z H (own m (qD h.l)) -> VR P Z H (own m (qD h.l)) v.enc u -> ∃ Z', Fz P Z H m (qD h.l) Z' (qD h'.l) ∧ VR P Z' H (fun _ => none) (qZE t x) u := by
 unfold qCA at e;split at e
 case h_2 => cases e
 rename_i k off w;split at e
 case h_2 => cases e
 rename_i el w0 l hk
 cases hc : (!spec P el && (Nat.beq off 0 && Nat.beq w l.length)) with
 | false => rw [hc] at e; cases e
 | true =>
   rw [hc] at e;simp only [cond_true] at e;rw [zJ5, zK4] at hc;obtain ⟨hsp, hc⟩ := hc;rw [zJ5] at hc;have h1 : off = 0 := zJ6 hc.1;have h2 : w = l.length := zJ6 hc.2;subst h1 h2;split at e
   case h_2 => cases e
   rename_i y zAP h2 hd;cases e;have hd0 := dV (k := k) ho;obtain ⟨a1, a2, a3, ys, a4, a5⟩ := qB8 hd0.2 (qL hd0.1 (ho.cells _ _ _ _ hk)) hd;refine ⟨hd0.1.trans a2, a3, fun Z H m u hp hv => ?_⟩;have hkp := y5 hk;have zBA : real (SO.cells el w0 l).enc := fun q => by cases q.1
   obtain ⟨w1, w2, w3, vs, q1, q2, q3⟩ := hp.real hkp zBA hsp;have hcut := Fz.del hp hkp zBA;have hfz := a4 [] (qD h'.l) (by simp [qB, qDR]);rw [zLS] at hfz;rw [show qD (h.del k).l = rV k (qD h.l) from oF k _] at hfz;obtain ⟨Z2, c2, r2⟩ := qGI (fun a b c => qNQ 4 a b c) hcut.hp (hcut.vrl q2) hfz;refine ⟨Z2, hcut.trans c2, ?_⟩;simp only [SV.enc] at hv
   cases hv with
   | ref g1 g2 =>
     obtain ⟨_, g3⟩ := g2 _ _ (qN hkp);obtain ⟨rfl, _⟩ := g3 (by simp [SO.enc, qW]);have hrt := qDZ (P := P) (M := fun _ => none) (f := rtC P) (ts := vE P 8 el) (fun t x v h => q0S h) (r2.map (P := P) (M := fun _ => none));have h5 := (a5 []).1;rw [zLS] at h5;rw [h5] at hrt
     have hrt : VRL P Z2 H (fun _ => none) ((t.cells x).map .f) vs := by
      cases zAP <;> simpa [rtL] using hrt
     have hlen : (t.cells x).length = vs.length := by have := hrt.len; simpa using this
     refine .lp (o := 0) (vs := vs) (c2.zle _ (.inr rfl)) w1 ?_ ?_
     ·rw [hlen];exact kU q1 (by omega) (by simp)
     ·intro i y v hy hvv;have := hrt.val i (.f y) v (by rw [zKL, hy]; rfl) hvv
      cases this with
      | f h => exact h
theorem qD3 : ∀ {ts : List Ty} {vs : List SV} {h : SH} {x : TyL ts} {h' : SH}, OkH P h -> aP P ts vs h = some (x, h') ->
 Keep h h' ∧ OkH P h' ∧ ∀ (Z : Nat -> Prop) (H : IH) (m : Nat -> Nat) (us : List Value), Hp P Z H (own m (qD h.l)) -> VRL P Z H (own m (qD h.l)) (qB vs) us -> ∃ Z', Fz P Z H m (qD h.l) Z' (qD h'.l) ∧ VRL P Z' H (fun _ => none) (q4G ts x) us
 | [], [], h, x, h', ho, e => by
   unfold aP at e;cases e;refine ⟨.refl _, ho, fun Z H m us hp hv => ⟨Z, .refl hp, ?_⟩⟩;simp only [qB] at hv;rw [hv.zAE];exact .nil
 | [t], [v], h, x, h', ho, e => by
   unfold aP at e;obtain ⟨a1, a2, a3⟩ := qBC ho e;refine ⟨a1, a2, fun Z H m us hp hv => ?_⟩;simp only [qB] at hv;obtain ⟨u, us', rfl, b1, b2⟩ := hv.zAB;obtain ⟨Z', c1, c2⟩ := a3 Z H m u hp b1;rw [b2.zAE];exact ⟨Z', c1, .cons c2 .nil⟩
 | t :: u :: ts, v :: vs, h, x, h', ho, e => by
   unfold aP at e;split at e
   case h_2 => cases e
   rename_i x1 h1 hd;split at e
   case h_2 => cases e
   rename_i y h2 hd2;cases e;obtain ⟨a1, a2, a3⟩ := qBC ho hd;obtain ⟨b1, b2, b3⟩ := qD3 a2 hd2;refine ⟨a1.trans b1, b2, fun Z H m us hp hv => ?_⟩;simp only [qB] at hv;obtain ⟨w, us', rfl, d1, d2⟩ := hv.zAB;obtain ⟨Z1, c1, c2⟩ := a3 Z H m w hp d1;obtain ⟨Z2, f1, f2⟩ := b3 Z1 H m us' c1.hp (c1.vrl d2);exact ⟨Z2, c1.trans f1, .cons (c2.mono (p := fun _ => false) f1.zle (zJ7 _) (fun _ _ _ => rfl) (.refl _ _) fun j hj => by cases hj) f2⟩
 | [], _ :: _, _, _, _, _, e => by cases e
 | t :: ts, [], _, _, _, _, e => by cases ts <;> (unfold aP at e; cases e)
 | [_], _ :: _ :: _, _, _, _, _, e => by unfold aP at e; cases e
def q0U (P : Program) (G : Nat -> Bool) (f : FuncId) (ent : zAV) : Prop := entered P f = true ∧ ∀ (x : TyL ent.as) (γ : Type) (stp : γ -> TyL ent.ys -> Option (γ × Bool)) (g0 g1 : γ), ent.F x γ stp g0 = some g1 -> ∀ (w : Wld γ) (l : Nat),
 (∀ g y g' b, stp g y = some (g', b) -> qHC P G w l g (pvL ent.ys y) g' b) -> ∀ (Z : Nat -> Prop) (H : IH) (D : Nat -> Prop) (us : List Value), (∀ b, Z b -> b < H.size) -> H.base <= H.size -> qZW Z H -> w.W g0 Z H D -> VRL P Z H (fun _ => none) (q4G ent.as x) us ->
 uI P G f (.func (.yield l) #[] #[] :: us) H fun r => ∃ Z' D', (∀ b, Z' b -> b < r.2.size) ∧ w.W g1 Z' r.2 D' ∧ StW Z H D Z' r.2 D'
def q1B (P : Program) (G : Nat -> Bool) (IT : List (FuncId × zAV)) : Prop := ∀ f ent, slI f IT = some ent -> q0U P G f ent
def qCN : List Nat -> List SV -> List SV -> List SV
 | i :: is, v :: vs, env => qCN is vs (xA env i v)
 | _, _, env => env
def noSh (sh : Sh) : Bool := sh.d.isEmpty && (sh.s.isEmpty && sh.v.isEmpty)
def qWU (sh : Sh) (os : List (Nat × Bool)) (ts : List Ty) (mk : TyL ts -> Option (List SV × SH)) (h1 hh : SH) : uK Γ (GS Γ (TyL ts) × Bool) := fun e g env h => match e with
 | .normal => (match bk sh os ts mk h1 hh env h with
   | some s => .ret (gj g s, true)
   | none => .fail)
 | _ => .fail
def q8R {R : Type} (k : GV Γ -> List SV -> SH -> q98 R) : uK Γ R := fun e g env h => match e with
 | .normal => k g env h
 | _ => .fail
def rgN (nm : Nm) (l : List Nat) : Nm := ⟨nm.b, fun k => nm.p k && !qCU k l⟩
def q0F (P : Program) (G : Nat -> Bool) (IT : List (FuncId × zAV)) (nm : Nm) (sh : Sh) (v : Operand) (ps : Array Tmp) (bx bY : Code) (x y : ∀ {R' : Type}, Nm -> GV Γ -> List SV -> SH -> uK Γ R' -> q98 R') (g : GV Γ) (env : List SV) (h : SH) (K : uK Γ R) : q98 R :=
 qR3 P nm (sh.b.map (·.1)) sh.bv env h fun env h1 => match xL env v with
  | .fn f [] caps => (match slI f IT with
    | some ent => (match aP P ent.as caps h1 with
      | some (z, h2) => (match qWG sh.o h2, q1A sh.b h2, q19 sh.o h2 with
        | some b, some c, some os => (match q8Y (b ++ c) with
          | some ts => (match qCL ts (b ++ c) with
            | some s0 => cond (noSh sh && (qFJ (sh.b.map (·.1)) sh.b h2 h2 && (Nat.beq ps.size ent.ys.length && (jJ G v && (codeOk G true bx && codeOk G true bY)))))
               (goS (mkS P [] sh ts os env h2 s0) fun _ _ => .bind (ent.F z (GS Γ (TyL ts)) (fun s w => (goS (mkS P [] sh ts os env h2 (g2 s)) fun e hh => x (rgN nm (h2.l.map (·.1) ++ (os.map (·.1) ++ sh.b.map (·.1)))) (g1 s) (qCN ps.toList (svL ent.ys w) e) hh
                 (q8R fun g3 e3 h3 => y (rgN nm (h2.l.map (·.1) ++ (os.map (·.1) ++ sh.b.map (·.1)))) g3 e3 h3 (qWU sh os ts (mkS P [] sh ts os env h2) h2 hh))).run) (gj g s0))
                 fun q => goS (mkS P [] sh ts os env h2 (g2 q)) fun e hh => K .normal (g1 q) e hh) .fail
            | none => .fail)
          | none => .fail)
        | _, _, _ => .fail)
      | none => .fail)
    | none => .fail)
  | _ => .fail
omit [Yl] in
theorem qHZ : ∀ (i : Nat) (l : List SV), blank [] i l = l
 | _, [] => rfl
 | i, x :: l => by simp [blank, qCU, qHZ (i + 1) l]
omit [Yl] in
theorem qGP {sh : Sh} {ts : List Ty} {os : List (Nat × Bool)} {env e2 : List SV} {h1 h2 : SH} {s : TyL ts} (hn : noSh sh = true) (hm : mkS P [] sh ts os env h1 s = some (e2, h2)) : e2 = env := by
 unfold noSh at hn;simp only [zJ5, List.isEmpty_iff] at hn;unfold mkS at hm;rw [hn.1, hn.2.1] at hm;split at hm
 ·split at hm
  ·split at hm
   ·rename_i e3 hss;cases hm;have : some (blank [] 0 env) = some e2 := hss;rw [qHZ] at this;exact (zK5 this).symm
   ·cases hm
  ·cases hm
 ·cases hm
omit [Yl] in
theorem qHJ : ∀ (ps : List Nat) (vs env : List SV), (qCN ps vs env).length = env.length
 | [], vs, env => rfl
 | i :: is, [], env => rfl
 | i :: is, v :: vs, env => by
   show (qCN is vs (xA env i v)).length = _;rw [qHJ is, jE]
omit [Yl] in
theorem qNV {h : SH} : ∀ {ps : List Nat} {vs env : List SV}, okL h vs -> okL h env -> okL h (qCN ps vs env)
 | [], vs, env, _, he => he
 | i :: is, [], env, _, he => he
 | i :: is, v :: vs, env, hv, he => by
   simp only [okL] at hv;exact qNV (ps := is) hv.2 (xW he hv.1)
theorem qJQ {Z : Nat -> Prop} {H : IH} {M : Nat -> Option (Nat × PO)} : ∀ {ps : List Nat} {vs env : List SV} {ws q99 : List Value}, VRL P Z H M (qB vs) ws -> VRL P Z H M (qB env) q99 -> VRL P Z H M (qB (qCN ps vs env)) ((ps.zip ws).foldl (fun e p => xA e p.1 p.2) q99)
 | [], vs, env, ws, q99, _, he => he
 | i :: is, [], env, ws, q99, hv, he => by
   simp only [qB] at hv;rw [hv.zAE];exact he
 | i :: is, v :: vs, env, ws, q99, hv, he => by
   simp only [qB] at hv;obtain ⟨w, ws', rfl, a1, a2⟩ := hv.zAB;show VRL P Z H M (qB (qCN is vs (xA env i v))) ((is.zip ws').foldl (fun e p => xA e p.1 p.2) (xA q99 i w));refine qJQ a2 ?_;rw [xV, zA, zA];exact he.set a1 i
def rgW (P : Program) (wd : Wld (GV Γ)) (env : List SV) (h0 : SH) (q99 : Env) (H0 : IH) (m0 : Nat -> Nat) (D0 : Nat -> Prop) (lp : Loop) {S : Type} (mk : S -> Option (List SV × SH)) : Wld (GS Γ S) where
 W q Z H D := ∃ e hh m Dg, mk (g2 q) = some (e, hh) ∧ St P wd (g1 q) (qB env) (qD hh.l) Z H m q99 Dg ∧ H.get H0.size = some (.loop lp) ∧ H0.size < H.size ∧ ¬ aU (own m (qD hh.l)) H0.size ∧ ¬ Dg H0.size ∧ ¬ Z H0.size ∧
  (∀ b, D b ↔ aU (own m (qD hh.l)) b ∨ Dg b ∨ b = H0.size) ∧ KR (fun _ => false) (own m0 (qD h0.l)) (own m (qD hh.l)) ∧ (∀ b, aU (own m (qD hh.l)) b -> b < H0.size -> aU (own m0 (qD h0.l)) b) ∧ (∀ b, Dg b -> b < H0.size -> D0 b) ∧ H.base = H0.base
 lt := by
  rintro g Z H D ⟨e, hh, m, Dg, a1, a2, a3, a4, a5, a6, a7, a8, _⟩ b hb;rcases (a8 b).1 hb with q | q | q
  ·exact (aB a2.hp q).1
  ·exact wd.lt a2.wd b q
  ·rw [q]; exact a4
 nz := by
  rintro g Z H D ⟨e, hh, m, Dg, a1, a2, a3, a4, a5, a6, a7, a8, _⟩ b hb;rcases (a8 b).1 hb with q | q | q
  ·exact (aB a2.hp q).2
  ·exact wd.nz a2.wd b q
  ·rw [q]; exact a7
 keep := by
  rintro g Z H D Z' H' ⟨e, hh, m, Dg, a1, a2, a3, a4, a5, a6, a7, a8, a9, a10, a11, a12⟩ hz hl hs hb hg hn;refine ⟨e, hh, m, Dg, a1, a2.other hz hl hs hb (fun b h1 h2 => hg b h1 ?_) (fun b h => hn b ((a8 b).2 ?_)), ?_, zKB a4 hs, a5, a6, hn _ ((a8 _).2 (.inr (.inr rfl))), a8, a9, a10, a11, hb.trans a12⟩
  ·rcases h2 with q | q | q
   ·exact .inl ((a8 b).2 (.inl q))
   ·exact .inl ((a8 b).2 (.inr (.inl q)))
   ·exact .inr q
  ·rcases h with q | q
   ·exact .inl q
   ·exact .inr (.inl q)
  ·rw [hg _ a4 (.inl ((a8 _).2 (.inr (.inr rfl))))]; exact a3
omit [Yl] in
theorem q3F {R : Type} {k : GV Γ -> List SV -> SH -> q98 R} {e : zA8} {g : GV Γ} {env : List SV} {h : SH} {r : R} (q : (q8R k e g env h).run = some r) : e = .normal ∧ (k g env h).run = some r := by
 cases e with
 | normal => exact ⟨rfl, q⟩
 | _ => cases q
omit [Yl] in
theorem qZQ {sh : Sh} {os : List (Nat × Bool)} {ts : List Ty} {mk : TyL ts -> Option (List SV × SH)} {h1 hh : SH} {e : zA8} {g : GV Γ} {env : List SV} {h : SH} {r : GS Γ (TyL ts) × Bool} (q : (qWU sh os ts mk h1 hh e g env h).run = some r) :
 e = .normal ∧ ∃ s, bk sh os ts mk h1 hh env h = some s ∧ r = (gj g s, true) := by
 cases e with
 | normal =>
   simp only [qWU] at q;split at q
   ·rename_i s hs;cases q;exact ⟨rfl, s, hs, rfl⟩
   ·cases q
 | _ => cases q
theorem qWN {sh : Sh} {ts : List Ty} {os : List (Nat × Bool)} {env : List SV} {h2 : SH} {q99 : Env} {H0 : IH} {m0 : Nat -> Nat} {D0 : Nat -> Prop} {lp : Loop} {bx bY : Code} {x y : ∀ {R' : Type}, Nm -> GV Γ -> List SV -> SH -> uK Γ R' -> q98 R'} {wx wy : List Nat} {ent : zAV} {ks : List Nat} {hb : SH}
 (hx : ∀ {R' : Type} {nm : Nm} {g : GV Γ} {env : List SV} {h : SH} {K : uK Γ R'} {r : R'}, OkH P h -> okL h env -> env.length = N -> Keep hb h -> (x nm g env h K).run = some r -> qP P G true nm wd bx g (qB env) (qD h.l) (EQ P N wx env h K r))
 (hy : ∀ {R' : Type} {nm : Nm} {g : GV Γ} {env : List SV} {h : SH} {K : uK Γ R'} {r : R'}, OkH P h -> okL h env -> env.length = N -> Keep hb h -> (y nm g env h K).run = some r -> qP P G true nm wd bY g (qB env) (qD h.l) (EQ P N wy env h K r))
 (ho2 : OkH P h2) (he2 : okL h2 env) (hbh : Keep hb h2) (hl : env.length = N) (hn : noSh sh = true) (hos : os.map (·.1) = sh.o) (hks : ∀ k, k ∉ ks -> k ∉ os.map (·.1) ∧ k ∉ sh.b.map (·.1) ∧ slk k h2.l = none)
 (hr1 : lp.state = .ready) (hr2 : lp.pending = none) (hr3 : lp.tmps.toList = q99) (hr5 : lp.assign = bx) (hr6 : lp.body = bY) (hps : lp.params.size = ent.ys.length)
 {q q' : GS Γ (TyL ts)} {w : TyL ent.ys} {b : Bool} (e : (goS (mkS P [] sh ts os env h2 (g2 q)) fun e hh => x (rgN nm ks) (g1 q) (qCN lp.params.toList (svL ent.ys w) e) hh (q8R fun g3 e3 h3 => y (rgN nm ks) g3 e3 h3 (qWU sh os ts (mkS P [] sh ts os env h2) h2 hh))).run = some (q', b)) :
 qHC P G (rgW P wd env h2 q99 H0 m0 D0 lp (mkS P [] sh ts os env h2)) H0.size q (pvL ent.ys w) q' b := by
 obtain ⟨e2, hh, hm, hb2⟩ := qB1 e;have he := qGP hn hm;subst he;intro Z H D ivs hz hbs hW hv;obtain ⟨e', hh', m, Dg, a1, a2, a3, a4, a5, a6, a7, a8, a9, a10, a11, a12⟩ := hW;rw [hm] at a1;cases a1;obtain ⟨m1, m2, m3, m4, m5, m6⟩ := d9 ho2 he2 hm;have hlen : ivs.length = lp.params.size := by rw [<- hv.len, <- qBQ, qW, qF1, hps]
 have zH5 : okL hh (qCN lp.params.toList (svL ent.ys w) e2) := qNV (qA5 _ _) m3;refine qRO a3 hr1 hlen ?_;rw [hr5, hr3]
 have hs0 : St P wd (g1 q) (qB (qCN lp.params.toList (svL ent.ys w) e2)) (qD hh.l) Z H m ((lp.params.toList.zip ivs).foldl (fun e p => xA e p.1 p.2) q99) Dg := by
  refine ⟨a2.hp, qJQ ?_ a2.vrl, a2.wd, a2.dis⟩;rw [qBQ];exact q1S hv
 refine (hx m2 zH5 (by rw [qHJ, m4, hl]) (hbh.trans m1) hb2 Z H m _ Dg hs0 hbs).mono ?_;rintro o ⟨Z2, m2', pe3, ph3, g3, D3, st3, sd3, kr3, e3, h3, rfl, rfl, k1, k2, k3, k0, k4, k5⟩;obtain ⟨hoe, k5⟩ := q3F k5;have hl3 : ¬ aU (own m2' (qD h3.l)) H0.size := fun h => a5 (sd3.onew _ h a4)
 have hD3 : ¬ D3 H0.size := fun h => a6 (sd3.zBP _ h a4)
 have hZ3 : ¬ Z2 H0.size := fun h => by
  rcases sd3.zA7 _ h a4 with q | q | q
  ·exact a7 q
  ·exact a5 q
  ·exact a6 q
 have hg3 : o.H.get H0.size = some (.loop lp) := (sd3.keep _ a4 a5 a6).trans a3;refine ⟨hoe, lp, hg3, hr1, ?_⟩;subst hr6;have hlt3 : H0.size < o.H.size := zKB a4 sd3.size
 have st4 : St P wd g3 (qB e3) (qD h3.l) Z2 (o.H.put H0.size (.loop { lp with state := .busy })) m2' o.env D3 := by
  refine st3.other (fun _ h => h) st3.hp.zlt (zJ7 _) rfl (fun b hb h => xJ fun e => ?_) (fun b h => ?_)
  ·subst e;rcases h with h | h | h
   ·exact hl3 h
   ·exact hD3 h
   ·exact hZ3 h
  ·rcases h with h | h
   ·exact (aB st3.hp h).2
   ·exact wd.nz st3.wd b h
 have hb4 : (o.H.put H0.size (.loop { lp with state := .busy })).base <= (o.H.put H0.size (.loop { lp with state := .busy })).size := by
  show o.H.base <= o.H.size;rw [sd3.base]; exact zKR hbs sd3.size
 refine (hy k2 k1 k3 ((hbh.trans m1).trans k0) k5 Z2 _ m2' o.env D3 st4 hb4).mono ?_;rintro s ⟨Z5, m5', pe5, ph5, g5, D5, st5, sd5, kr5, e5, h5, rfl, rfl, l1, l2, l3, l0, l4, l5⟩;obtain ⟨hse, s', hbk, hqe⟩ := qZQ l5;cases hqe;have zDW : H0.size < (o.H.put H0.size (.loop { lp with state := .busy })).size := hlt3;have hg5 : s.H.get H0.size = some (.loop { lp with state := .busy }) := (sd5.keep _ zDW hl3 hD3).trans (bG);have hl5 : ¬ aU (own m5' (qD h5.l)) H0.size := fun h => hl3 (sd5.onew _ h zDW)
 have hD5 : ¬ D5 H0.size := fun h => hD3 (sd5.zBP _ h zDW)
 have hZ5 : ¬ Z5 H0.size := fun h => by
  rcases sd5.zA7 _ h zDW with q | q | q
  ·exact hZ3 q
  ·exact hl3 q
  ·exact hD3 q
 have zH6 : H0.size < s.H.size := zKB zDW sd5.size;refine ⟨_, hg5, ?_, ?_⟩
 ·rw [hse]; rfl
 have hlp : ({ ({ lp with state := LoopState.busy } : Loop) with state := if (yN s.e).isNone then LoopState.ready else LoopState.done, pending := yN s.e } : Loop) = lp := by
  rw [hse];cases lp;simp only at hr1 hr2;subst hr1 hr2;rfl
 show ∃ Z' D', (∀ b, Z' b -> b < (s.H.put H0.size (.loop { ({ lp with state := LoopState.busy } : Loop) with state := if (yN s.e).isNone then LoopState.ready else LoopState.done, pending := yN s.e })).size) ∧ (rgW P wd e2 h2 q99 H0 m0 D0 lp (mkS P [] sh ts os e2 h2)).W (gj g5 s') Z' (s.H.put H0.size (.loop { ({ lp with state := LoopState.busy } : Loop) with state := if (yN s.e).isNone then LoopState.ready else LoopState.done, pending := yN s.e })) D' ∧ StW Z H D Z' (s.H.put H0.size (.loop { ({ lp with state := LoopState.busy } : Loop) with state := if (yN s.e).isNone then LoopState.ready else LoopState.done, pending := yN s.e })) D';rw [hlp];unfold bk at hbk;split at hbk
 case h_2 => cases hbk
 rename_i a' b' c' ha' hb' hc';split at hbk
 case h_2 => cases hbk
 rename_i s2 hs2
 cases hc : (q07 os h5 && (qLE sh.s e5 h5 && (qFJ (sh.b.map (·.1)) sh.b h2 h5 && (mW (sh.o ++ sh.b.map (·.1)) hh h5 && (mkS P [] sh ts os e2 h2 s2).isSome)))) with
 | false => rw [hc] at hbk; cases hbk
 | true =>
   rw [hc] at hbk;cases hbk;simp only [zJ5] at hc;obtain ⟨⟨e6, h6⟩, hm6⟩ := zK3.1 hc.2.2.2.2;have he6 := qGP hn hm6;subst he6
   have hsd : sh.d = [] := by
    unfold noSh at hn;simp only [zJ5, List.isEmpty_iff] at hn;exact hn.1
   have hw2 : qB (dO sh.d (svL ts s') (blank [] 0 e6)).2 = qB (b' ++ c') := by
    rw [hsd] at ha' ⊢;cases ha';exact (mF hs2).symm
   obtain ⟨ho6, _, hsub⟩ := qRH l2 ho2 hb' hc' hw2 hm6 hos hc.1 hc.2.2.1 (fun k o hk hkb hk2 => qAP m2 (k0.trans l0) hc.2.2.2.1 (by rw [zLJ, not_or]; exact ⟨hk, hkb⟩) (by rw [m6 k (by rw [hos]; exact hk) hkb]; exact hk2));obtain ⟨_, _, _, _, _, n6⟩ := d9 ho2 he2 hm6;have hfz := Fz.drop st5.hp (qEO hsub)
   have keep : ∀ b, b < H.size -> ¬ aU (own m (qD hh.l)) b -> ¬ Dg b -> b ≠ H0.size -> s.H.get b = H.get b := fun b h1 h2 h3 h4 => by
    have g1 := sd3.keep b h1 h2 h3;have hb3 : b < o.H.size := zKB h1 sd3.size;have g2 : (o.H.put H0.size (.loop { lp with state := .busy })).get b = o.H.get b := xJ h4;exact (sd5.keep b hb3 (fun h => h2 (sd3.onew b h h1)) fun h => h3 (sd3.zBP b h h1)).trans (g2.trans g1)
   have hzk : ∀ b, Z b -> b < H.size -> s.H.get b = H.get b := fun b h1 h2 => keep b h2 (fun h => (aB a2.hp h).2 h1) (fun h => wd.nz a2.wd b h h1) fun e => a7 (e ▸ h1)
   have hz5 : ∀ b, Z b -> Z5 b := fun b h => sd5.zle b (sd3.zle b h)
   have hsz : H.size <= s.H.size := zKR sd3.size sd5.size;have hbase : s.H.base = H.base := sd5.base.trans sd3.base
   have hkr : KR (fun _ => false) (own m (qD hh.l)) (own m5' (qD h6.l)) := by
    refine KR.none ((kr3.trans kr5).trans (hfz.kr _)) fun k o hk => ?_
    rw [uV] at hk;obtain ⟨o', q1, _⟩ := zKF.1 hk;show (nm.p k && !qCU k ks) = false
    cases hmm : qCU k ks with
    | true => simp
    | false =>
      exfalso;obtain ⟨r1, r2, r3⟩ := hks k fun hm => by rw [wP.2 hm] at hmm; cases hmm
      rw [n6 k r1 r2, r3] at q1;cases q1
   have zCZ : ∀ b, aU (own m5' (qD h6.l)) b -> aU (own m5' (qD h5.l)) b := fun b ⟨k, ob, h1, h2⟩ => ⟨k, ob, hfz.zCK h1, h2⟩
   have zDX : ∀ b, aU (own m5' (qD h6.l)) b -> b < H.size -> aU (own m (qD hh.l)) b := fun b h1 h2 => sd3.onew b (sd5.onew b (zCZ b h1) (zKB h2 sd3.size)) h2
   have zE3 : ∀ b, D5 b -> b < H.size -> Dg b := fun b h1 h2 => sd3.zBP b (sd5.zBP b h1 (zKB h2 sd3.size)) h2
   have st6 : St P wd g5 (qB e6) (qD h6.l) Z5 s.H m5' q99 D5 := ⟨hfz.hp, a2.vrl.mono (p := fun _ => false) hz5 hsz hzk hkr (fun j hj => by cases hj), st5.wd, fun b h1 h2 => st5.dis b h1 (zCZ b h2)⟩
   have st7 : St P wd g5 (qB e6) (qD h6.l) Z5 (s.H.put H0.size (.loop lp)) m5' q99 D5 := by
    refine st6.other (fun _ h => h) st6.hp.zlt (zJ7 _) rfl (fun b hb h => xJ fun e => ?_) (fun b h => ?_)
    ·subst e;rcases h with h | h | h
     ·exact hl5 (zCZ _ h)
     ·exact hD5 h
     ·exact hZ5 h
    ·rcases h with h | h
     ·exact (aB st6.hp h).2
     ·exact wd.nz st6.wd b h
   refine ⟨Z5, fun b => aU (own m5' (qD h6.l)) b ∨ D5 b ∨ b = H0.size, st6.hp.zlt, ⟨e6, h6, m5', D5, by rw [q0N]; exact hm6, by rw [q1D]; exact st7, bG, zH6, fun h => hl5 (zCZ _ h), hD5, hZ5, fun b => Iff.rfl, a9.trans hkr, fun b h1 h2 => a10 b (zDX b h1 (Nat.lt_trans h2 a4)) h2, fun b h1 h2 => a11 b (zE3 b h1 (Nat.lt_trans h2 a4)) h2, hbase.trans a12⟩, ?_⟩;refine ⟨hsz, hbase, hz5, fun b h1 _ h3 => ?_, fun b h1 h2 => ?_, fun b h1 _ => absurd h1 (qCS b), fun b h1 h2 => ?_⟩
   ·have hb : b ≠ H0.size := fun e => h3 ((a8 b).2 (.inr (.inr e)))
    exact (xJ hb).trans (keep b h1 (fun h => h3 ((a8 b).2 (.inl h))) (fun h => h3 ((a8 b).2 (.inr (.inl h)))) hb)
   ·rcases sd5.zA7 b h1 (zKB h2 sd3.size) with h | h | h
    ·rcases sd3.zA7 b h h2 with h | h | h
     ·exact .inl h
     ·exact .inr (.inr ((a8 b).2 (.inl h)))
     ·exact .inr (.inr ((a8 b).2 (.inr (.inl h))))
    ·exact .inr (.inr ((a8 b).2 (.inl (sd3.onew b h h2))))
    ·exact .inr (.inr ((a8 b).2 (.inr (.inl (sd3.zBP b h h2)))))
   ·rcases h1 with h | h | h
    ·exact (a8 b).2 (.inl (zDX b h h2))
    ·exact (a8 b).2 (.inr (.inl (zE3 b h h2)))
    ·exact (a8 b).2 (.inr (.inr h))
theorem qU0 {IT : List (FuncId × zAV)} (s : zA3 P good nat G tab) (hit : q1B P G IT) {sh : Sh} {v : Operand} {ps : Array Tmp} {bx bY : Code} {x y : ∀ {R' : Type}, Nm -> GV Γ -> List SV -> SH -> uK Γ R' -> q98 R'} {wx wy : List Nat} {hb : SH}
 (hx : ∀ {R' : Type} {nm : Nm} {g : GV Γ} {env : List SV} {h : SH} {K : uK Γ R'} {r : R'}, OkH P h -> okL h env -> env.length = N -> Keep hb h -> (x nm g env h K).run = some r -> qP P G true nm wd bx g (qB env) (qD h.l) (EQ P N wx env h K r))
 (hy : ∀ {R' : Type} {nm : Nm} {g : GV Γ} {env : List SV} {h : SH} {K : uK Γ R'} {r : R'}, OkH P h -> okL h env -> env.length = N -> Keep hb h -> (y nm g env h K).run = some r -> qP P G true nm wd bY g (qB env) (qD h.l) (EQ P N wy env h K r))
 {g : GV Γ} {env : List SV} {h : SH} {K : uK Γ R} (ho : OkH P h) (he : okL h env) (hl : env.length = N) (hbh : Keep hb h) (e : (q0F P G IT nm sh v ps bx bY x y g env h K).run = some r) :
 qP P G false nm wd (.rangeFunc v ps bx bY) g (qB env) (qD h.l) (EQ P N [] env h K r) := by
 obtain ⟨h1, wk1, kp1, ho1, e⟩ := qJ4 (nm := nm) ho he e;refine qP.pre' wk1 ?_;split at e
 case h_2 => cases e
 rename_i f caps hval;split at e
 case h_2 => cases e
 rename_i ent hent;split at e
 case h_2 => cases e
 rename_i z h2 hdc;split at e
 case h_2 => cases e
 rename_i b c os hbO hcB hos;split at e
 case h_2 => cases e
 rename_i ts hts;split at e
 case h_2 => cases e
 rename_i s0 hs0;obtain ⟨hck, e⟩ := qG e;simp only [zJ5] at hck;obtain ⟨hn, hbx, hps, hv, hcx, hcy⟩ := hck;obtain ⟨_, hh0, hm0, e⟩ := qB1 e;obtain ⟨q1, hF, e⟩ := run_bind e;obtain ⟨eq, hq, hmq, eK⟩ := qB1 e;have he0 := qGP hn hm0;have heq := qGP hn hmq;subst he0;subst heq;obtain ⟨kp2, ho2, hfr⟩ := qD3 ho1 hdc;have he2 : okL h2 eq := qL (kp1.trans kp2) he;have zC7 := qFA hos;obtain ⟨zGQ, hIt⟩ := hit f ent hent;intro Z H m q99 D hs hbs;have hpv := qK hs.vrl v;rw [qM, hval] at hpv;simp only [SV.enc, qB] at hpv;generalize hiv : q99.val v = iv at hpv
 cases hpv with
 | fn hf hc hfc hcc =>
 rename_i fs cs
 have hfs : fs = #[] := by
  have : fs.size = 0 := by simpa using hf.symm
  exact zLQ this
 subst hfs;obtain ⟨Z1, c1, r1⟩ := hfr Z H m cs.toList hs.hp ⟨by simpa using hc, fun i x v a b => hcc i x v a (by simpa using b)⟩;have hs2 : St P wd g (qB eq) (qD h2.l) Z1 H m q99 D := hs.step c1.hp (c1.vrl hs.vrl) c1.step
 have hw0 : qB (dO sh.d (svL ts s0) (blank [] 0 eq)).2 = qB (b ++ c) := by
  have hsd : sh.d = [] := by
   unfold noSh at hn;simp only [zJ5, List.isEmpty_iff] at hn;exact hn.1
  rw [hsd];exact (mF hs0).symm
 obtain ⟨ho0, _, zGR⟩ := qRH ho2 ho2 hbO hcB hw0 hm0 zC7 (qMM hos) hbx (fun k o _ _ hk => y5 hk);have zCS := Fz.drop hs2.hp (qEO zGR);refine s.s.zFG hv hcx hcy hiv zGQ fun lp p1 p2 p3 p4 p5 p6 => ?_
 have hHL : ∀ b, b < H.size -> (H.push (.loop lp)).get b = H.get b := fun b hb => jF hb
 have hown0 : ∀ b, aU (own m (qD hh0.l)) b -> aU (own m (qD h2.l)) b := fun b ⟨k, ob, h1, h2⟩ => ⟨k, ob, zCS.zCK h1, h2⟩
 have hlo : ¬ aU (own m (qD hh0.l)) H.size := fun h => zNF _ (aB zCS.hp h).1
 have hlD : ¬ D H.size := fun h => zNF _ (wd.lt hs2.wd _ h)
 have hlZ : ¬ Z1 H.size := fun h => zNF _ (c1.hp.zlt _ h)
 have st0 : St P wd g (qB eq) (qD hh0.l) Z1 H m q99 D := hs2.step zCS.hp (zCS.vrl hs2.vrl) zCS.step
 have st1 : St P wd g (qB eq) (qD hh0.l) Z1 (H.push (.loop lp)) m q99 D := by
  refine st0.other (fun _ h => h) (fun b h => zLV (c1.hp.zlt b h)) (zNS _) rfl (fun b hb _ => hHL b hb) fun b h => ?_
  rcases h with h | h
  ·exact (aB zCS.hp h).2
  ·exact wd.nz hs2.wd b h
 have hWi : (rgW P wd eq h2 q99 H m D lp (mkS P [] sh ts os eq h2)).W (gj g s0) Z1 (H.push (.loop lp)) fun b => aU (own m (qD hh0.l)) b ∨ D b ∨ b = H.size :=
  ⟨eq, hh0, m, D, by rw [q0N]; exact hm0, by rw [q1D]; exact st1, gG, zK1 _, hlo, hlD, hlZ, fun b => Iff.rfl, zCS.kr _, fun b h _ => hown0 b h, fun b h _ => h, rfl⟩
 have hcall := hIt z (GS Γ (TyL ts)) _ _ _ hF (rgW P wd eq h2 q99 H m D lp (mkS P [] sh ts os eq h2)) H.size (fun q w q' bb hstp => by
  refine qWN (Γ := Γ) (ent := ent) hx hy ho2 he2 (hbh.trans (kp1.trans kp2)) hl hn zC7 (ks := h2.l.map (·.1) ++ (os.map (·.1) ++ sh.b.map (·.1))) (fun k hk => ?_) p1 p2 p3 p5 p6 ?_ (by rw [p4]; exact hstp)
  ·simp only [zLJ, not_or] at hk;refine ⟨hk.2.1, hk.2.2, ?_⟩
   cases hq : slk k h2.l with
   | none => rfl
   | some o => exact absurd (zKX.2 ⟨(k, o), qMQ hq, rfl⟩) hk.1
  ·rw [p4]; exact zJ6 hps) Z1 (H.push (.loop lp)) _ cs.toList (fun b h => zLV (c1.hp.zlt b h)) (zKR hbs (zNS _)) (c1.hp.gl.mono c1.hp.zlt (fun _ h => h) fun b _ hb => hHL b hb) hWi (r1.none (fun _ h => h) (zNS _) (fun b hz hb => hHL b hb) fun _ => rfl)
 refine ⟨_, hcall, ?_⟩;rintro ⟨rv, H'⟩ ⟨Z', D', b1, ⟨e5, h5, m5, Dg, a1, a2, a3, a4, a5, a6, a7, a8, a9, a10, a11, a12⟩, sw⟩;rw [hmq] at a1;cases a1;refine qXS a3 p1 p2 fun lp' => ?_
 obtain ⟨n1, n2, n3, n4, n5, n6⟩ := d9 ho2 he2 hmq;have zEM : Keep h hq := (kp1.trans kp2).trans n1
 have stf : St P wd (Go.Sv.g1 q1) (qB eq) (qD hq.l) Z' (H'.put H.size (.loop lp')) m5 q99 Dg := by
  refine a2.other (fun _ h => h) b1 (zJ7 _) rfl (fun b hb h => xJ fun e => ?_) (fun b h => ?_)
  ·subst e;rcases h with h | h | h
   ·exact a5 h
   ·exact a6 h
   ·exact a7 h
  ·rcases h with h | h
   ·exact (aB a2.hp h).2
   ·exact wd.nz a2.wd b h
 have hsz : H.size <= H'.size := zKR (zNS _) sw.size;refine ⟨Z', m5, qB eq, qD hq.l, Go.Sv.g1 q1, Dg, stf, ⟨hsz, a12, fun b h => sw.zle b (c1.zle b h), fun b h1 h2 h3 => ?_, fun b h1 h2 => ?_, fun b h1 h2 => ?_, fun b h1 h2 => a11 b h1 h2⟩, ((c1.kr _).trans a9).up (fun k h => by cases h), eq, hq, rfl, rfl, n3, n2, hl, zEM, fun _ => ⟨n3, n2, zEM, fun _ _ => rfl, rfl⟩, eK⟩
 ·have hb : b ≠ H.size := Nat.ne_of_lt h1;refine (xJ hb).trans ((sw.keep b (zLV h1) (qCS b) ?_).trans (hHL b h1));rintro (q | q | q)
  ·obtain ⟨k, ob, w1, w2⟩ := hown0 b q;exact h2 ⟨k, ob, c1.zCK w1, w2⟩
  ·exact h3 q
  ·exact hb q
 ·rcases sw.zA7 b h1 (zLV h2) with q | q | q
  ·rcases c1.zA7 b q with q | q
   ·exact .inl q
   ·exact .inr (.inl q)
  ·exact absurd q (qCS b)
  ·rcases q with q | q | q
   ·obtain ⟨k, ob, w1, w2⟩ := hown0 b q;exact .inr (.inl ⟨k, ob, c1.zCK w1, w2⟩)
   ·exact .inr (.inr q)
   ·exact absurd q (Nat.ne_of_lt h2)
 ·obtain ⟨k, ob, w1, w2⟩ := a10 b h1 h2;exact ⟨k, ob, c1.zCK w1, w2⟩
end
end Go.Sv
namespace Go.Sv
open Go.Idl
noncomputable section
variable [Gc]
variable [Frs]
variable [Yl]
variable {P : Program} {Γ : Option Type} {R : Type} {r : R} {nm : Nm} {G : Nat -> Bool} {N : Nat} {rs : List Ty} {tab : uH} {nat : y7} {good : FuncId -> Bool} {wd : Wld (GV Γ)}
def q9B (an : An) (id : Nat) : List (Nat × TypeId) := match lkA id an.fz with
 | some l => l
 | none => []
def wr (an : An) : Code -> List Nat
 | .region id ops _ => (q9B an id).map (·.1) ++ ops.toList.filterMap (·.dst)
 | .seq a b => wr an a ++ wr an b
 | .cond _ a b => wr an a ++ wr an b
 | .block id x => match lkA id an.lp with
   | some sh => lpW (wr an x) sh
   | none => wr an x
 | .loop x => wr an x
 | .scope x => wr an x
 | _ => []
def nx2 : List Oper -> Option (Operand × Nat × Nat)
 | [⟨some d1, .next x false, _, _, _, none⟩, ⟨some d2, .extract (.tmp e1) 0, _, _, _, none⟩] => cond (Nat.beq d1 e1) (some (x, d1, d2)) none
 | _ => none
def q6O (id : Nat) (body : ∀ {R' : Type}, GV Γ -> List SV -> SH -> uK Γ R' -> q98 R') (K : uK Γ R) : Nat -> GV Γ -> List SV -> SH -> q98 R
 | 0, _, _, _ => .fail
 | n + 1, g, env, h => body g env h fun e g env h => match e with
   | .normal => q6O id body K n g env h
   | .exit i => cond (Nat.beq i id) (K .normal g env h) (K (.exit i) g env h)
   | .ret => K .ret g env h
   | .goto _ => .fail
def q92 (y : GV Γ -> List SV -> SH -> uK Γ R -> q98 R) (K : uK Γ R) : uK Γ R := fun e g env h => match e with
 | .normal => y g env h K
 | e => K e g env h
def q9Z (K : uK Γ R) : uK Γ R := fun e g env h => match e with
 | .goto _ => .fail
 | e => K e g env h
def q7W : Operand -> Nat
 | .tmp t => t
 | _ => 0
section
variable (P : Program) (G : Nat -> Bool) (T : kS) (IT : List (FuncId × zAV)) (CI : CIT) (Y : YI (GV Γ)) (an : An) (rdv : List SV -> SH -> Option (TyL rs)) (en : TyL rs -> List SV) (hb : SH)
def ev : Code -> {R : Type} -> Bool -> Nm -> GV Γ -> List SV -> SH -> uK Γ R -> q98 R
 | .skip, _, _, _, g, env, h, K => K .normal g env h
 | .label _, _, _, _, g, env, h, K => K .normal g env h
 | .ret, _, _, _, g, env, h, K => K .ret g env h
 | .exit id, _, _, _, g, env, h, K => K (.exit id) g env h
 | .seq a b, _, rd, nm, g, env, h, K => ev a rd nm g env h (q92 (ev b rd nm) K)
 | .cond v a b, _, rd, nm, g, env, h, K => cond (jJ G v) (match asB (xL env v) with
   | some t => .ite t (ev a rd nm g env h K) (ev b rd nm g env h K)
   | none => (match xL env v with
     | .bq => .both (ev a rd nm g env h K) (ev b rd nm g env h K)
     | _ => .fail)) .fail
 | .region id ops d, _, rd, nm, g, env, h, K => fzv P nm (q9B an id) env h fun env h => q8P P G T CI Y nm ops d g env h fun g env h => K .normal g env h
 | .block id (.loop y), _, rd, nm, g, env, h, K => (match lkA id an.lp with
   | some sh => (match lkA id an.ab with
     | none => q6Y P nm (wr an y) (lpW (wr an y) sh) rdv en hb sh id (fun {_} => ev y rd nm) g env h K
     | some _ => .fail)
   | none => q6O id (fun {_} => ev y rd nm) K 24 g env h)
 | .block id x, _, rd, nm, g, env, h, K => (match lkA id an.lp with
   | some _ => .fail
   | none => ev x rd nm g env h (q80 id K))
 | .scope x, _, rd, nm, g, env, h, K => ev x rd nm g env h (q9Z K)
 | .rangeFunc v ps x y, _, rd, nm, g, env, h, K => (match lkA (q7W v) an.rg with
   | some sh => cond rd .fail (q0F P G IT nm sh v ps x y (fun {_} => ev x true) (fun {_} => ev y true) g env h K)
   | none => .fail)
 | _, _, _, _, _, _, _, _ => .fail
end
theorem EQ.go {w w2 : List Nat} {env zAG : List SV} {h h1 : SH} {K : uK Γ R} {e : zA8} {g : GV Γ} {pe : List PV} {ph : PHp} (a : jU P w env h zAG h1) (b : EQ P N w2 zAG h1 K r e g pe ph) : EQ P N (w ++ w2) env h K r e g pe ph := by
 obtain ⟨env', h', b1, b2, b3, b4, b5, b0, b6, b7⟩ := b;exact ⟨env', h', b1, b2, b3, b4, b5, a.2.2.1.trans b0, fun hne => a.trans (b6 hne), b7⟩
theorem EQ.up {w w2 : List Nat} {env : List SV} {h : SH} {K : uK Γ R} {e : zA8} {g : GV Γ} {pe : List PV} {ph : PHp} (hw : ∀ i ∈ w, i ∈ w2) (b : EQ P N w env h K r e g pe ph) : EQ P N w2 env h K r e g pe ph := by
 obtain ⟨env', h', b1, b2, b3, b4, b5, b0, b6, b7⟩ := b;exact ⟨env', h', b1, b2, b3, b4, b5, b0, fun hne => (b6 hne).up hw, b7⟩
theorem EQ.now {w : List Nat} {env : List SV} {h : SH} {K : uK Γ R} {e : zA8} {g : GV Γ} (ho : OkH P h) (he : okL h env) (hl : env.length = N) (hk : (K e g env h).run = some r) : EQ P N w env h K r e g (qB env) (qD h.l) :=
 ⟨env, h, rfl, rfl, he, ho, hl, .refl _, fun _ => (jU.refl ho he).up fun i hi => by (cases hi), hk⟩
theorem q8T {id : Nat} {w : List Nat} {env : List SV} {h : SH} {K : uK Γ R} {e : zA8} {g : GV Γ} {pe : List PV} {ph : PHp} (b : EQ P N w env h (q80 id K) r e g pe ph) : BQY id (EQ P N w env h K r) e g pe ph := by
 obtain ⟨env', h', b1, b2, b3, b4, b5, b0, b6, b7⟩ := b
 cases e with
 | normal => exact BQY.go ⟨env', h', b1, b2, b3, b4, b5, b0, b6, b7⟩
 | ret => exact BQY.rt ⟨env', h', b1, b2, b3, b4, b5, b0, b6, b7⟩
 | goto l => exact ⟨env', h', b1, b2, b3, b4, b5, b0, b6, b7⟩
 | exit i =>
   have b8 : (cond (Nat.beq i id) (K .normal g env' h') (K (.exit i) g env' h')).run = some r := b7
   cases hi : Nat.beq i id with
   | true =>
     rw [hi] at b8;have := zJ6 hi;subst this;exact BQY.on ⟨env', h', b1, b2, b3, b4, b5, b0, fun _ => b6 fun h => by (cases h), b8⟩
   | false =>
     rw [hi] at b8;exact BQY.ex (fun h => by rw [h, rF] at hi; cases hi) ⟨env', h', b1, b2, b3, b4, b5, b0, b6, b8⟩
omit [Yl] in
theorem qXV {ops : List Oper} {i : Nat} (h : i ∉ ops.filterMap (·.dst)) : some i ∉ ops.map (·.dst) := fun hm => by
 obtain ⟨o, h1, h2⟩ := zKX.1 hm;exact h (zMB.2 ⟨o, h1, h2⟩)
def q5E (P : Program) (G : Nat -> Bool) (T : kS) (IT : List (FuncId × zAV)) (CI : CIT) (Y : YI (GV Γ)) (an : An) (rdv : List SV -> SH -> Option (TyL rs)) (en : TyL rs -> List SV) (hb : SH) (N : Nat) (wd : Wld (GV Γ)) (rd : Bool) (nm : Nm) (c : Code) : Prop :=
 ∀ {R : Type} {g : GV Γ} {env : List SV} {h : SH} {K : uK Γ R} {r : R}, OkH P h -> okL h env -> env.length = N -> Keep hb h -> (ev P G T IT CI Y an rdv en hb c rd nm g env h K).run = some r -> qP P G rd nm wd c g (qB env) (qD h.l) (EQ P N (wr an c) env h K r)
theorem q4B {w : List Nat} {id : Nat} {y : Code} {hb : SH} {body : ∀ {R' : Type}, GV Γ -> List SV -> SH -> uK Γ R' -> q98 R'} {rd : Bool}
 (hbody : ∀ {R' : Type} {g : GV Γ} {env : List SV} {h : SH} {K : uK Γ R'} {r : R'}, OkH P h -> okL h env -> env.length = N -> Keep hb h -> (body g env h K).run = some r -> qP P G rd nm wd y g (qB env) (qD h.l) (EQ P N w env h K r))
 {g : GV Γ} {env : List SV} {h : SH} {K : uK Γ R} {n : Nat} (ho : OkH P h) (he : okL h env) (hl : env.length = N) (hbh : Keep hb h) (e : (q6O id (fun {_} => body) K n g env h).run = some r) :
 qP P G rd nm wd (.block id (.loop y)) g (qB env) (qD h.l) (EQ P N w env h K r) := by
 refine qP.zGI (fun n g1 pe ph => ∃ zAG h1, pe = qB zAG ∧ ph = qD h1.l ∧ okL h1 zAG ∧ OkH P h1 ∧ zAG.length = N ∧ Keep h h1 ∧ jU P w env h zAG h1 ∧ (q6O id (fun {_} => body) K n g1 zAG h1).run = some r) ?_ (n := n) ⟨env, h, rfl, rfl, he, ho, hl, .refl _, (jU.refl ho he).up fun i hi => by (cases hi), e⟩;rintro n1 g1 pe ph ⟨zAG, h1, rfl, rfl, b3, b4, b5, b6, b7, b8⟩
 cases n1 with
 | zero => cases b8
 | succ n1 =>
   unfold q6O at b8;refine (hbody b4 b3 b5 (hbh.trans b6) b8).mono ?_;rintro x g2 pe ph ⟨env', h', rfl, rfl, c3, c4, c5, c0, c6, c7⟩
   have up : x ≠ .ret -> jU P w env h env' h' := fun hne => (b7.trans (c6 hne)).up fun i hi => by
    rcases zLJ.1 hi with q | q <;> exact q
   cases x with
   | normal => exact ⟨n1, zK1 _, env', h', rfl, rfl, c3, c4, c5, b6.trans c0, up fun h => by (cases h), c7⟩
   | ret => exact BQY.rt ⟨env', h', rfl, rfl, c3, c4, c5, b6.trans c0, fun hne => absurd rfl hne, c7⟩
   | goto l => cases c7
   | exit i =>
     have c8 : (cond (Nat.beq i id) (K .normal g2 env' h') (K (.exit i) g2 env' h')).run = some r := c7
     cases hi : Nat.beq i id with
     | true =>
       rw [hi] at c8;have := zJ6 hi;subst this;exact BQY.on ⟨env', h', rfl, rfl, c3, c4, c5, b6.trans c0, fun _ => up fun h => by (cases h), c8⟩
     | false =>
       rw [hi] at c8;exact BQY.ex (fun h => by rw [h, rF] at hi; cases hi) ⟨env', h', rfl, rfl, c3, c4, c5, b6.trans c0, fun _ => up fun h => by (cases h), c8⟩
theorem qTQ {T : kS} {IT : List (FuncId × zAV)} {CI : CIT} {Y : YI (GV Γ)} {an : An} {rdv : List SV -> SH -> Option (TyL rs)} {en : TyL rs -> List SV} {hb : SH} {rd : Bool} {id : Nat} {y : Code} (s : zA3 P good nat G tab) (hrd : zC6 P nm N hb rdv en)
 (hY : q5E P G T IT CI Y an rdv en hb N wd rd nm y) (hZ : ∀ rid ops t j z, y = .seq (.region rid ops false) (.seq (.cond (.tmp t) .skip (.exit j)) z) -> q5E P G T IT CI Y an rdv en hb N wd rd nm z)
 {g : GV Γ} {env : List SV} {h : SH} {K : uK Γ R} (ho : OkH P h) (he : okL h env) (hl : env.length = N) (hbh : Keep hb h) (e : (ev P G T IT CI Y an rdv en hb (.block id (.loop y)) rd nm g env h K).run = some r) :
 qP P G rd nm wd (.block id (.loop y)) g (qB env) (qD h.l) (EQ P N (wr an (.block id (.loop y))) env h K r) := by
 have e1 := e;unfold ev at e1;split at e1
 ·rename_i sh hsh;have hw : wr an (.block id (.loop y)) = lpW (wr an y) sh := by simp only [wr, hsh]
  rw [hw];split at e1
  ·exact qW8 hrd rfl hY ho he hl hbh e1
  ·cases e1
 ·rename_i hn;have hw : wr an (.block id (.loop y)) = wr an y := by simp only [wr, hn]
  rw [hw];exact q4B hY ho he hl hbh e1
theorem vO [zAZ P G] {T : kS} {IT : List (FuncId × zAV)} {CI : CIT} {Y : YI (GV Γ)} {an : An} {rdv : List SV -> SH -> Option (TyL rs)} {en : TyL rs -> List SV} {hb : SH} (s : zA3 P good nat G tab) (ht : qPM tab T) (hit : q1B P G IT) (hci : qZ7 P G CI) (hy : YOk P G wd Y) (hrd : ∀ nm, zC6 P nm N hb rdv en) :
 ∀ (c : Code), (∀ rd nm, q5E P G T IT CI Y an rdv en hb N wd rd nm c) ∧ ∀ a b, c = .seq a b -> (∀ rd nm, q5E P G T IT CI Y an rdv en hb N wd rd nm b) ∧ ∀ a' b', b = .seq a' b' -> ∀ rd nm, q5E P G T IT CI Y an rdv en hb N wd rd nm b'
 | .skip => ⟨fun rd nm {_ g env h K r} ho he hl hbh e => .skip (.now ho he hl e), fun a b h => by cases h⟩
 | .label _ => ⟨fun rd nm {_ g env h K r} ho he hl hbh e => .label (.now ho he hl e), fun a b h => by cases h⟩
 | .ret => ⟨fun rd nm {_ g env h K r} ho he hl hbh e => .ret (.now ho he hl e), fun a b h => by cases h⟩
 | .exit id => ⟨fun rd nm {_ g env h K r} ho he hl hbh e => .exit (.now ho he hl e), fun a b h => by cases h⟩
 | .seq a b => by
   refine ⟨fun rd nm {_ g env h K r} ho he hl hbh e => ?_, fun a' b' hh => by
    cases hh
    exact ⟨(vO s ht hit hci hy hrd b).1, fun a2 b2 h2 => ((vO s ht hit hci hy hrd b).2 a2 b2 h2).1⟩⟩
   refine .seq (((vO s ht hit hci hy hrd a).1 _ _ ho he hl hbh e).mono fun x g' pe ph hq => ?_);obtain ⟨env', h', b1, b2, b3, b4, b5, b0, b6, b7⟩ := hq
   cases x with
   | normal =>
     have b7 : (ev P G T IT CI Y an rdv en hb b rd nm g' env' h' K).run = some r := b7;subst b1 b2;show qP P G rd nm wd b g' _ _ _;refine ((vO s ht hit hci hy hrd b).1 _ _ b4 b3 b5 (hbh.trans b0) b7).mono fun x g' pe ph hq => ?_
     exact EQ.go (b6 fun h => by (cases h)) hq
   | exit i => exact ⟨env', h', b1, b2, b3, b4, b5, b0, fun hne => (b6 hne).up fun i hi => zLR _ hi, b7⟩
   | ret => exact ⟨env', h', b1, b2, b3, b4, b5, b0, fun hne => absurd rfl hne, b7⟩
   | goto l => exact ⟨env', h', b1, b2, b3, b4, b5, b0, fun hne => (b6 hne).up fun i hi => zLR _ hi, b7⟩
 | .cond v a b => by
   refine ⟨fun rd nm {_ g env h K r} ho he hl hbh e => ?_, fun a b h => by cases h⟩;obtain ⟨c1, e1⟩ := qG e;split at e1
   ·rename_i t hv;have hpv : qJ (qB env) v = fvv (.bool t) := by rw [qM]; exact o8 hv
    rcases run_ite e1 with ⟨z, e2⟩ | ⟨z, e2⟩
    ·exact .cond c1 hpv (fun _ => ((vO s ht hit hci hy hrd a).1 _ _ ho he hl hbh e2).mono fun x g pe ph hq => hq.up fun i hi => zLR _ hi) (fun hf => by rw [z] at hf; cases hf)
    ·exact .cond c1 hpv (fun hf => by rw [z] at hf; cases hf) (fun _ => ((vO s ht hit hci hy hrd b).1 _ _ ho he hl hbh e2).mono fun x g pe ph hq => hq.up fun i hi => zL0 _ hi)
   ·split at e1
    case h_2 => cases e1
    rename_i hv;have hpv : qJ (qB env) v = .bq := by rw [qM, hv]; simp [SV.enc]
    obtain ⟨e2, e3⟩ := qYJ e1;exact .zGH c1 hpv (((vO s ht hit hci hy hrd a).1 _ _ ho he hl hbh e2).mono fun x g pe ph hq => hq.up fun i hi => zLR _ hi) (((vO s ht hit hci hy hrd b).1 _ _ ho he hl hbh e3).mono fun x g pe ph hq => hq.up fun i hi => zL0 _ hi)
 | .region id ops d => by
   refine ⟨fun rd nm {_ g env h K r} ho he hl hbh e => ?_, fun a b h => by cases h⟩;obtain ⟨zAG, h1, w1, q1, e1⟩ := q0B (nm := nm) ho he e;refine qP.pre' w1 ((q2G s ht hci hy q1.2.1 q1.1 e1).mono ?_);rintro x g' pe ph ⟨rfl, env', h', b1, b2, b3, b4⟩;refine EQ.go q1 ⟨env', h', b1, b2, b3.1, b3.2.1, by rw [b3.2.2.2.2, q1.2.2.2.2, hl], b3.2.2.1, fun _ => ⟨b3.1, b3.2.1, b3.2.2.1, fun i hi => b3.2.2.2.1 i (qXV hi), b3.2.2.2.2⟩, b4⟩
 | .block id x => by
   refine ⟨fun rd nm {_ g env h K r} ho he hl hbh e => ?_, fun a b h => by cases h⟩
   cases x with
   | loop y =>
     exact qTQ s (hrd nm) ((vO s ht hit hci hy hrd y).1 _ _) (fun rid ops t j z hz => ((vO s ht hit hci hy hrd y).2 _ _ hz).2 _ _ rfl _ _) ho he hl hbh e
   | _ =>
     all_goals
      have e1 := e;unfold ev at e1;split at e1
      ·cases e1
      ·rename_i hn;simp only [wr, hn];exact .block (((vO s ht hit hci hy hrd _).1 _ _ ho he hl hbh e1).mono fun x g pe ph hq => q8T hq)
 | .loop _ => ⟨fun rd nm {_ _ _ _ _ _} _ _ _ _ e => (by cases e), fun a b h => by cases h⟩
 | .rangeFunc v ps x y => by
   refine ⟨fun rd nm {_ g env h K r} ho he hl hbh e => ?_, fun a b h => by cases h⟩;unfold ev at e;split at e
   ·rename_i sh hsh
    cases rd with
    | true => cases e
    | false => exact qU0 s hit (fun ho he hl hbh e => (vO s ht hit hci hy hrd x).1 _ _ ho he hl hbh e) (fun ho he hl hbh e => (vO s ht hit hci hy hrd y).1 _ _ ho he hl hbh e) ho he hl hbh e
   ·cases e
 | .scope x => by
   refine ⟨fun rd nm {_ g env h K r} ho he hl hbh e => ?_, fun a b h => by cases h⟩;refine .scope (((vO s ht hit hci hy hrd x).1 _ _ ho he hl hbh e).mono fun ex g' pe ph hq => ?_);obtain ⟨env', h', b1, b2, b3, b4, b5, b0, b6, b7⟩ := hq
   cases ex with
   | goto l => cases b7
   | normal => exact ⟨fun _ h => by (cases h), env', h', b1, b2, b3, b4, b5, b0, b6, b7⟩
   | ret => exact ⟨fun _ h => by (cases h), env', h', b1, b2, b3, b4, b5, b0, b6, b7⟩
   | exit i => exact ⟨fun _ h => by (cases h), env', h', b1, b2, b3, b4, b5, b0, b6, b7⟩
 | .goto _ => ⟨fun rd nm {_ _ _ _ _ _} _ _ _ _ e => (by cases e), fun a b h => by cases h⟩
 | .refuse _ => ⟨fun rd nm {_ _ _ _ _ _} _ _ _ _ e => (by cases e), fun a b h => by cases h⟩
theorem q2V [zAZ P G] {T : kS} {IT : List (FuncId × zAV)} {CI : CIT} {Y : YI (GV Γ)} {an : An} {rdv : List SV -> SH -> Option (TyL rs)} {en : TyL rs -> List SV} {hb : SH} (s : zA3 P good nat G tab) (ht : qPM tab T) (hit : q1B P G IT) (hci : qZ7 P G CI) (hy : YOk P G wd Y) (hrd : ∀ nm, zC6 P nm N hb rdv en) :
 ∀ (c : Code) {R : Type} {rd : Bool} {nm : Nm} {g : GV Γ} {env : List SV} {h : SH} {K : uK Γ R} {r : R}, OkH P h -> okL h env -> env.length = N -> Keep hb h -> (ev P G T IT CI Y an rdv en hb c rd nm g env h K).run = some r -> qP P G rd nm wd c g (qB env) (qD h.l) (EQ P N (wr an c) env h K r) :=
 fun c {R rd nm g env h K r} ho he hl hbh e => (vO s ht hit hci hy hrd c).1 rd nm ho he hl hbh e
end
end Go.Sv
namespace Go.Sv
open Go.Idl
noncomputable section
variable [Gc]
variable [Frs]
variable [Yl]
variable {P : Program} {R : Type} {r : R} {nm : Nm} {G : Nat -> Bool} {N : Nat} {tab : uH} {good : FuncId -> Bool}
def uG (P : Program) (ty : TypeId) (t : Ty) : Bool := match qKT P ty with
 | some true => !t.one && (match szT P ty with
   | some n => Nat.beq n t.w
   | none => false)
 | some false => t.one
 | none => false
omit [Yl] in
theorem qP9 {ty : TypeId} {t : Ty} {x : t.sem} {ph : PHp} (e : uG P ty t = true) : bU P ty (qZE t x) ph = some (t.pv x) := by
 unfold uG at e;show qKL P ty (t.cells x) 0 = _;unfold qKL Ty.pv;split at e
 ·rename_i h1;rw [h1];simp only;split at e
  ·rename_i n hn;rw [hn];rw [zJ5] at e;have h2 : n = t.w := zJ6 e.2;have h3 : t.one = false := by simpa using e.1
   subst h2;have h4 : Nat.ble (0 + t.w) (t.cells x).length = true := zKN (by rw [t.zAI]; omega);simp only [h4, cond_true, h3, cond_false, zMM];rw [zK7 (by rw [t.zAI]; exact zJ7 _)]
  ·rw [zJ5] at e; cases e.2
 ·rename_i h1;rw [h1];simp only [e, cond_true];rw [Ty.cells_one e];rfl
 ·cases e
def qWK : ResultVar -> Nat
 | .tmp t => t
 | .cell a _ => a
def qQ9 : ResultVar -> Option TypeId
 | .tmp _ => none
 | .cell _ ty => some ty
def q47 (ty : TypeId) (v : SV) (h : SH) : Bool := match v with
 | .ref k _ _ => (match slk k h.l with
   | some (.cells el _ _) => Nat.beq el ty
   | _ => false)
 | _ => false
theorem qT9 {ty : TypeId} {t : Ty} {v : SV} {h : SH} {x : t.sem} {h' : SH} (ho : OkH P h) (e : qCA P t v h = some (x, h')) (hel : q47 ty v h = true) (h1 : t.one = false) : rt1 P ty (t.pv x) = t.pv x := by
 unfold qCA at e;unfold q47 at hel;split at e
 case h_2 => cases e
 rename_i k off w;split at e
 case h_2 => cases e
 rename_i el w0 l hk;simp only [hk] at hel;have hel : el = ty := zJ6 hel;subst hel
 cases hc : (!spec P el && (Nat.beq off 0 && Nat.beq w l.length)) with
 | false => rw [hc] at e; cases e
 | true =>
   rw [hc] at e;simp only [cond_true] at e;split at e
   case h_2 => cases e
   rename_i y zAP h2 hd;cases e;have hd0 := dV (k := k) ho;obtain ⟨a1, a2, a3, ys, a4, a5⟩ := qB8 hd0.2 (qL hd0.1 (ho.cells _ _ _ _ hk)) hd;unfold Ty.pv;rw [h1];show PV.agg (rtL (rtC P) (vE P 8 el) ((t.cells x).map .f)) = _;have := (a5 []).2;rw [zLS] at this;rw [this];cases zAP <;> simp [rtL]
def olL : List TypeId -> Ty -> Option (List TypeId)
 | tys, .pair a b => (match olL tys a with
   | some r => olL r b
   | none => none)
 | ty :: tys, .ol _ _ => cond (Gc.ol ty) (some tys) none
 | [], .ol _ _ => none
 | tys, t => cond t.nol (some (tys.drop t.w)) none
def q7L (t : Ty) (v : SV) : Option t.sem := match v with
 | .lp t' [x] 0 0 => if e : t' = t then some (e ▸ x) else none
 | _ => none
omit [Yl] in
theorem qXZ {t : Ty} {v : SV} {x : t.sem} (e : q7L t v = some x) : v = .lp t [x] 0 0 := by
 unfold q7L at e;split at e
 ·rename_i t' y;split at e
  ·rename_i h;subst h;cases e;rfl
  ·cases e
 ·cases e
def qWY (P : Program) (c : Option TypeId) (ty : TypeId) (t : Ty) (v : SV) (h : SH) : Option (t.sem × SH) := match c with
 | none => q37 P ty t v h
 | some ty2 => match q7L t v with
   | some x => cond (uG P ty2 t && (t.nol || (!t.one && (olL (vE P 8 ty) t).isSome))) (some (x, h)) none
   | none => cond (uG P ty2 t && (t.nol || (!t.one && q47 ty v h))) (qCA P t v h) none
def qGW (c : Option TypeId) (t : Ty) (x : t.sem) : SV := match c with
 | none => t.sv x
 | some _ => .lp t [x] 0 0
def qJI (P : Program) : List (Option TypeId) -> List TypeId -> (ts : List Ty) -> List SV -> SH -> Option (TyL ts × SH)
 | [], _, [], [], h => some ((), h)
 | c :: cs, ty :: _, [t], v :: vs, h => (match cs, vs with
   | [], [] => qWY P c ty t v h
   | _, _ => none)
 | c :: cs, ty :: tys, t :: u :: ts, v :: vs, h => match qWY P c ty t v h with
   | some (x, h1) => (match qJI P cs tys (u :: ts) vs h1 with
     | some (y, h2) => some ((x, y), h2)
     | none => none)
   | none => none
 | _, _, _, _, _ => none
def svM : List (Option TypeId) -> (ts : List Ty) -> TyL ts -> List SV
 | _, [], _ => []
 | c :: _, [t], x => [qGW c t x]
 | [], [t], x => [t.sv x]
 | c :: cs, t :: u :: ts, x => qGW c t x.1 :: svM cs (u :: ts) x.2
 | [], t :: u :: ts, x => t.sv x.1 :: svM [] (u :: ts) x.2
omit [Yl] in
theorem qTG {h : SH} (c : Option TypeId) (t : Ty) (x : t.sem) : (qGW c t x).ok h := by
 cases c with
 | none => exact qJD t x
 | some _ => simp [qGW, SV.ok]
omit [Yl] in
theorem qRD {h : SH} : ∀ (cs : List (Option TypeId)) (ts : List Ty) (x : TyL ts), okL h (svM cs ts x)
 | _, [], _ => by simp [svM, okL]
 | c :: _, [t], x => by simp only [svM, okL]; exact ⟨qTG c t x, trivial⟩
 | [], [t], x => by simp only [svM, okL]; exact ⟨qJD t x, trivial⟩
 | c :: cs, t :: u :: ts, x => by
   show okL h (qGW c t x.1 :: svM cs (u :: ts) x.2);simp only [okL];exact ⟨qTG c t x.1, qRD cs (u :: ts) x.2⟩
 | [], t :: u :: ts, x => by
   show okL h (t.sv x.1 :: svM [] (u :: ts) x.2);simp only [okL];exact ⟨qJD t x.1, qRD [] (u :: ts) x.2⟩
omit [Yl] in
theorem qKV : ∀ (cs : List (Option TypeId)) (ts : List Ty) (x : TyL ts), (svM cs ts x).length = ts.length
 | _, [], _ => by simp [svM]
 | c :: _, [t], x => rfl
 | [], [t], x => rfl
 | c :: cs, t :: u :: ts, x => by
   show (qGW c t x.1 :: svM cs (u :: ts) x.2).length = _;simp only [zKO, qKV cs (u :: ts)]
 | [], t :: u :: ts, x => by
   show (t.sv x.1 :: svM [] (u :: ts) x.2).length = _;simp only [zKO, qKV [] (u :: ts)]
theorem qM1 (c : Option TypeId) (t : Ty) (x : t.sem) (Z : Nat -> Prop) (H : IH) (M M' : Nat -> Option (Nat × PO)) (v : Value) (h : VR P Z H M (qGW c t x).enc v) : VR P Z H M' (qGW c t x).enc v := by
 cases c with
 | none =>
   simp only [qGW, mO] at h ⊢;exact bE h (qVO t x)
 | some _ =>
   simp only [qGW, SV.enc] at h ⊢
   cases h with
   | lp a b c d => exact .lp a b c d
omit [Yl] in
theorem sM {ty : TypeId} : ∀ (t : Ty) (x : t.sem) (c : FV), t.nol = true -> c ∈ t.cells x -> rt0 P ty (.f c) = .f c
 | .int _, x, c, _, h => by simp only [Ty.cells, zL9] at h; subst h; rfl
 | .bool, x, c, _, h => by simp only [Ty.cells, zL9] at h; subst h; rfl
 | .str, x, c, _, h => by simp only [Ty.cells, zL9] at h; subst h; rfl
 | .raw, x, c, _, h => by simp only [Ty.cells, zL9] at h; subst h; rfl
 | .nif, x, c, _, h => by simp only [Ty.cells, zL9] at h; subst h; rfl
 | .list _ _, x, c, _, h => by simp only [Ty.cells, zL9] at h; subst h; rfl
 | .unit, x, c, _, h => by cases h
 | .pair a b, x, c, hn, h => by
   have h : c ∈ a.cells x.1 ++ b.cells x.2 := h;have hn : (a.nol && b.nol) = true := hn;rw [zJ5] at hn;rcases zLJ.1 h with q | q
   ·exact sM a _ _ hn.1 q
   ·exact sM b _ _ hn.2 q
omit [Yl] in
theorem q0J {f : TypeId -> PV -> PV} : ∀ {ts : List TypeId} {xs : List PV}, (∀ t x, x ∈ xs -> f t x = x) -> rtL f ts xs = xs
 | [], xs, _ => by cases xs <;> rfl
 | t :: ts, [], _ => rfl
 | t :: ts, x :: xs, h => by
   show f t x :: rtL f ts xs = _;rw [h t x zKI, q0J fun t y hy => h t y (zKD _ hy)]
omit [Yl] in
theorem q05 {ty : TypeId} (t : Ty) (x : t.sem) (hn : t.nol = true) : rt1 P ty (t.pv x) = t.pv x := by
 unfold Ty.pv
 cases ht : t.one with
 | true => exact qBF (by rw [ht, hn]; rfl)
 | false =>
   show PV.agg (rtL (rtC P) (vE P 8 ty) ((t.cells x).map .f)) = _;rw [q0J]
   ·rfl
   ·intro ty2 y hy;obtain ⟨c, hc, rfl⟩ := zKX.1 hy;unfold rtC;rw [sM t x c hn hc];cases Gc.ol ty2 <;> rfl
omit [Yl] in
theorem qSL {f : TypeId -> PV -> PV} : ∀ {ts : List TypeId} {xs rest : List PV}, (∀ t x, x ∈ xs -> f t x = x) -> rtL f ts (xs ++ rest) = xs ++ rtL f (ts.drop xs.length) rest
 | ts, [], rest, _ => by simp
 | [], x :: xs, rest, _ => by simp [rtL]
 | t :: ts, x :: xs, rest, h => by
   show f t x :: rtL f ts (xs ++ rest) = _;rw [h t x zKI, qSL fun t y hy => h t y (zKD _ hy)];rfl
omit [Yl] in
theorem uY (t : Ty) (hn : t.nol = true) {tys zAP : List TypeId} (h : olL tys t = cond t.nol (some (tys.drop t.w)) none) (e : olL tys t = some zAP) (x : t.sem) (rest : List PV) : rtL (rtC P) tys ((t.cells x).map .f ++ rest) = (t.cells x).map .f ++ rtL (rtC P) zAP rest := by
 have hd : zAP = tys.drop t.w := by
  rw [h, hn] at e;cases e; rfl
 rw [qSL, hd, zKQ, t.zAI];intro ty2 y hy;obtain ⟨c, hc, rfl⟩ := zKX.1 hy;unfold rtC;rw [sM t x c hn hc];cases Gc.ol ty2 <;> rfl
omit [Yl] in
theorem qUK : ∀ (t : Ty) {tys zAP : List TypeId}, olL tys t = some zAP -> ∀ (x : t.sem) (rest : List PV), rtL (rtC P) tys ((t.cells x).map .f ++ rest) = (t.cells x).map .f ++ rtL (rtC P) zAP rest
 | .pair a b, tys, zAP, e, x, rest => by
   unfold olL at e;split at e
   ·rename_i r hr;show rtL (rtC P) tys ((a.cells x.1 ++ b.cells x.2).map .f ++ rest) = (a.cells x.1 ++ b.cells x.2).map .f ++ _;rw [zLC, zK0, qUK a hr, qUK b e, zK0]
   ·cases e
 | .ol el k, tys, zAP, e, x, rest => by
   cases tys with
   | nil => cases e
   | cons ty tys =>
     have e : cond (Gc.ol ty) (some tys) none = some zAP := e
     cases ho : Gc.ol ty with
     | false => rw [ho] at e; cases e
     | true =>
       rw [ho] at e;cases e;show rtC P ty (.f (fvo el k x)) :: rtL (rtC P) _ rest = .f (fvo el k x) :: _;unfold rtC;rw [ho]; rfl
 | .int k, tys, zAP, e, x, rest => uY (.int k) rfl (by cases tys <;> rfl) e x rest
 | .bool, tys, zAP, e, x, rest => uY .bool rfl (by cases tys <;> rfl) e x rest
 | .str, tys, zAP, e, x, rest => uY .str rfl (by cases tys <;> rfl) e x rest
 | .raw, tys, zAP, e, x, rest => uY .raw rfl (by cases tys <;> rfl) e x rest
 | .nif, tys, zAP, e, x, rest => uY .nif rfl (by cases tys <;> rfl) e x rest
 | .list el u, tys, zAP, e, x, rest => uY (.list el u) rfl (by cases tys <;> rfl) e x rest
 | .unit, tys, zAP, e, x, rest => uY .unit rfl (by cases tys <;> rfl) e x rest
theorem qNT {c : Option TypeId} {ty : TypeId} {t : Ty} {v : SV} {h : SH} {x : t.sem} {h' : SH} (ho : OkH P h) (hv : v.ok h) (e : qWY P c ty t v h = some (x, h')) :
 Keep h h' ∧ OkH P h' ∧ (∀ ty2, c = some ty2 -> uG P ty2 t = true) ∧ rt1 P ty (t.pv x) = t.pv x ∧ ∀ (Z : Nat -> Prop) (H : IH) (m : Nat -> Nat) (u : Value), Hp P Z H (own m (qD h.l)) -> VR P Z H (own m (qD h.l)) v.enc u -> ∃ Z', Fz P Z H m (qD h.l) Z' (qD h'.l) ∧ VR P Z' H (fun _ => none) (qGW c t x).enc u := by
 unfold qWY at e
 cases c with
 | none =>
   obtain ⟨y, a1, a2, a3, a4, a5⟩ := qBE ho hv e;refine ⟨a3, a4, fun _ h => by (cases h), a5, fun Z H m u hp hu => ?_⟩;obtain ⟨Z', c1, c2⟩ := qJG hp hu a1;refine ⟨Z', c1, ?_⟩;simp only [qGW, mO];rw [<- a2];exact qDM c2
 | some ty2 =>
   simp only at e
   cases hlp : q7L t v with
   | some y =>
     rw [hlp] at e;simp only at e;have hv2 := qXZ hlp
     cases hcn : (uG P ty2 t && (t.nol || (!t.one && (olL (vE P 8 ty) t).isSome))) with
     | false => rw [hcn] at e; cases e
     | true =>
       rw [hcn] at e;cases e;obtain ⟨hc, hn⟩ : uG P ty2 t = true ∧ (t.nol || (!t.one && (olL (vE P 8 ty) t).isSome)) = true := by rwa [zJ5] at hcn
       refine ⟨.refl _, ho, fun _ h => by cases h; exact hc, ?_, fun Z H m u hp hu => ⟨Z, .refl hp, ?_⟩⟩
       ·rcases Bool.or_eq_true_iff.1 hn with q | q
        ·exact q05 t _ q
        ·rw [zJ5] at q;obtain ⟨zAP, ht⟩ := zK3.1 q.2;have h1 : t.one = false := by simpa using q.1
         unfold Ty.pv;rw [h1];show PV.agg (rtL (rtC P) (vE P 8 ty) ((t.cells _).map .f)) = _;have := qUK (P := P) t ht x [];rw [zLS] at this;rw [this];cases zAP <;> simp [rtL]
       ·rw [hv2] at hu;simp only [qGW, SV.enc] at hu ⊢
        cases hu with
        | lp a b c d => exact .lp a b c d
   | none =>
   rw [hlp] at e;simp only at e
   cases hcn : (uG P ty2 t && (t.nol || (!t.one && q47 ty v h))) with
   | false => rw [hcn] at e; cases e
   | true =>
     rw [hcn] at e;obtain ⟨hc, hn⟩ : uG P ty2 t = true ∧ (t.nol || (!t.one && q47 ty v h)) = true := by rwa [zJ5] at hcn
     have hrt : rt1 P ty (t.pv x) = t.pv x := by
      rcases Bool.or_eq_true_iff.1 hn with q | q
      ·exact q05 t x q
      ·rw [zJ5] at q;exact qT9 ho e q.2 (by simpa using q.1)
     obtain ⟨a1, a2, a3⟩ := qBC ho e;refine ⟨a1, a2, fun _ h => by cases h; exact hc, hrt, fun Z H m u hp hu => ?_⟩;obtain ⟨Z', c1, c2⟩ := a3 Z H m u hp hu;refine ⟨Z', c1, ?_⟩;simp only [qGW, SV.enc];simpa [qZE] using c2
structure zGS (P : Program) (cs : List (Option TypeId)) (tys : List TypeId) (ts : List Ty) (vs : List SV) (h : SH) (x : TyL ts) (h' : SH) : Prop where
 keep : Keep h h'
 ok : OkH P h'
 fz : ∀ (Z : Nat -> Prop) (H : IH) (m : Nat -> Nat) (us : List Value), Hp P Z H (own m (qD h.l)) -> VRL P Z H (own m (qD h.l)) (qB vs) us -> ∃ Z', Fz P Z H m (qD h.l) Z' (qD h'.l) ∧ VRL P Z' H (fun _ => none) (qB (svM cs ts x)) us
 any : ∀ (Z : Nat -> Prop) (H : IH) (M M' : Nat -> Option (Nat × PO)) (us : List Value), VRL P Z H M (qB (svM cs ts x)) us -> VRL P Z H M' (qB (svM cs ts x)) us
 rt : rtL (rt1 P) tys (pvL ts x) = pvL ts x
 load : ∀ (ph : PHp) (rv : List ResultVar) (env : List PV), rv.map qQ9 = cs -> (rv.map fun r => (zC env (qWK r)).getD .unk) = qB (svM cs ts x) -> qGH P env ph rv = some (pvL ts x)
theorem q6H {c : Option TypeId} {t : Ty} {x : t.sem} (hc : ∀ ty2, c = some ty2 -> uG P ty2 t = true) {ph : PHp} {r : ResultVar} {env : List PV} (h1 : qQ9 r = c) (h2 : (zC env (qWK r)).getD .unk = (qGW c t x).enc) : qXL P env ph r = some (t.pv x) := by
 subst h1
 cases r with
 | tmp i =>
   show some ((zC env i).getD .unk) = _;rw [show (zC env i).getD .unk = _ from h2];simp [qQ9, qGW, mO]
 | cell a ty =>
   show bU P ty ((zC env a).getD .unk) ph = _;rw [show (zC env a).getD .unk = _ from h2];have := qP9 (x := x) (ph := ph) (hc ty rfl);simpa [qQ9, qGW, SV.enc, qZE] using this
theorem qSD : ∀ {cs : List (Option TypeId)} {tys : List TypeId} {ts : List Ty} {vs : List SV} {h : SH} {x : TyL ts} {h' : SH}, OkH P h -> okL h vs -> qJI P cs tys ts vs h = some (x, h') -> zGS P cs tys ts vs h x h'
 | [], tys, [], [], h, x, h', ho, hv, e => by
   unfold qJI at e;cases e;refine ⟨.refl _, ho, fun Z H m us hp hu => ⟨Z, .refl hp, ?_⟩, fun Z H M M' us hu => ?_, (by cases tys <;> rfl), fun ph rv env h1 h2 => ?_⟩
   ·simp only [qB] at hu;rw [hu.zAE];simp only [svM, qB];exact .nil
   ·simp only [svM, qB] at hu ⊢;rw [hu.zAE];exact .nil
   ·cases rv with
    | nil => rfl
    | cons _ _ => cases h1
 | c :: cs, ty :: tys, [t], v :: vs, h, x, h', ho, hv, e => by
   unfold qJI at e;split at e
   case h_2 => cases e
   simp only [okL] at hv;obtain ⟨a1, a2, a3, ar, a4⟩ := qNT ho hv.1 e;refine ⟨a1, a2, fun Z H m us hp hu => ?_, fun Z H M M' us hu => ?_, ?_, fun ph rv env h1 h2 => ?_⟩
   ·simp only [qB] at hu;obtain ⟨u, us', rfl, b1, b2⟩ := hu.zAB;obtain ⟨Z', c1, c2⟩ := a4 Z H m u hp b1;rw [b2.zAE];simp only [svM, qB];exact ⟨Z', c1, .cons c2 .nil⟩
   ·simp only [svM, qB] at hu ⊢;obtain ⟨u, us', rfl, b1, b2⟩ := hu.zAB;rw [b2.zAE];exact .cons (qM1 c t x _ _ _ _ _ b1) .nil
   ·show rt1 P ty (t.pv x) :: rtL (rt1 P) tys [] = [t.pv x];rw [ar];cases tys <;> rfl
   ·match rv, h1, h2 with
    | [r], h1, h2 =>
      simp only [zKM, zMF, zKV, and_true] at h1;simp only [zKM, zMF, svM, qB, zKV, and_true] at h2;unfold qGH;rw [q6H a3 h1 h2];rfl
 | c :: cs, ty :: tys, t :: u :: ts, v :: vs, h, x, h', ho, hv, e => by
   unfold qJI at e;simp only [okL] at hv;split at e
   case h_2 => cases e
   rename_i x1 h1 hd;split at e
   case h_2 => cases e
   rename_i y h2 hd2;cases e;obtain ⟨a1, a2, a3, ar, a4⟩ := qNT ho hv.1 hd;have ih := qSD a2 (qL a1 hv.2) hd2;have hsv : svM (c :: cs) (t :: u :: ts) (x1, y) = qGW c t x1 :: svM cs (u :: ts) y := rfl;refine ⟨a1.trans ih.keep, ih.ok, fun Z H m us hp hu => ?_, fun Z H M M' us hu => ?_, ?_, fun ph rv env g1 g2 => ?_⟩
   ·simp only [qB] at hu;obtain ⟨w, us', rfl, b1, b2⟩ := hu.zAB;obtain ⟨Z1, d1, d2⟩ := a4 Z H m w hp b1;obtain ⟨Z2, f1, f2⟩ := ih.fz Z1 H m us' d1.hp (d1.vrl b2);rw [hsv];simp only [qB];exact ⟨Z2, d1.trans f1, .cons (d2.mono (p := fun _ => false) f1.zle (zJ7 _) (fun _ _ _ => rfl) (.refl _ _) fun j hj => by cases hj) f2⟩
   ·rw [hsv] at hu ⊢;simp only [qB] at hu ⊢;obtain ⟨w, us', rfl, b1, b2⟩ := hu.zAB;exact .cons (qM1 c t x1 _ _ _ _ _ b1) (ih.any _ _ _ _ _ b2)
   ·show rt1 P ty (t.pv x1) :: rtL (rt1 P) tys (pvL (u :: ts) y) = t.pv x1 :: pvL (u :: ts) y;rw [ar, ih.rt]
   ·cases rv with
    | nil => cases g1
    | cons r rv =>
      rw [hsv] at g2;simp only [zKM, zKV] at g1;simp only [zKM, qB, zKV] at g2;unfold qGH;rw [q6H a3 g1.1 g2.1, ih.load ph rv env g1.2 g2.2];rfl
 | [], _, [], _ :: _, _, _, _, _, _, e => by unfold qJI at e; cases e
 | [], [], [_], _, _, _, _, _, _, e => by unfold qJI at e; cases e
 | [], [], _ :: _ :: _, _, _, _, _, _, _, e => by unfold qJI at e; cases e
 | [], _ :: _, [_], _, _, _, _, _, _, e => by unfold qJI at e; cases e
 | [], _ :: _, _ :: _ :: _, _, _, _, _, _, _, e => by unfold qJI at e; cases e
 | _ :: _, [], [], _, _, _, _, _, _, e => by unfold qJI at e; cases e
 | _ :: _, _ :: _, [], _, _, _, _, _, _, e => by unfold qJI at e; cases e
 | _ :: _, [], [_], _, _, _, _, _, _, e => by unfold qJI at e; cases e
 | _ :: _, [], _ :: _ :: _, _, _, _, _, _, _, e => by unfold qJI at e; cases e
 | _ :: _, _ :: _, [_], [], _, _, _, _, _, e => by unfold qJI at e; cases e
 | _ :: _, _ :: _, _ :: _ :: _, [], _, _, _, _, _, e => by unfold qJI at e; cases e
def rdR (P : Program) (hb : SH) (zCE : List TypeId) (rs : List Ty) (rv : List ResultVar) (env : List SV) (h : SH) : Option (TyL rs) := match qIA (rv.map qWK) env with
 | some vs => (match qJI P (rv.map qQ9) zCE rs vs h with
   | some p => cond (mW [] hb p.2) (some p.1) none
   | none => none)
 | none => none
def enR (N : Nat) (rv : List ResultVar) (rs : List Ty) (v : TyL rs) : List SV := (dO (rv.map qWK) (svM (rv.map qQ9) rs v) (List.replicate N .unk)).1
omit [Yl] in
theorem dF (h : SH) : ∀ (n : Nat), okL h (List.replicate n .unk)
 | 0 => by simp [okL]
 | n + 1 => by rw [zLU]; simp only [okL]; exact ⟨by simp [SV.ok], dF h n⟩
theorem qAE : ∀ (n : Nat), qB (List.replicate n .unk) = List.replicate n .unk
 | 0 => by simp [qB]
 | n + 1 => by rw [zLU, zLU]; simp only [qB, qAE n, SV.enc]
theorem qN8 {Z : Nat -> Prop} {H : IH} {M : Nat -> Option (Nat × PO)} {vals : List Value} : ∀ {rl : List Nat} {l base : List SV} {ws : List Value}, (∀ (j i : Nat), rl[j]? = some i -> vals[i]? = ws[j]?) -> VRL P Z H M (qB l) ws -> VRL P Z H M (qB base) vals -> VRL P Z H M (qB (dO rl l base).1) vals
 | [], l, base, ws, _, _, hb => hb
 | i :: is, [], base, ws, _, _, hb => hb
 | i :: is, c :: l, base, ws, hc, hl, hb => by
   simp only [qB] at hl;obtain ⟨w, ws', rfl, h1, h2⟩ := hl.zAB;show VRL P Z H M (qB (dO is l (xA base i c)).1) vals;refine qN8 (ws := ws') (fun j k hj => by simpa using hc (j + 1) k (by simpa using hj)) h2 ?_;rw [xV];exact hb.slot (v := w) (by simpa using hc 0 i rfl) h1
theorem qN9 {Z : Nat -> Prop} {H : IH} {M : Nat -> Option (Nat × PO)} {env : List SV} {vals : List Value} (hv : VRL P Z H M (qB env) vals) : ∀ {rl : List Nat} {vs : List SV}, qIA rl env = some vs -> ∃ ws, VRL P Z H M (qB vs) ws ∧ ∀ (j i : Nat), rl[j]? = some i -> vals[i]? = ws[j]?
 | [], vs, e => by cases e; exact ⟨[], by simp only [qB]; exact .nil, fun j i h => by simp at h⟩
 | i :: is, vs, e => by
   unfold qIA at e;split at e
   ·rename_i v l hx hl;cases e;obtain ⟨ws, h1, h2⟩ := qN9 hv hl;have hx2 : (qB env)[i]? = some v.enc := by rw [<- qF, zH, hx]; rfl
    obtain ⟨w, hw, hr⟩ := hv.get hx2;refine ⟨w :: ws, by simp only [qB]; exact .cons hr h1, fun j k hj => ?_⟩
    cases j with
    | zero => simp at hj; subst hj; simpa using hw
    | succ j => simpa using h2 j k (by simpa using hj)
   ·cases e
omit [Yl] in
theorem q2F {Z : Nat -> Prop} {H : IH} {M : Nat -> Option (Nat × PO)} {vals : List Value} : VRL P Z H M (List.replicate vals.length .unk) vals := ⟨by simp, fun i z v h1 h2 => by
 rw [zM4] at h1;split at h1
 ·cases h1; exact .unk
 ·cases h1⟩
omit [Yl] in
theorem qFM {env : List SV} : ∀ {rl : List Nat} {vs : List SV}, qIA rl env = some vs -> ∀ z ∈ vs, z ∈ env
 | [], vs, e, z, hz => by cases e; cases hz
 | i :: is, vs, e, z, hz => by
   unfold qIA at e;split at e
   ·rename_i v l hx hl;cases e;rcases zKS.1 hz with q | q
    ·subst q; rw [qF] at hx; exact zK8 hx
    ·exact qFM hl z q
   ·cases e
theorem qKG {hb : SH} {zCE : List TypeId} {rs : List Ty} {rv : List ResultVar} {env : List SV} {h : SH} {v : TyL rs} (ho : OkH P h) (he : okL h env) (e : rdR P hb zCE rs rv env h = some v) :
 ∃ vs h', qIA (rv.map qWK) env = some vs ∧ zGS P (rv.map qQ9) zCE rs vs h v h' ∧ mW [] hb h' = true := by
 unfold rdR at e;split at e
 case h_2 => cases e
 rename_i vs hvs;split at e
 case h_2 => cases e
 rename_i p hp;obtain ⟨x, h'⟩ := p
 cases hc : mW [] hb h' with
 | false => rw [hc] at e; cases e
 | true =>
   rw [hc] at e;cases e;exact ⟨vs, h', hvs, qSD ho (yA.2 fun z hz => yA.1 he z (qFM hvs z hz)) hp, hc⟩
theorem qSW {hb : SH} (hob : OkH P hb) {zCE : List TypeId} {rs : List Ty} {rv : List ResultVar} : zC6 P nm N hb (rdR P hb zCE rs rv) (enR N rv rs) := by
 refine ⟨hob, fun env h v ho he hl hbh e => ?_, fun env h v ho he hbh e k o hk => ?_, fun v => by unfold enR; rw [qGV, zMP], fun v h => qKZ (qRD _ rs v) (dF h N)⟩
 ·obtain ⟨vs, h', hvs, hd, hkp⟩ := qKG ho he e;intro Z H m vals hh hv;obtain ⟨ws, h1, h2⟩ := qN9 hv hvs;obtain ⟨Z', c1, r2⟩ := hd.fz Z H m ws hh h1;have hdr := Fz.drop c1.hp (ph' := qD hb.l) (qEO fun k o hk => qAP hob (hbh.trans hd.keep) hkp (by simp) hk);have hlen : vals.length = N := by rw [<- hv.len, qW, hl]
  refine ⟨Z', m, hdr.hp, ?_, c1.step.trans hdr.step, (c1.kr _).trans (hdr.kr _)⟩;unfold enR;refine qN8 h2 (hd.any _ _ _ _ _ r2) ?_;rw [qAE, <- hlen];exact q2F
 ·obtain ⟨vs, h', hvs, hd, hkp⟩ := qKG ho he e;have := qNE hob (hbh.trans hd.keep) hkp (by simp) hk;exact hd.keep.same k o this (zKB (hob.ver k o hk) hbh.next)
omit [Yl] in
theorem q5S (t : Ty) (x : t.sem) (ph : PHp) : fzP P ph (t.pv x) = some (t.pv x, ph) := by
 unfold Ty.pv
 cases t.one with
 | true => rfl
 | false => simp only [cond_false, fzP, qEB]
omit [Yl] in
theorem q0M {ph : PHp} : ∀ {xs : List PV}, (∀ y ∈ xs, fzP P ph y = some (y, ph)) -> fzA P xs ph = some (xs, ph)
 | [], _ => rfl
 | x :: xs, h => by
   simp only [fzA, h x zKI, q0M fun y hy => h y (zKD _ hy)]
omit [Yl] in
theorem q1Q (rs : List Ty) (x : TyL rs) (ph : PHp) : fzR P ph (j3 rs x) = some (j3 rs x) := by
 have hm : ∀ y ∈ pvL rs x, ∃ (t : Ty) (z : t.sem), y = t.pv z := fun y hy => qBU hy
 unfold j3;generalize pvL rs x = l at hm
 have hz : ∀ y ∈ l, fzP P ph y = some (y, ph) := fun y hy => by
  obtain ⟨t, z, rfl⟩ := hm y hy;exact q5S t z ph
 match l, hm, hz with
 | [], _, hz => rfl
 | [v], hm, hz =>
   obtain ⟨t, z, rfl⟩ := hm v zKI;have := hz _ zKI;show fzR P ph (t.pv z) = some (t.pv z);unfold fzR;unfold Ty.pv at this ⊢
   cases ht : t.one with
   | true => rw [ht] at this; simp only [cond_true] at this ⊢; rw [this]
   | false => rw [ht] at this; simp only [cond_false] at this ⊢; rw [this]
 | a :: b :: l, _, hz =>
   show (match fzA P (a :: b :: l) ph with
    | some (ys, _) => some (PV.tup ys)
    | none => none) = _
   rw [q0M hz]; rfl
omit [Yl] in
theorem qLZ (rs : List Ty) (x : TyL rs) : q3L (j3 rs x) = true := by
 have hm : ∀ y ∈ pvL rs x, qHK y = true := fun y hy => by
  obtain ⟨t, z, rfl⟩ := qBU hy;exact qVO t z
 have hm2 : ∀ y ∈ pvL rs x, ∃ (t : Ty) (z : t.sem), y = t.pv z := fun y hy => qBU hy
 unfold j3;generalize pvL rs x = l at hm hm2
 match l, hm, hm2 with
 | [], _, _ => rfl
 | [v], hm, hm2 =>
   have h1 := hm v zKI;obtain ⟨t, z, rfl⟩ := hm2 v zKI;show q3L (t.pv z) = true;unfold Ty.pv at h1 ⊢
   cases ht : t.one with
   | true => rfl
   | false => rw [ht] at h1; exact h1
 | a :: b :: l, hm, _ => exact zJ8.2 hm
def qOR : List Nat -> Bool
 | [] => true
 | i :: l => !qCU i l && qOR l
omit [Yl] in
theorem qPD : ∀ {rl : List Nat} {l base : List SV}, qOR rl = true -> rl.length = l.length -> (∀ i ∈ rl, i < base.length) -> ∀ (j i : Nat), rl[j]? = some i -> zC (dO rl l base).1 i = l[j]?
 | [], l, base, _, _, _, j, i, h => by simp at h
 | k :: is, [], base, _, hl, _, j, i, h => by simp at hl
 | k :: is, c :: l, base, hn, hl, hb, j, i, h => by
   unfold qOR at hn;rw [zJ5] at hn
   have hk : k ∉ is := fun hm => by
    have := wP.2 hm;rw [this] at hn;exact absurd hn.1 (by simp)
   show zC (dO is l (xA base k c)).1 i = _
   cases j with
   | zero =>
     simp at h;subst h;rw [qD9 hk, zA, qF, zK2, if_pos rfl, if_pos (hb k zKI)];rfl
   | succ j =>
     have h2 : is[j]? = some i := by simpa using h
     rw [qPD (rl := is) (l := l) hn.2 (by simpa using hl) (fun i hi => by rw [jE]; exact hb i (zKD _ hi)) j i h2];rfl
def q9O {rs : List Ty} (rdv : List SV -> SH -> Option (TyL rs)) : uK none (TyL rs) := fun e _ env h => match e with
 | .normal => rdv env h
 | .ret => rdv env h
 | _ => none
def nm0 : Nm := ⟨0, fun _ => true⟩
def fnS (P : Program) (G : Nat -> Bool) (T : kS) (IT : List (FuncId × zAV)) (CI : CIT) (an : An) (as rs : List Ty) (fn : Func) (x : TyL as) : Option (TyL rs) := match fn.body with
 | some c => (ev (Γ := none) P G T IT CI yi0 an (rdR P ⟨0, []⟩ fn.resultTypes.toList rs fn.results.toList) (enR fn.ntmps fn.results.toList rs) ⟨0, []⟩ c false nm0 () (svL as x ++ List.replicate (fn.ntmps - as.length) .unk) ⟨0, []⟩ (q9O (rdR P ⟨0, []⟩ fn.resultTypes.toList rs fn.results.toList))).run
 | none => none
def qQ5 (as rs : List Ty) (fn : Func) : Bool := match fn.body with
 | some _ => qOR (fn.results.toList.map qWK) && (Nat.beq fn.results.toList.length rs.length && (Nat.ble as.length fn.ntmps && (fn.results.toList.map qWK).all fun i => Nat.blt i fn.ntmps))
 | none => false
omit [Yl] in
theorem Runs.zGT {rd : Bool} {c : Code} {env : List PV} {ph : PHp} {Q : PQ} (h : Runs P G rd nm c env ph fun e pe p => ∃ pe' p', Wk P nm pe p pe' p' ∧ Q e pe' p') : Runs P G rd nm c env ph Q := by
 intro Z H m q99 hp hb he;refine (h Z H m q99 hp hb he).mono ?_;rintro o ⟨Z', m', env', ph', a, b, c, d, pe', p', hw, e⟩;obtain ⟨Z1, m1, a1, a2, a3, a4⟩ := hw Z' o.H m' o.env a b;exact ⟨Z1, m1, pe', p', a1, a2, c.trans a3, d.trans a4, e⟩
theorem q89 : YOk P G (Γ := GV none) q7V yi0 := fun g y g' b h => by cases h
theorem q6C [zAZ P G] {nat : y7} {T : kS} {IT : List (FuncId × zAV)} {CI : CIT} {an : An} {as rs : List Ty} {g : FuncId} {fn : Func} (s : zA3 P good nat G tab) (ht : qPM tab T) (hit : q1B P G IT) (hci : qZ7 P G CI) (hfn : P.funcs[g]? = some fn) (hc : qQ5 as rs fn = true) :
 q9G P G g nm0 (enL as) (fnS P G T IT CI an as rs fn) (j3 rs) := by
 unfold qQ5 at hc;split at hc
 case h_2 => cases hc
 rename_i c hbody;simp only [zJ5] at hc;obtain ⟨c1, c2, c3, c4⟩ := hc;refine ⟨fn, c, hfn, hbody, fun x y hF => ⟨fn.ntmps, rfl, ?_⟩⟩;unfold fnS at hF;rw [hbody] at hF;have hF : (ev (Γ := none) P G T IT CI yi0 an (rdR P ⟨0, []⟩ fn.resultTypes.toList rs fn.results.toList) (enR fn.ntmps fn.results.toList rs) ⟨0, []⟩ c false nm0 () (svL as x ++ List.replicate (fn.ntmps - as.length) .unk) ⟨0, []⟩ (q9O (rdR P ⟨0, []⟩ fn.resultTypes.toList rs fn.results.toList))).run = some y := hF;have hal : as.length <= fn.ntmps := zKE c3
 have hlen : (svL as x ++ List.replicate (fn.ntmps - as.length) SV.unk).length = fn.ntmps := by
  rw [zKW, qF1, zMP]; omega
 have hrd : ∀ nm, zC6 P nm fn.ntmps ⟨0, []⟩ (rdR P ⟨0, []⟩ fn.resultTypes.toList rs fn.results.toList) (enR fn.ntmps fn.results.toList rs) := fun nm => qSW tN
 have zAH : (enL as).p x ++ List.replicate (fn.ntmps - ((enL as).p x).length) PV.unk = qB (svL as x ++ List.replicate (fn.ntmps - as.length) .unk) := by
  have : (enL as).p x = qB (svL as x) := (qBQ as x).symm;rw [mV, qAE, this, qW, qF1]
 rw [zAH];have hrun := qP.runs (q2V (Γ := none) (wd := q7V) s ht hit hci q89 hrd c tN (aJ (qA5 as x) (dF _ _)) hlen (.refl _) hF);refine Runs.zGT (hrun.mono ?_);rintro e pe ph ⟨env', h', rfl, rfl, k1, k2, k3, k0, k4, k5⟩
 obtain ⟨he, hr⟩ : (e = .normal ∨ e = .ret) ∧ rdR P ⟨0, []⟩ fn.resultTypes.toList rs fn.results.toList env' h' = some y := by
  cases e with
  | normal => exact ⟨.inl rfl, k5⟩
  | ret => exact ⟨.inr rfl, k5⟩
  | exit _ => cases k5
  | goto _ => cases k5
 obtain ⟨_, _, _, hd, _⟩ := qKG k2 k1 hr;refine ⟨_, _, (hrd nm0).wk _ _ _ k2 k1 k3 k0 hr, he, j3 rs y, ?_, q1Q rs y _⟩;unfold gQ;have hll : (fn.results.toList.map qWK).length = (svM (fn.results.toList.map qQ9) rs y).length := by rw [qKV, zKQ]; exact zJ6 c2
 have hl2 : (fn.results.toList.map fun r => (zC (qB (enR fn.ntmps fn.results.toList rs y)) (qWK r)).getD PV.unk) = qB (svM (fn.results.toList.map qQ9) rs y) := by
  apply zLH;intro j;rw [zKL, qX (svM _ rs y), zKL]
  cases hj : fn.results.toList[j]? with
  | none =>
    have : (svM (fn.results.toList.map qQ9) rs y)[j]? = none := by
     rw [zMT] at hj ⊢;rw [zKQ] at hll;omega
    rw [this]; rfl
  | some rr =>
    have hg := qPD (l := svM (fn.results.toList.map qQ9) rs y) (base := List.replicate fn.ntmps .unk) c1 hll (fun i hi => by
     have := zJ8.1 c4 i hi;rw [zMP]
     exact zKE this) j (qWK rr) (by rw [zKL, hj]; rfl)
    simp only [zKJ];rw [zH];unfold enR;rw [hg]
    have hlt : j < (svM (fn.results.toList.map qQ9) rs y).length := by
     rw [<- hll, zKQ]; exact (zKA.1 hj).1
    rw [zJ9 hlt];rfl
 rw [hd.load _ fn.results.toList _ rfl hl2];show some (qCJ (rtL (rt1 P) fn.resultTypes.toList (pvL rs y))) = some (j3 rs y);rw [hd.rt];rfl
end
end Go.Sv
namespace Go.Sv
open Go.Idl
variable {P : Program}
def q9M (s : ByteArray) (c : Int) : Int := s.foldl (fun n x => if x == c.toNat.toUInt8 then n + 1 else n) ((0 : Nat) : Int)
def q5I (s : ByteArray) (c : Int) : Int := match (List.range s.size).find? (fun i => s[i]! == c.toNat.toUInt8) with
 | some i => (i : Int)
 | none => -1
def q04 (x y c : Int) : Int := Int.ofNat ((x.toNat + y.toNat + c.toNat) % 18446744073709551616)
def qZ0 (x y c : Int) : Int := Int.ofNat ((x.toNat + y.toNat + c.toNat) / 18446744073709551616)
def qUU (x y c : Int) : Int := Int.ofNat ((x.toNat + 18446744073709551616 - y.toNat - c.toNat) % 18446744073709551616)
def qTB (x y c : Int) : Int := Int.ofNat (cond (Nat.blt x.toNat (y.toNat + c.toNat)) 1 0)
def q9H (fn : Func) : Nat := cond (fn.body.isNone && fn.origin == "") (cond (fn.name == "internal/bytealg.CountString") 1 (cond (fn.name == "internal/bytealg.IndexByteString") 2 (cond (fn.name == "math/bits.Add64") 3 (cond (fn.name == "math/bits.Sub64") 4 0)))) 0
def q3G (P : Program) (g : FuncId) : Nat := match P.funcs[g]? with
 | some fn => q9H fn
 | none => 0
theorem qEY {P : Program} {g : FuncId} {n : Nat} (h : q3G P g = n + 1) : ∃ fn, P.funcs[g]? = some fn ∧ fn.body = none ∧ fn.origin = "" ∧ qMI P g = true ∧ ((n = 0 ∧ fn.name = "internal/bytealg.CountString") ∨ (n = 1 ∧ fn.name = "internal/bytealg.IndexByteString") ∨ (n = 2 ∧ fn.name = "math/bits.Add64") ∨ (n = 3 ∧ fn.name = "math/bits.Sub64")) := by
 unfold q3G at h;split at h
 case h_2 => cases h
 rename_i fn hfn;unfold q9H at h
 cases hc : (fn.body.isNone && fn.origin == "") with
 | false => rw [hc] at h; cases h
 | true =>
   rw [hc] at h;simp only [cond_true] at h;rw [zJ5] at hc
   have ho : fn.origin = "" := by simpa using hc.2
   have hb : fn.body = none := by simpa using hc.1
   have hx : ∀ s, fn.name = s -> (s == "internal/abi.NoEscape") = false -> qMI P g = true := fun s hs h0 => by
    unfold qMI;rw [hfn];simp only;rw [hc.1, hs, h0]; rfl
   refine ⟨fn, hfn, hb, ho, ?_⟩
   cases h1 : (fn.name == "internal/bytealg.CountString") with
   | true =>
     rw [h1] at h
     have h1 : fn.name = "internal/bytealg.CountString" := by simpa using h1
     have h : 1 = n + 1 := h;exact ⟨hx _ h1 (by decide), .inl ⟨by omega, h1⟩⟩
   | false =>
     rw [h1] at h
     cases h2 : (fn.name == "internal/bytealg.IndexByteString") with
     | true =>
       rw [h2] at h
       have h2 : fn.name = "internal/bytealg.IndexByteString" := by simpa using h2
       have h : 2 = n + 1 := h;exact ⟨hx _ h2 (by decide), .inr (.inl ⟨by omega, h2⟩)⟩
     | false =>
       rw [h2] at h
       cases h3 : (fn.name == "math/bits.Add64") with
       | true =>
         rw [h3] at h
         have h3 : fn.name = "math/bits.Add64" := by simpa using h3
         have h : 3 = n + 1 := h;exact ⟨hx _ h3 (by decide), .inr (.inr (.inl ⟨by omega, h3⟩))⟩
       | false =>
         rw [h3] at h
         cases h4 : (fn.name == "math/bits.Sub64") with
         | true =>
           rw [h4] at h
           have h4 : fn.name = "math/bits.Sub64" := by simpa using h4
           have h : 4 = n + 1 := h;exact ⟨hx _ h4 (by decide), .inr (.inr (.inr ⟨by omega, h4⟩))⟩
         | false => rw [h4] at h; cases h
theorem dX {α β : Type} (s : Sem α) (g : α -> Sem β) : yE P (s >>= g) = (yE P s).bind fun a => yE P (g a) := kI g s
theorem q8F : yE P program = some P := rfl
theorem q8W {q : Mark} : yE P (mark q) = some () := rfl
theorem sJ {g : FuncId} {fn : Func} {e : Array Value -> Sem Value} {vs : Array Value} {v : Value} (hfn : P.funcs[g]? = some fn) (hb : fn.body = none) (hn : (fn.name == "runtime.NumGoroutine") = false) (h1 : Extern.findNext fn = none) (h2 : Extern.find fn = some e) (h3 : yE P (e vs) = some v) :
 yE P (callFunc g vs) = some (.value v) := by
 unfold callFunc;rw [dX, q8F, zKP, hfn];simp only [hn, zLW, if_false, hb, Option.isNone_none, if_true, h1, h2];rw [dX, q8W, zKP];show yE P (do pure (Next.value (<- e vs))) = _;rw [dX, h3];rfl
theorem qQR {fn : Func} (h : fn.name = "internal/bytealg.CountString") (ho : fn.origin = "") : Extern.findNext fn = none ∧ Extern.find fn = some Extern.BytealgCount.count := by
 unfold Extern.findNext Extern.find;simp only [h, ho];exact ⟨by kernel_rfl, by kernel_rfl⟩
theorem find_index {fn : Func} (h : fn.name = "internal/bytealg.IndexByteString") (ho : fn.origin = "") : Extern.findNext fn = none ∧ Extern.find fn = some Extern.BytealgIndexByte.indexByte := by
 unfold Extern.findNext Extern.find;simp only [h, ho];exact ⟨by kernel_rfl, by kernel_rfl⟩
theorem qVY {g : FuncId} {s : ByteArray} {c : Int} (h : q3G P g = 1) : qMI P g = true ∧ yE P (callFunc g #[.string s, .int .u8 c]) = some (.value (.int .i64 (q9M s c))) := by
 obtain ⟨fn, h1, h2, h3, h4, h5⟩ := qEY (n := 0) h
 rcases h5 with ⟨_, h5⟩ | ⟨h6, _⟩ | ⟨h6, _⟩ | ⟨h6, _⟩
 ·obtain ⟨a, b⟩ := qQR h5 h3;refine ⟨h4, sJ h1 h2 (by rw [h5]; decide) a b ?_⟩;show yE P (do let b <- Extern.Bytes.bytesOf (.string s); let c <- Extern.Bytes.asByte (.int .u8 c); pure (goInt (b.foldl (fun n x => if x == c then n + 1 else n) (0 : Nat)))) = _;rw [dX, show yE P (Extern.Bytes.bytesOf (.string s)) = some s from rfl, zKP, dX, show yE P (Extern.Bytes.asByte (.int .u8 c)) = some c.toNat.toUInt8 from rfl, zKP];rfl
 all_goals cases h6
theorem qTR {g : FuncId} {s : ByteArray} {c : Int} (h : q3G P g = 2) : qMI P g = true ∧ yE P (callFunc g #[.string s, .int .u8 c]) = some (.value (.int .i64 (q5I s c))) := by
 obtain ⟨fn, h1, h2, h3, h4, h5⟩ := qEY (n := 1) h
 rcases h5 with ⟨h6, _⟩ | ⟨_, h5⟩ | ⟨h6, _⟩ | ⟨h6, _⟩
 ·cases h6
 rotate_left
 ·cases h6
 ·cases h6
 ·obtain ⟨a, b⟩ := find_index h5 h3;refine ⟨h4, sJ h1 h2 (by rw [h5]; decide) a b ?_⟩
  show yE P (match (List.range s.size).find? (fun i => s[i]! == c.toNat.toUInt8) with
   | some i => pure (goInt i)
   | none => pure (goInt (-1))) = _
  unfold q5I;cases (List.range s.size).find? (fun i => s[i]! == c.toNat.toUInt8) <;> rfl
def q9F : Array Value -> Sem Value := fun args => do
 let (x, y, c) <- Extern.MathBitsCarry.three "Add64" args
 pure (Extern.MathBitsCarry.pair ((x + y + c) % Extern.MathBitsCarry.m64) ((x + y + c) / Extern.MathBitsCarry.m64))
def q9P : Array Value -> Sem Value := fun args => do
 let (x, y, b) <- Extern.MathBitsCarry.three "Sub64" args
 pure (Extern.MathBitsCarry.pair ((x + Extern.MathBitsCarry.m64 - y - b) % Extern.MathBitsCarry.m64) (if x < y + b then 1 else 0))
theorem qZF {fn : Func} (h : fn.name = "math/bits.Add64") (ho : fn.origin = "") : Extern.findNext fn = none ∧ Extern.find fn = some q9F := by
 unfold Extern.findNext Extern.find;simp only [h, ho];exact ⟨by kernel_rfl, by kernel_rfl⟩
theorem qZM {fn : Func} (h : fn.name = "math/bits.Sub64") (ho : fn.origin = "") : Extern.findNext fn = none ∧ Extern.find fn = some q9P := by
 unfold Extern.findNext Extern.find;simp only [h, ho];exact ⟨by kernel_rfl, by kernel_rfl⟩
theorem qPC {n : String} {x y : Int} : ∀ {c : Int}, Nat.ble c.toNat 1 = true -> yE P (Extern.MathBitsCarry.three n #[.int .u64 x, .int .u64 y, .int .u64 c]) = some (x.toNat, y.toNat, c.toNat)
 | .ofNat 0, _ => rfl
 | .ofNat 1, _ => rfl
 | .ofNat (n + 2), h => by
   have := zKE h;simp at this; omega
 | .negSucc m, _ => rfl
theorem q1L {g : FuncId} {x y c : Int} (h : q3G P g = 3) (hc : Nat.ble c.toNat 1 = true) : qMI P g = true ∧ yE P (callFunc g #[.int .u64 x, .int .u64 y, .int .u64 c]) = some (.value (.tuple #[.int .u64 (q04 x y c), .int .u64 (qZ0 x y c)])) := by
 obtain ⟨fn, h1, h2, h3, h4, h5⟩ := qEY (n := 2) h
 rcases h5 with ⟨h6, _⟩ | ⟨h6, _⟩ | ⟨_, h5⟩ | ⟨h6, _⟩
 ·cases h6
 ·cases h6
 ·obtain ⟨a, b⟩ := qZF h5 h3;refine ⟨h4, sJ h1 h2 (by rw [h5]; decide) a b ?_⟩;unfold q9F;rw [dX, qPC hc];rfl
 ·cases h6
theorem q15 {g : FuncId} {x y c : Int} (h : q3G P g = 4) (hc : Nat.ble c.toNat 1 = true) : qMI P g = true ∧ yE P (callFunc g #[.int .u64 x, .int .u64 y, .int .u64 c]) = some (.value (.tuple #[.int .u64 (qUU x y c), .int .u64 (qTB x y c)])) := by
 obtain ⟨fn, h1, h2, h3, h4, h5⟩ := qEY (n := 3) h
 rcases h5 with ⟨h6, _⟩ | ⟨h6, _⟩ | ⟨h6, _⟩ | ⟨_, h5⟩
 ·cases h6
 ·cases h6
 ·cases h6
 ·obtain ⟨a, b⟩ := qZM h5 h3;refine ⟨h4, sJ h1 h2 (by rw [h5]; decide) a b ?_⟩;unfold q9P;rw [dX, qPC hc];simp only [zKP];show some (Extern.MathBitsCarry.pair ((x.toNat + 18446744073709551616 - y.toNat - c.toNat) % 18446744073709551616) (if x.toNat < y.toNat + c.toNat then 1 else 0)) = _;unfold qUU qTB Extern.MathBitsCarry.pair;by_cases hlt : x.toNat < y.toNat + c.toNat
  ·rw [if_pos hlt, show Nat.blt x.toNat (y.toNat + c.toNat) = true from zKN hlt]; rfl
  ·rw [if_neg hlt, show Nat.blt x.toNat (y.toNat + c.toNat) = false from zNO.2 fun h => hlt (zKE h)]; rfl
noncomputable section
variable [Gc]
class Hnd where
 ci : CIT
class zBJ (P : Program) (G : Nat -> Bool) [Hnd] : Prop where
 ok : ∀ [Yl], qZ7 P G Hnd.ci
instance (priority := low) zFK : Hnd := ⟨fun _ _ _ _ _ _ => .fail⟩
instance (priority := low) hndOk0 {G : Nat -> Bool} : @zBJ _ P G zFK := by
 letI : Hnd := zFK
 refine ⟨fun {_} => ?_⟩;intro R nm f as h K r ho ha e;cases e
variable [Yl] {R : Type} {r : R} {G : Nat -> Bool}
def q7G (P : Program) (f : FuncId) (as : List SV) (h : SH) (K : SV -> SH -> q98 R) (F : q98 R) : q98 R := match q3G P f, as with
 | 1, [x, y] => (match asS x, asI y with
   | some s, some (.u8, c) => K (.d (.int .i64) (q9M s c)) h
   | _, _ => .fail)
 | 2, [x, y] => (match asS x, asI y with
   | some s, some (.u8, c) => K (.d (.int .i64) (q5I s c)) h
   | _, _ => .fail)
 | 3, [x, y, z] => (match asI x, asI y, asI z with
   | some (.u64, a), some (.u64, b), some (.u64, c) => .ite (Nat.ble c.toNat 1) (K (.tup [.d (.int .u64) (q04 a b c), .d (.int .u64) (qZ0 a b c)]) h) .fail
   | _, _, _ => .fail)
 | 4, [x, y, z] => (match asI x, asI y, asI z with
   | some (.u64, a), some (.u64, b), some (.u64, c) => .ite (Nat.ble c.toNat 1) (K (.tup [.d (.int .u64) (qUU a b c), .d (.int .u64) (qTB a b c)]) h) .fail
   | _, _, _ => .fail)
 | _, _ => F
end
end Go.Sv
namespace Go.Sv
open Go.Idl
noncomputable section
variable [Gc]
variable [Frs]
variable [Yl]
variable {P : Program} {G : Nat -> Bool} {nm : Nm} {tab : uH} {nat : y7} {good : FuncId -> Bool} {T : kS} {IT : List (FuncId × zAV)}
omit [Yl] in
theorem qZL {g : FuncId} {fn : Func} {c : Code} {N : Nat} {args : List PV} {ph : PHp} {R : PV -> PHp -> Prop} (hent : enters P g = true) (hfn : P.funcs[g]? = some fn) (hb : fn.body = some c) (hN : fn.ntmps = N)
 (h : Runs P G false nm c (args ++ List.replicate (N - args.length) .unk) ph fun e pe p => (e = .normal ∨ e = .ret) ∧ ∃ v, gQ P fn pe p = some v ∧ R v p) :
 qCG P G nm g args ph R := by
 refine .inr ⟨hent, fun Z H m zAM hp hbs hv => ?_⟩;refine uI.of hfn hb hN ?_
 have zAH : VRL P Z H (own m ph) (args ++ List.replicate (N - args.length) .unk) (zAM ++ List.replicate (N - zAM.length) undef) := by
  rw [hv.len];refine VRL.append hv ⟨by simp, fun i z v h1 h2 => ?_⟩;rw [zM4] at h1;split at h1
  ·cases h1; exact .unk
  ·cases h1
 refine (h Z H m _ hp hbs zAH).mono ?_;rintro o ⟨Z', m', env', ph', a1, b1, c1, d1, he, v, hr, hR⟩;refine ⟨he, ?_⟩;obtain ⟨u, v1, v2⟩ := tK a1 b1 hr;exact ⟨u, v1, Z', m', v, ph', a1, v2, c1, d1, hR⟩
def rtS (P : Program) (ty : TypeId) : SV -> Option SV
 | .d t x => cond (t.one && t.nol) (some (.d t x)) none
 | .c (.slice none 0 0) => match zT P ty with
   | some el => (match qD4 P 8 el with
     | some t => some (.d (.list el t) [])
     | none => none)
   | none => none
 | .c (.int k x) => some (.c (.int k x))
 | .c .nilIface => some (.c .nilIface)
 | .c (.bool b) => some (.c (.bool b))
 | .c (.string b) => some (.c (.string b))
 | .own k g n => some (.own k g n)
 | .sl k g n o m => some (.sl k g n o m)
 | .ref k o w => some (.ref k o w)
 | .elt k g n w j o => some (.elt k g n w j o)
 | .lp t xs j o => some (.lp t xs j o)
 | .fn f a b => some (.fn f a b)
 | _ => none
def q7K (P : Program) : List TypeId -> List SV -> Option (List SV)
 | ty :: tys, v :: l => (match cond (Gc.ol ty) (some v) (rtS P ty v), q7K P tys l with
   | some x, some y => some (x :: y)
   | _, _ => none)
 | [], l => some l
 | _ :: _, [] => some []
def q79 (P : Program) (ty : TypeId) : SV -> Option SV
 | .agg l => (match q7K P (vE P 8 ty) l with
   | some l' => some (.agg l')
   | none => none)
 | v => rtS P ty v
theorem qOI {ty : TypeId} {v v' : SV} (e : rtS P ty v = some v') : (rt1 P ty v.enc = v'.enc ∧ rt0 P ty v.enc = v'.enc) ∧ ∀ h, v.ok h -> v'.ok h := by
 unfold rtS at e;split at e
 ·rename_i t x
  cases ht : (t.one && t.nol) with
  | true =>
    rw [ht] at e;cases e
    refine ⟨⟨?_, ?_⟩, fun h hv => hv⟩ <;>
    ·simp only [SV.enc];exact qBF ht
  | false => rw [ht] at e; cases e
 ·split at e
  ·rename_i el hel;split at e
   ·rename_i t ht;cases e
    refine ⟨⟨?_, ?_⟩, fun h _ => by simp [SV.ok]⟩ <;>
    ·simp only [SV.enc, fvv]
     show (match zT P ty with
      | some el => PV.f (.l el 0 [])
      | none => fvv (.slice none 0 0)) = _
     rw [hel];rfl
   ·cases e
  ·cases e
 all_goals first
  | (cases e; exact ⟨⟨by simp only [SV.enc]; rfl, by simp only [SV.enc]; rfl⟩, fun h hv => hv⟩)
  | cases e
theorem qSX : ∀ {tys : List TypeId} {l l' : List SV}, q7K P tys l = some l' -> rtL (rtC P) tys (qB l) = qB l' ∧ ∀ h, okL h l -> okL h l'
 | [], l, l', e => by
   have e : some l = some l' := by cases l <;> exact e
   cases e;exact ⟨by cases qB l <;> rfl, fun _ h => h⟩
 | ty :: tys, [], l', e => by
   cases e;exact ⟨by simp [qB, rtL], fun _ h => h⟩
 | ty :: tys, v :: l, l', e => by
   unfold q7K at e;split at e
   ·rename_i x y hx hy;cases e;obtain ⟨b1, b2⟩ := qSX hy
    have hv : rtC P ty v.enc = x.enc ∧ ∀ h, v.ok h -> x.ok h := by
     unfold rtC
     cases hc : Gc.ol ty with
     | true => rw [hc] at hx; cases hx; exact ⟨rfl, fun _ h => h⟩
     | false => rw [hc] at hx; exact ⟨(qOI hx).1.2, (qOI hx).2⟩
    refine ⟨?_, fun h hl => ?_⟩
    ·simp only [qB, rtL, hv.1, b1]
    ·simp only [okL] at hl ⊢;exact ⟨hv.2 h hl.1, b2 h hl.2⟩
   ·cases e
theorem q2D {ty : TypeId} {v v' : SV} (e : q79 P ty v = some v') : rt1 P ty v.enc = v'.enc ∧ ∀ h, v.ok h -> v'.ok h := by
 unfold q79 at e;split at e
 ·rename_i l;split at e
  ·rename_i l' hl;cases e;obtain ⟨a1, a2⟩ := qSX hl;refine ⟨?_, fun h hv => ?_⟩
   ·simp only [SV.enc];show PV.agg (rtL (rtC P) (vE P 8 ty) (qB l)) = _;rw [a1]
   ·simp only [SV.ok] at hv ⊢;exact a2 h hv
  ·cases e
 ·exact ⟨(qOI e).1.1, (qOI e).2⟩
def q4T (P : Program) : List TypeId -> List SV -> Option (List SV)
 | _, [] => some []
 | ty :: tys, v :: l => (match q79 P ty v, q4T P tys l with
   | some x, some y => some (x :: y)
   | _, _ => none)
 | [], _ :: _ => none
theorem qT5 : ∀ {tys : List TypeId} {l l' : List SV}, q4T P tys l = some l' -> rtL (rt1 P) tys (qB l) = qB l' ∧ ∀ h, okL h l -> okL h l'
 | tys, [], l', e => by
   have : some [] = some l' := by cases tys <;> exact e
   cases this;exact ⟨by cases tys <;> simp [qB, rtL], fun h hl => hl⟩
 | ty :: tys, v :: l, l', e => by
   unfold q4T at e;split at e
   ·rename_i x y hx hy;cases e;obtain ⟨a1, a2⟩ := q2D hx;obtain ⟨b1, b2⟩ := qT5 hy;refine ⟨?_, fun h hl => ?_⟩
    ·simp only [qB, rtL, a1, b1]
    ·simp only [okL] at hl ⊢;exact ⟨a2 h hl.1, b2 h hl.2⟩
   ·cases e
 | [], _ :: _, _, e => by cases e
def qRB : List SV -> SV
 | [v] => v
 | vs => .tup vs
def q8Z {R : Type} (P : Program) (zCE : List TypeId) (rl : List Nat) (K : SV -> SH -> q98 R) : uK none R := fun e _ env h => match e with
 | .normal => (match qIA rl env with
   | some vs => (match q4T P zCE vs with
     | some ws => K (qRB ws) h
     | none => .fail)
   | none => .fail)
 | .ret => (match qIA rl env with
   | some vs => (match q4T P zCE vs with
     | some ws => K (qRB ws) h
     | none => .fail)
   | none => .fail)
 | _ => .fail
def q3J : List ResultVar -> Option (List Nat)
 | [] => some []
 | .tmp t :: l => (q3J l).map (t :: ·)
 | .cell _ _ :: _ => none
omit [Yl] in
theorem qIZ {env : List PV} {ph : PHp} : ∀ {l : List ResultVar} {rl : List Nat}, q3J l = some rl -> qGH P env ph l = some (rl.map fun t => (zC env t).getD .unk)
 | [], rl, e => by cases e; rfl
 | .tmp t :: l, rl, e => by
   obtain ⟨rl', h1, rfl⟩ := zKF.1 e;simp only [qGH, qXL, qIZ h1, zKM]
 | .cell _ _ :: _, rl, e => by cases e
abbrev Ans := List (FuncId × (An × List Ty))
def ciN [Hnd] (P : Program) (G : Nat -> Bool) (T : kS) (IT : List (FuncId × zAV)) (ans : Ans) : Nat -> CIT
 | 0 => fun R nm f as h K => q7G P f as h K (Hnd.ci R nm f as h K)
 | n + 1 => fun R nm f as h K => match P.funcs[f]?, lkA f ans with
   | some fn, some (an, rs) => (match fn.body, q3J fn.results.toList with
     | some c, some rl => cond (enters P f && Nat.ble as.length fn.ntmps) (ev (Γ := none) P G T IT (ciN P G T IT ans n) yi0 an (rdR P h fn.resultTypes.toList rs fn.results.toList) (enR fn.ntmps fn.results.toList rs) h c false nm () (as ++ List.replicate (fn.ntmps - as.length) .unk) h (q8Z P fn.resultTypes.toList rl K)) .fail
     | _, _ => .fail)
   | _, _ => q7G P f as h K (Hnd.ci R nm f as h K)
theorem qUR {R : Type} {nm : Nm} {f : FuncId} {as : List SV} {h : SH} {K : SV -> SH -> q98 R} {F : q98 R} {r : R} (ho : OkH P h) (e : (q7G P f as h K F).run = some r) :
 qCG P G nm f (qB as) (qD h.l) (fun v p => ∃ v' h', v = v'.enc ∧ p = qD h'.l ∧ Post P h h' v' ∧ (K v' h').run = some r) ∨ F.run = some r := by
 have go : ∀ {x y : SV} {s : ByteArray} {c z : Int}, asS x = some s -> asI y = some (.u8, c) -> qMI P f = true ∧ yE P (callFunc f #[.string s, .int .u8 c]) = some (.value (.int .i64 z)) -> (K (.d (.int .i64) z) h).run = some r ->
  qCG P G nm f (qB [x, y]) (qD h.l) (fun v p => ∃ v' h', v = v'.enc ∧ p = qD h'.l ∧ Post P h h' v' ∧ (K v' h').run = some r) := fun {x y s c z} hs hc hx hk => by
  refine .inl ⟨hx.1, [.string s, .int .u8 c], .int .i64 z, ?_, rfl, hx.2, rfl, _, h, ?_, rfl, ⟨.refl _, ho, ?_⟩, hk⟩
  ·simp only [qB, u7 hs, yG hc]; rfl
  ·simp [SV.enc, Ty.fv]; rfl
  ·simp [SV.ok]
 have go3 : ∀ {x y z : SV} {a b c u v : Int}, asI x = some (.u64, a) -> asI y = some (.u64, b) -> asI z = some (.u64, c) -> qMI P f = true ∧ yE P (callFunc f #[.int .u64 a, .int .u64 b, .int .u64 c]) = some (.value (.tuple #[.int .u64 u, .int .u64 v])) -> (K (.tup [.d (.int .u64) u, .d (.int .u64) v]) h).run = some r ->
  qCG P G nm f (qB [x, y, z]) (qD h.l) (fun v p => ∃ v' h', v = v'.enc ∧ p = qD h'.l ∧ Post P h h' v' ∧ (K v' h').run = some r) := fun {x y z a b c u v} ha hb hc hx hk => by
  refine .inl ⟨hx.1, [.int .u64 a, .int .u64 b, .int .u64 c], .tuple #[.int .u64 u, .int .u64 v], ?_, rfl, hx.2, rfl, _, h, ?_, rfl, ⟨.refl _, ho, ?_⟩, hk⟩
  ·simp only [qB, yG ha, yG hb, yG hc]; rfl
  ·simp [SV.enc, qB, Ty.fv]; rfl
  ·simp [SV.ok, okL]
 unfold q7G at e;split at e
 ·rename_i x y hx;split at e
  ·rename_i s c hs hc;exact .inl (go hs hc (qVY hx) e)
  ·cases e
 ·rename_i x y hx;split at e
  ·rename_i s c hs hc;exact .inl (go hs hc (qTR hx) e)
  ·cases e
 ·rename_i x y z hx;split at e
  ·rename_i a b c ha hb hc
   rcases run_ite e with ⟨q, e1⟩ | ⟨_, e1⟩
   ·exact .inl (go3 ha hb hc (q1L hx q) e1)
   ·cases e1
  ·cases e
 ·rename_i x y z hx;split at e
  ·rename_i a b c ha hb hc
   rcases run_ite e with ⟨q, e1⟩ | ⟨_, e1⟩
   ·exact .inl (go3 ha hb hc (q15 hx q) e1)
   ·cases e1
  ·cases e
 ·exact .inr e
theorem qNL {env : List SV} : ∀ {rl : List Nat} {vs : List SV}, qIA rl env = some vs -> (rl.map fun t => (zC (qB env) t).getD PV.unk) = qB vs
 | [], vs, e => by cases e; simp [qB]
 | i :: is, vs, e => by
   unfold qIA at e;split at e
   ·rename_i v l hx hl;cases e;rw [zKM, qNL hl, zH, hx];simp [qB]
   ·cases e
theorem qZT (l : List SV) : (qRB l).enc = qCJ (qB l) := by
 match l with
 | [] => simp [qRB, qCJ, SV.enc, qB]
 | [v] => simp [qRB, qCJ, qB]
 | a :: b :: l => simp [qRB, qCJ, SV.enc, qB]
omit [Yl] in
theorem q1N {h : SH} {l : List SV} (hl : okL h l) : (qRB l).ok h := by
 match l, hl with
 | [], hl => simp [qRB, SV.ok, okL]
 | [v], hl => simp only [okL] at hl; exact hl.1
 | a :: b :: l, hl => simp only [qRB, SV.ok]; exact hl
theorem qJN [Hnd] [zBJ P G] [zAZ P G] (s : zA3 P good nat G tab) (ht : qPM tab T) (hit : q1B P G IT) (ans : Ans) : ∀ n, qZ7 P G (ciN P G T IT ans n)
 | 0 => by
   intro nm f as h K r ho ha e;unfold ciN at e;rcases qUR (nm := nm) ho e with h1 | h1
   ·exact h1
   ·exact zBJ.ok (P := P) (G := G) nm f as h K r ho ha h1
 | n + 1 => by
   intro nm f as h K r ho ha e;unfold ciN at e;split at e
   case h_2 =>
    rcases qUR (nm := nm) ho e with h1 | h1
    ·exact h1
    ·exact zBJ.ok (P := P) (G := G) nm f as h K r ho ha h1
   rename_i fn an rs hfn hans;split at e
   case h_2 => cases e
   rename_i c rl hbody hrl;obtain ⟨hc, e⟩ := qG e;rw [zJ5] at hc;have hal : as.length <= fn.ntmps := zKE hc.2
   have hlen : (as ++ List.replicate (fn.ntmps - as.length) SV.unk).length = fn.ntmps := by
    rw [zKW, zMP]; omega
   refine qZL hc.1 hfn hbody rfl ?_
   have zAH : qB as ++ List.replicate (fn.ntmps - (qB as).length) PV.unk = qB (as ++ List.replicate (fn.ntmps - as.length) .unk) := by
    rw [mV, qAE, qW]
   rw [zAH];refine (qP.runs (q2V (Γ := none) (wd := q7V) s ht hit (qJN s ht hit ans n) q89 (fun nm => qSW ho) c ho (aJ ha (dF _ _)) hlen (.refl _) e)).mono ?_;rintro ex pe ph ⟨env', h', rfl, rfl, k1, k2, k3, k0, k4, k5⟩
   have key : ∀ {vs ws : List SV}, qIA rl env' = some vs -> q4T P fn.resultTypes.toList vs = some ws -> (K (qRB ws) h').run = some r -> ∃ v, gQ P fn (qB env') (qD h'.l) = some v ∧ ∃ v' h2, v = v'.enc ∧ qD h'.l = qD h2.l ∧ Post P h h2 v' ∧ (K v' h2).run = some r := fun {vs ws} hvs hws hk => by
    obtain ⟨a1, a2⟩ := qT5 hws;refine ⟨(qRB ws).enc, ?_, qRB ws, h', rfl, rfl, ⟨k0, k2, q1N (a2 _ (yA.2 fun z hz => yA.1 k1 z (qFM hvs z hz)))⟩, hk⟩;unfold gQ;rw [qIZ hrl, qNL hvs, qZT, <- a1];rfl
   cases ex with
   | normal =>
     simp only [q8Z] at k5;split at k5
     ·split at k5
      ·exact ⟨.inl rfl, key ‹_› ‹_› k5⟩
      ·cases k5
     ·cases k5
   | ret =>
     simp only [q8Z] at k5;split at k5
     ·split at k5
      ·exact ⟨.inr rfl, key ‹_› ‹_› k5⟩
      ·cases k5
     ·cases k5
   | exit _ => cases k5
   | goto _ => cases k5
def q9U {γ : Type} : uK (some γ) γ := fun e g _ _ => match e with
 | .normal => some g
 | .ret => some g
 | _ => none
def fnI (P : Program) (G : Nat -> Bool) (T : kS) (IT : List (FuncId × zAV)) (CI : CIT) (an : An) (as ys : List Ty) (yt : List TypeId) (fn : Func) (x : TyL as) (γ : Type) (stp : γ -> TyL ys -> Option (γ × Bool)) (g0 : γ) : Option γ := match fn.body with
 | some c => (ev (Γ := some γ) (rs := []) P G T IT CI ⟨ys, yt, stp⟩ an (rdR P ⟨0, []⟩ [] [] []) (enR fn.ntmps [] []) ⟨0, []⟩ c false nm0 g0 (.yv :: (qMS as x ++ List.replicate (fn.ntmps - (as.length + 1)) .unk)) ⟨0, []⟩ q9U).run
 | none => none
end
noncomputable section
variable [Gc]
variable [Frs]
variable {P : Program} {G : Nat -> Bool} {nm : Nm} {tab : uH} {nat : y7} {good : FuncId -> Bool} {T : kS} {IT : List (FuncId × zAV)}
theorem q1F [zAZ P G] (s : zA3 P good nat G tab) (ht : ∀ [Yl], qPM tab T) (hit : ∀ [Yl], q1B P G IT) {CI : [Yl] -> CIT} (hci : ∀ [Yl], qZ7 P G CI) {an : An} {as ys : List Ty} {yt : List TypeId} {f : FuncId} {fn : Func} {F : TyL as -> (γ : Type) -> (γ -> TyL ys -> Option (γ × Bool)) -> γ -> Option γ}
 (hent : entered P f = true) (hfn : P.funcs[f]? = some fn) (hc : (Nat.ble (as.length + 1) fn.ntmps && fn.results.toList.isEmpty) = true) (hF : ∀ (y : Yl) x γ stp g0, @fnI _ _ y P G T IT CI an as ys yt fn x γ stp g0 = F x γ stp g0) [Yl] : q0U P G f ⟨as, ys, yt, F⟩ := by
 refine ⟨hent, fun x γ stp g0 g1 hx w l hst Z H D us hz hb hgl hW hv => ?_⟩
 letI : Yl := ⟨l⟩
 have hx : F x γ stp g0 = some g1 := hx;rw [<- hF ⟨l⟩] at hx;unfold fnI at hx;split at hx
 case h_2 => cases hx
 rename_i c hbody;rw [zJ5] at hc;have hal := zKE hc.1;have hres : fn.results = #[] := by simpa using hc.2
 have hlen : (SV.yv :: (qMS as x ++ List.replicate (fn.ntmps - (as.length + 1)) SV.unk)).length = fn.ntmps := by
  rw [zKO, zKW, qEE, zMP]; omega
 have hok : okL ⟨0, []⟩ (SV.yv :: (qMS as x ++ List.replicate (fn.ntmps - (as.length + 1)) SV.unk)) := by
  simp only [okL];exact ⟨by simp [SV.ok], aJ (qRV as x) (dF _ _)⟩
 have hy : YOk P G (Γ := GV (some γ)) w ⟨ys, yt, stp⟩ := fun g y g' b h => hst g y g' b h
 have hrun := q2V (Γ := some γ) (wd := w) s ht hit hci hy (fun nm => qSW tN) c tN hok hlen (.refl _) hx;refine uI.of hfn hbody rfl ?_;have e0 : own (fun _ => 0) [] = fun _ => none := rfl
 have hp0 : Hp P Z H (own (fun _ => 0) []) := ⟨hz, fun k b ob hk => (by cases hk), fun k k' b b' ob ob' hk => (by cases hk), hgl⟩
 have zAH : VRL P Z H (own (fun _ => 0) []) (qB (SV.yv :: (qMS as x ++ List.replicate (fn.ntmps - (as.length + 1)) SV.unk))) ((.func (.yield l) #[] #[] :: us) ++ List.replicate (fn.ntmps - (Value.func (.yield l) #[] #[] :: us).length) undef) := by
  simp only [qB, mV, qGC, qAE, zL2];refine .cons .yl ?_;have hul : us.length = as.length := by rw [<- hv.len, <- qGC, qW, qEE]
  rw [zKO, hul];refine VRL.append hv ⟨by simp, fun i z v h1 h2 => ?_⟩;rw [zM4] at h1;split at h1
  ·cases h1; exact .unk
  ·cases h1
 refine (hrun Z H (fun _ => 0) _ D ⟨hp0, zAH, hW, fun b _ => qCS b⟩ hb).mono ?_;rintro o ⟨Z', m', pe, ph, g', D', st, sd, kr, env', h', rfl, rfl, k1, k2, k3, k0, k4, k5⟩
 obtain ⟨he, hg⟩ : (o.e = .normal ∨ o.e = .ret) ∧ g' = g1 := by
  cases hoe : o.e with
  | normal => rw [hoe] at k5; exact ⟨.inl rfl, zK5 k5⟩
  | ret => rw [hoe] at k5; exact ⟨.inr rfl, zK5 k5⟩
  | exit _ => rw [hoe] at k5; cases k5
  | goto _ => rw [hoe] at k5; cases k5
 subst hg;refine ⟨he, .tuple #[], by unfold jK; rw [hres]; rfl, Z', D', st.hp.zlt, st.wd, ⟨sd.size, sd.base, sd.zle, fun b h1 h2 h3 => sd.keep b h1 h2 h3, fun b h1 h2 => sd.zA7 b h1 h2, fun b h1 _ => absurd h1 (qCS b), sd.zBP⟩⟩
def Lib (P : Program) (good : FuncId -> Bool) (G : Nat -> Bool) (T : kS) (IT : List (FuncId × zAV)) : Prop := ∃ nat tab, zA3 P good nat G tab ∧ (∀ [Yl], qPM tab T) ∧ ∀ [Yl], q1B P G IT
theorem Lib.zBU (L : Lib P good G T IT) (g : FuncId) (as rs : List Ty) (F : TyL as -> Option (TyL rs)) (hent : enters P g = true)
 (h : ∀ {nat : y7}, Setup P good nat G -> ∀ (x : TyL as) (y : TyL rs) (args : List Value) (H : IH), F x = some y -> (∃ Z : Nat -> Prop, VRL P Z H (fun _ => none) ((enL as).p x) args ∧ ∀ b, Z b -> b < H.size) -> H.base <= H.size -> GlH H -> uI P G g args H fun q => qX2 P (enL as) F (j3 rs) x args H q.1 q.2) : Lib P good G ((g, ⟨as, rs, F⟩) :: T) IT := by
 obtain ⟨nat, tab, s, ht, hit⟩ := L
 letI : Yl := ⟨0⟩
 refine ⟨_, _, s.zBU (enL as) F (j3 rs) hent (qLZ rs) (h s.s), ?_, hit⟩;intro _ g' ent hg x;have hg : cond (Nat.beq g' g) (some (⟨as, rs, F⟩ : Ent)) (slT g' T) = some ent := hg;unfold q4N
 cases hb : Nat.beq g' g with
 | true =>
   rw [hb] at hg;cases hg;exact qVV (a := enL as) x
 | false =>
   rw [hb] at hg;exact ht g' ent hg x
theorem Lib.add [Hnd] [zBJ P G] [zAZ P G] (L : Lib P good G T IT) (g : FuncId) (ans : Ans) (n : Nat) (an : An) (as rs : List Ty) (fn : Func) (F : TyL as -> Option (TyL rs)) (hent : enters P g = true) (hfn : P.funcs[g]? = some fn) (hc : qQ5 as rs fn = true)
 (hF : ∀ (y : Yl) x, @fnS _ _ y P G T IT (ciN P G T IT ans n) an as rs fn x = F x) : Lib P good G ((g, ⟨as, rs, F⟩) :: T) IT := by
 obtain ⟨nat, tab, s, ht, hit⟩ := L
 letI : Yl := ⟨0⟩
 have hF2 : fnS P G T IT (ciN P G T IT ans n) an as rs fn = F := funext fun x => hF ⟨0⟩ x
 have zDY := q6C (an := an) (as := as) (rs := rs) s ht hit (qJN s ht hit ans n) hfn hc;rw [hF2] at zDY;refine ⟨_, _, s.add (enL as) F (j3 rs) hent (qLZ rs) zDY, ?_, hit⟩;intro _ g' ent hg x;have hg : cond (Nat.beq g' g) (some (⟨as, rs, F⟩ : Ent)) (slT g' T) = some ent := hg;unfold q4N
 cases hb : Nat.beq g' g with
 | true =>
   rw [hb] at hg;cases hg;exact qVV (a := enL as) x
 | false =>
   rw [hb] at hg;exact ht g' ent hg x
theorem Lib.zH7 [Hnd] [zBJ P G] [zAZ P G] (L : Lib P good G T IT) (f : FuncId) (ans : Ans) (n : Nat) (an : An) (as ys : List Ty) (yt : List TypeId) (fn : Func) (F : TyL as -> (γ : Type) -> (γ -> TyL ys -> Option (γ × Bool)) -> γ -> Option γ) (hent : entered P f = true) (hfn : P.funcs[f]? = some fn) (hc : (Nat.ble (as.length + 1) fn.ntmps && fn.results.toList.isEmpty) = true)
 (hF : ∀ (y : Yl) x γ stp g0, @fnI _ _ y P G T IT (ciN P G T IT ans n) an as ys yt fn x γ stp g0 = F x γ stp g0) : Lib P good G T ((f, ⟨as, ys, yt, F⟩) :: IT) := by
 obtain ⟨nat, tab, s, ht, hit⟩ := L;refine ⟨nat, tab, s, ht, ?_⟩;intro _ f' ent hg;have hg : cond (Nat.beq f' f) (some (⟨as, ys, yt, F⟩ : zAV)) (slI f' IT) = some ent := hg
 cases hb : Nat.beq f' f with
 | true =>
   rw [hb] at hg;cases hg;rw [zJ6 hb];exact q1F s ht hit (CI := ciN P G T IT ans n) (qJN s ht hit ans n) hent hfn hc hF
 | false =>
   rw [hb] at hg;exact hit f' ent hg
theorem Lib.zH8 [Hnd] [zBJ P G] [zAZ P G] (L : Lib P good G T IT) (g : FuncId) (ans : Ans) (an : An) (as rs : List Ty) (fn : Func) (F : TyL as -> Option (TyL rs)) (hent : enters P g = true) (hfn : P.funcs[g]? = some fn) (hc : qQ5 as rs fn = true)
 (hF : (fun (y : Yl) (x : TyL as) => @fnS _ _ y P G T IT (ciN P G T IT ans 3) an as rs fn x) = fun (_ : Yl) x => F x) : Lib P good G ((g, ⟨as, rs, F⟩) :: T) IT := L.add g ans 3 an as rs fn F hent hfn hc fun y x => congrFun (congrFun hF y) x
theorem Lib.zGU [Hnd] [zBJ P G] [zAZ P G] (L : Lib P good G T IT) (f : FuncId) (ans : Ans) (an : An) (as ys : List Ty) (yt : List TypeId) (fn : Func) (F : TyL as -> (γ : Type) -> (γ -> TyL ys -> Option (γ × Bool)) -> γ -> Option γ) (hent : entered P f = true) (hfn : P.funcs[f]? = some fn) (hc : (Nat.ble (as.length + 1) fn.ntmps && fn.results.toList.isEmpty) = true)
 (hF : (fun (y : Yl) (x : TyL as) (γ : Type) (stp : γ -> TyL ys -> Option (γ × Bool)) (g0 : γ) => @fnI _ _ y P G T IT (ciN P G T IT ans 3) an as ys yt fn x γ stp g0) = fun (_ : Yl) x γ stp g0 => F x γ stp g0) : Lib P good G T ((f, ⟨as, ys, yt, F⟩) :: IT) :=
 L.zH7 f ans 3 an as ys yt fn F hent hfn hc fun y x γ stp g0 => congrFun (congrFun (congrFun (congrFun (congrFun hF y) x) γ) stp) g0
end
end Go.Sv
namespace Go.Sv
open Go.Idl
variable [Gc] {P : Program} {G : Nat -> Bool} {tab : uH} {nat : y7} {good : FuncId -> Bool}
theorem qTX {k : IntKind} : ∀ {cs : List FV}, cs.all (isK k) = true -> ∃ xs : List Int, cs = List.flatMap (Ty.int k).cells xs ∧ xs.length = cs.length
 | [], _ => ⟨[], rfl, rfl⟩
 | c :: cs, h => by
   rw [zK9, zJ5] at h;obtain ⟨xs, h1, h2⟩ := qTX h.2;have hc := h.1;unfold isK at hc;split at hc
   ·rename_i k' x;have : k = k' := of_decide_eq_true hc;subst this;exact ⟨x :: xs, by rw [zKZ, <- h1]; rfl, by rw [zKO, zKO, h2]⟩
   ·cases hc
theorem q5P [Frs] (s : zA3 P good nat G tab) (h : ∀ g el, Frs.fr g = some el -> enters P g = true ∧ qMI P g = false ∧ szT P el = some 1 ∧ tab g [.f (.l el 0 [])] = some (.f (.l el 0 [])) ∧
 ∀ (xs : List Int), xs ≠ [] -> Nat.ble xs.length 1048576 = true -> qCG P G nm0 g [.f (.l el xs.length (List.flatMap (Ty.int Frs.fk).cells xs))] [] fun v p => ∃ k0, v = .own k0 xs.length 0 xs.length ∧ qA k0 p = some ⟨el, true, (List.flatMap (Ty.int Frs.fk).cells xs).map .f⟩) : zAZ P G := by
 refine ⟨fun g el hg => ?_⟩;obtain ⟨h1, hx, hsz, h2, h3⟩ := h g el hg;refine ⟨h1, fun n cs hfo Z H zAM hp hb hv => ?_⟩;unfold qWJ at hfo;rw [hsz] at hfo;simp only [zJ5] at hfo;obtain ⟨f1, f2, _, f3⟩ := hfo;obtain ⟨xs, rfl, hlen⟩ := qTX f3
 have hn : n = xs.length := by
  have := zJ6 f1;omega
 subst hn;by_cases hxs : xs = []
 ·subst hxs;obtain ⟨_, _, k, hk, hc⟩ := s.t g _ _ h2;intro args' f w hR hG ha;refine s.s.spec g k hk zAM args' H f w _ hR hG ha (hc Z H zAM hv hp.zlt hb hp.gl _ fun v H' Z' k1 k2 k3 k4 k5 => ?_);have hp2 : Hp P Z' H' (own (fun _ => 0) []) := hp.old k1 k2 k3 k4;exact ⟨Z', fun _ => 0, .f (.l el 0 []), [], hp2, k5, .old k1 k2 k4, .inl ⟨rfl, rfl⟩⟩
 ·rcases h3 xs hxs f2 with ⟨e, _⟩ | ⟨_, hc⟩
  ·rw [hx] at e; cases e
  ·refine (hc Z H (fun _ => 0) zAM hp hb hv).mono ?_;rintro r ⟨Z', m', pv, ph', a, b, c, d, k0, rfl, e⟩;refine ⟨Z', m', _, ph', a, b, c, .inr ⟨fun h => hxs (List.eq_nil_of_length_eq_zero h), k0, rfl, e⟩⟩
end Go.Sv
