/- A symbolic run, part two. Conditions: none. -/
import Derived.Test.YtpegkendiefkaaaGreatDoorSvA
import Derived.Test.YtpegkendiefkaaaGreatDoorPur20
set_option linter.all false
namespace Go.Sv
open Go.Idl
variable {env : List SV} {h : SH} {i s : Nat} {ob : PO} {ph ph' : PHp} {ty : TypeId} {v : SV} {x y : PV}
noncomputable section
variable [Gc]
variable [Yl]
variable {P : Program} {R : Type} {r : R} {G : Nat -> Bool} {nm : Nm} {rd : Bool}
def Wk (P : Program) (nm : Nm) (pe : List PV) (ph : PHp) (pe' : List PV) (ph' : PHp) : Prop :=
 ∀ (Z : Nat -> Prop) (H : IH) (m : Nat -> Nat) (vs : List Value), Hp P Z H (own m ph) -> VRL P Z H (own m ph) pe vs ->
  ∃ Z' m', Hp P Z' H (own m' ph') ∧ VRL P Z' H (own m' ph') pe' vs ∧ Step Z H (own m ph) Z' H (own m' ph') ∧ KR (inP nm) (own m ph) (own m' ph')
omit [Yl] in
theorem Wk.refl (pe : List PV) (ph : PHp) : Wk P nm pe ph pe ph := fun Z H m vs hp hv => ⟨Z, m, hp, hv, .refl _ _ _, .refl _ _⟩
omit [Yl] in
theorem Wk.trans {a b c : List PV} {p q s : PHp} (x : Wk P nm a p b q) (y : Wk P nm b q c s) : Wk P nm a p c s := fun Z H m vs hp hv => by
 obtain ⟨Z1, m1, a1, a2, a3, a4⟩ := x Z H m vs hp hv;obtain ⟨Z2, m2, b1, b2, b3, b4⟩ := y Z1 H m1 vs a1 a2;exact ⟨Z2, m2, b1, b2, a3.trans b3, a4.trans b4⟩
omit [Yl] in
theorem Wk.drop {a b : List PV} {p q : PHp} (hw : WkP a b) (hs : qAX q p) : Wk P nm a p b q := fun Z H m vs hp hv => by
 have hf := Fz.drop hp hs;exact ⟨Z, m, hf.hp, hw.rel (hf.vrl hv), hf.step, hf.kr _⟩
omit [Yl] in
theorem qKA : ∀ {l m : List PV}, l.length = m.length -> (∀ i, zL m i = zL l i ∨ zL m i = some .unk) -> WkP l m
 | [], [], _, _ => .nil
 | [], _ :: _, h, _ => by cases h
 | _ :: _, [], h, _ => by cases h
 | x :: l, y :: m, h, hi => by
   have ih := qKA (l := l) (m := m) (by simpa using h) fun i => hi (i + 1)
   rcases hi 0 with q | q
   ·have q : some y = some x := q;cases q;exact .same ih
   ·have q : some y = some PV.unk := q;cases q;exact .any ih
def fzs (P : Program) : List (Nat × TypeId) -> List SV -> SH -> (List SV -> SH -> zHP R) -> zHP R
 | [], env, h, K => K env h
 | (i, ty) :: l, env, h, K => match zL env i, qIR P 8 ty with
   | some v, some t => (match q8X P ty t v h with
     | some (x, h') => fzs P l (yT env i (t.sv x)) h' K
     | none => .fail)
   | _, _ => .fail
def kW (P : Program) (w : List Nat) (env : List SV) (h : SH) (env' : List SV) (h' : SH) : Prop :=
 okL h' env' ∧ OkH P h' ∧ Keep h h' ∧ (∀ i, i ∉ w -> zL (qB env') i = zL (qB env) i) ∧ env'.length = env.length
theorem kW.trans {w w2 : List Nat} {env zHT zIM : List SV} {h h1 h2 : SH} (a : kW P w env h zHT h1) (b : kW P w2 zHT h1 zIM h2) : kW P (w ++ w2) env h zIM h2 :=
 ⟨b.1, b.2.1, a.2.2.1.trans b.2.2.1, fun i hi => by
   rw [zUQ, not_or] at hi
   exact (b.2.2.2.1 i hi.2).trans (a.2.2.2.1 i hi.1), b.2.2.2.2.trans a.2.2.2.2⟩
theorem kW.refl {env : List SV} {h : SH} (ho : OkH P h) (he : okL h env) : kW P [] env h env h := ⟨he, ho, .refl _, fun _ _ => rfl, rfl⟩
theorem kW.up {w w2 : List Nat} {zHT : List SV} {h1 : SH} (a : kW P w env h zHT h1) (hw : ∀ i ∈ w, i ∈ w2) : kW P w2 env h zHT h1 :=
 ⟨a.1, a.2.1, a.2.2.1, fun i hi => a.2.2.2.1 i fun q => hi (hw i q), a.2.2.2.2⟩
theorem qE3 {j : Nat} (h : i ≠ j) : zL (qB (yT env i v)) j = zL (qB env) j := by
 rw [vH, qV, qF, qF, zUM, if_neg h]
theorem zAA {h' : SH} (hv : zL env i = some v) (hf : fzP P (qI h.l) v.enc = some (y, qI h'.l)) : Wk P nm (qB env) (qI h.l) (yT (qB env) i (rt1 P ty y)) (qI h'.l) := by
 intro Z H m vs hp hr
 have hi : (qB env)[i]? = some v.enc := by
  rw [qF] at hv;rw [zD, zT9, hv]; rfl
 obtain ⟨u, hu, hr2⟩ := hr.get hi;obtain ⟨Z', h1, h2⟩ := qLR hp hr2 hf;exact ⟨Z', m, h1.hp, (h1.vrl hr).slot hu (qEB (nN h2 (qPX hf))), h1.step, h1.kr _⟩
theorem q4S : ∀ {l : List (Nat × TypeId)} {env : List SV} {h : SH} {K : List SV -> SH -> zHP R}, OkH P h -> okL h env -> (fzs P l env h K).run = some r ->
 ∃ env' h', Wk P nm (qB env) (qI h.l) (qB env') (qI h'.l) ∧ kW P (l.map (·.1)) env h env' h' ∧ (K env' h').run = some r
 | [], env, h, K, ho, he, e => ⟨env, h, .refl _ _, .refl ho he, e⟩
 | (i, ty) :: l, env, h, K, ho, he, e => by
   unfold fzs at e;split at e
   ·rename_i v t hv ht;split at e
    ·rename_i x h' hd;obtain ⟨y, a1, a2, a3, a4⟩ := qCZ ho (sD he hv) hd;have hw := zAA (nm := nm) (ty := ty) hv a1;have hs : yT (qB env) i (rt1 P ty y) = qB (yT env i (t.sv x)) := by rw [vH, oW, a2]
     rw [hs] at hw;obtain ⟨env', h2, b1, b2, b3⟩ := q4S (l := l) a4 (kZ (t := i) (v := t.sv x) (qL a3 he) (qLT t x)) e;refine ⟨env', h2, hw.trans b1, ?_, b3⟩
     have h0 : kW P [i] env h (yT env i (t.sv x)) h' := ⟨kZ (qL a3 he) (qLT t x), a4, a3, fun j hj => qE3 fun q => hj (by rw [q]; exact zX4 j), gV _ _ _⟩
     exact h0.trans b2
    ·cases e
   ·cases e
omit [Yl] in
theorem Wk.zR4 {env : List PV} (i k : Nat) (el : TypeId) (hi : zL env i = some (fvv (.slice none 0 0))) (hs : szT P el = some (s + 1)) (hf : fresh nm k env ph = true) : Wk P nm env ph (yT env i (.own k 0 0 0)) ((k, ⟨el, true, []⟩) :: ph) := by
 intro Z H m zHR hp he;rw [qF] at hi;obtain ⟨v, hv, hr⟩ := he.get hi;have hvn : v = .slice none 0 0 := yS hr rfl;subst hvn;obtain ⟨f1, f2, f3⟩ := q9K nm hf;have hnew : own m ((k, ⟨el, true, []⟩) :: ph) k = some (m k, ⟨el, true, []⟩) := by simp [own, qD]
 have hold : ∀ j, j ≠ k -> own m ((k, ⟨el, true, []⟩) :: ph) j = own m ph j := fun j hj => by
  unfold own; rw [fB hj]
 have hkr : KR (fun j => j == k) (own m ph) (own m ((k, ⟨el, true, []⟩) :: ph)) := fun j b ob hk => by
  by_cases hj : j = k
  ·exact .inr (.inr (by simp [hj]))
  ·rw [hold j hj] at hk; exact .inl ⟨ob, hk, rfl, rfl, rfl⟩
 have mono : ∀ {xs : List PV} {vs : List Value}, VRL P Z H (own m ph) xs vs -> yH k xs = true -> VRL P Z H (own m ((k, ⟨el, true, []⟩) :: ph)) xs vs := fun h hn => h.mono (fun _ h => h) (zT0 _) (fun _ _ _ => rfl) hkr fun j hj => by
  have : j = k := by simpa using hj
  subst this; exact hn
 have hp' : Hp P Z H (own m ((k, ⟨el, true, []⟩) :: ph)) := by
  refine ⟨hp.zlt, fun j b ob hk => ?_, fun j j' b b' ob ob' h1 h2 r1 r2 hne => ?_, hp.gl⟩
  ·by_cases hj : j = k
   ·subst hj; rw [hnew] at hk; cases hk; exact .inl ⟨rfl, rfl⟩
   ·rw [hold j hj] at hk
    rcases hp.obj j b ob hk with h | ⟨a1, a2, a3, a4⟩
    ·exact .inl h
    ·exact .inr ⟨a1, a2, a3, a4.mono rfl fun _ a5 => mono a5 (uD f3 (uO hk).1)⟩
  ·by_cases hj : j = k
   ·subst hj; rw [hnew] at h1; cases h1; exact absurd ⟨rfl, rfl⟩ r1
   ·by_cases hj' : j' = k
    ·subst hj'; rw [hnew] at h2; cases h2; exact absurd ⟨rfl, rfl⟩ r2
    ·rw [hold j hj] at h1; rw [hold j' hj'] at h2;exact hp.inj j j' b b' ob ob' h1 h2 r1 r2 hne
 have hown : VR P Z H (own m ((k, ⟨el, true, []⟩) :: ph)) (.own k 0 0 0) (.slice none 0 0) := .own rfl fun b ob hM => by
  rw [hnew] at hM; cases hM;exact ⟨s + 1, hs, by omega, by simp, fun _ => .inl ⟨rfl, rfl, rfl, rfl, rfl⟩⟩
 have hst : Step Z H (own m ph) Z H (own m ((k, ⟨el, true, []⟩) :: ph)) := ⟨zT0 _, rfl, fun _ h => h, fun _ _ _ => rfl, fun b h _ => .inl h, fun b ⟨j, ob, h1, h2⟩ _ => by
  by_cases hj : j = k
  ·subst hj; rw [hnew] at h1; cases h1; exact absurd ⟨rfl, rfl⟩ h2
  ·rw [hold j hj] at h1; exact ⟨j, ob, h1, h2⟩⟩
 have hup : KR (inP nm) (own m ph) (own m ((k, ⟨el, true, []⟩) :: ph)) := hkr.up fun j hj => by
  have e : j = k := by simpa using hj
  rw [e]; exact f1
 exact ⟨Z, m, hp', (mono he f2).slot hv hown, hst, hup⟩
omit [Yl] in
theorem Wk.zPW {env : List PV} (kb i k : Nat) (el : TypeId) (hk : qD kb ph = some ob) (hsp : spec P ob.el = false) (hgr : ob.gr = false) (hi : zL ob.cs i = some (fvv (.slice none 0 0))) (hs : szT P el = some (s + 1)) (hf : fresh nm k env ph = true) (hne : k ≠ kb) :
 Wk P nm env ph env ((k, ⟨el, true, []⟩) :: xP kb ⟨ob.el, false, yT ob.cs i (.own k 0 0 0)⟩ ph) := by
 intro Z H m zHR hp he;obtain ⟨f1, f2, f3⟩ := q9K nm hf;generalize zR5 : (k, (⟨el, true, []⟩ : PO)) :: xP kb ⟨ob.el, false, yT ob.cs i (.own k 0 0 0)⟩ ph = ph'
 have hM' : ∀ j, own m ph' j = if j = k then some (m k, ⟨el, true, []⟩) else if j = kb then some (m kb, ⟨ob.el, false, yT ob.cs i (.own k 0 0 0)⟩) else own m ph j := fun j => by
  subst zR5;unfold own;by_cases h1 : j = k
  ·subst h1; simp [qD]
  ·rw [if_neg h1, fB h1, zZ];by_cases h2 : j = kb
   ·subst h2; rw [if_pos ⟨rfl, by rw [hk]; rfl⟩, if_pos rfl]; rfl
   ·rw [if_neg (fun h => h2 h.1), if_neg h2]
 have hnew : own m ph' k = some (m k, ⟨el, true, []⟩) := by rw [hM', if_pos rfl]
 have zI6 : own m ph' kb = some (m kb, ⟨ob.el, false, yT ob.cs i (.own k 0 0 0)⟩) := by rw [hM', if_neg hne.symm, if_pos rfl]
 have hold : ∀ j, j ≠ k -> j ≠ kb -> own m ph' j = own m ph j := fun j h1 h2 => by rw [hM', if_neg h1, if_neg h2]
 have hkM : own m ph kb = some (m kb, ob) := qQ hk
 have hkr : KR (fun j => j == k) (own m ph) (own m ph') := fun j b o hj => by
  by_cases h1 : j = k
  ·exact .inr (.inr (by simp [h1]))
  ·by_cases h2 : j = kb
   ·subst h2;rw [zI6] at hj;cases hj;exact .inl ⟨ob, hkM, by simp [qV], rfl, hgr⟩
   ·rw [hold j h1 h2] at hj; exact .inl ⟨o, hj, rfl, rfl, rfl⟩
 have mono : ∀ {xs : List PV} {vs : List Value}, VRL P Z H (own m ph) xs vs -> yH k xs = true -> VRL P Z H (own m ph') xs vs := fun h hn => h.mono (fun _ h => h) (zT0 _) (fun _ _ _ => rfl) hkr fun j hj => by
  have : j = k := by simpa using hj
  subst this; exact hn
 have hown : VR P Z H (own m ph') (.own k 0 0 0) (.slice none 0 0) := .own rfl fun b o hM => by
  rw [hnew] at hM; cases hM;exact ⟨s + 1, hs, by omega, by simp, fun _ => .inl ⟨rfl, rfl, rfl, rfl, rfl⟩⟩
 have zIR : ¬ (ob.gr = true ∧ ob.cs = []) := fun h => by rw [hgr] at h; cases h.1
 have hp' : Hp P Z H (own m ph') := by
  refine ⟨hp.zlt, fun j b o hj => ?_, fun j j' b b' o o' h1 h2 r1 r2 hn => ?_, hp.gl⟩
  ·by_cases h1 : j = k
   ·subst h1; rw [hnew] at hj; cases hj; exact .inl ⟨rfl, rfl⟩
   ·by_cases h2 : j = kb
    ·subst h2;rw [zI6] at hj; cases hj
     rcases hp.obj j _ ob hkM with h | ⟨a1, a2, a3, ⟨_, vs, a4, a5, a6⟩ | ⟨hs2, _⟩⟩
     rotate_right 1
     ·rw [hsp] at hs2; cases hs2
     ·exact absurd h zIR
     ·have hv := mono a5 (uD f3 hk);obtain ⟨v, hv1, hv2⟩ := a5.get (i := i) (by rw [<- qF]; exact hi);have : v = .slice none 0 0 := yS hv2 rfl;subst this;refine .inr ⟨a1, a2, a3, .inl ⟨hsp, vs, ?_, hv.slot hv1 hown, a6⟩⟩;rw [a4, hgr]
    ·rw [hold j h1 h2] at hj
     rcases hp.obj j b o hj with h | ⟨a1, a2, a3, a4⟩
     ·exact .inl h
     ·exact .inr ⟨a1, a2, a3, a4.mono rfl fun _ a5 => mono a5 (uD f3 (uO hj).1)⟩
  ·have tr : ∀ {j b o}, own m ph' j = some (b, o) -> ¬ (o.gr = true ∧ o.cs = []) -> ∃ o2, own m ph j = some (b, o2) ∧ ¬ (o2.gr = true ∧ o2.cs = []) := fun {j b o} hj hr => by
    by_cases h1 : j = k
    ·subst h1; rw [hnew] at hj; cases hj; exact absurd ⟨rfl, rfl⟩ hr
    ·by_cases h2 : j = kb
     ·subst h2; rw [zI6] at hj; cases hj; exact ⟨ob, hkM, zIR⟩
     ·rw [hold j h1 h2] at hj; exact ⟨o, hj, hr⟩
   obtain ⟨o2, q1, q2⟩ := tr h1 r1;obtain ⟨o3, q3, q4⟩ := tr h2 r2;exact hp.inj j j' b b' o2 o3 q1 q3 q2 q4 hn
 have hst : Step Z H (own m ph) Z H (own m ph') := ⟨zT0 _, rfl, fun _ h => h, fun _ _ _ => rfl, fun b h _ => .inl h, fun b ⟨j, o, h1, h2⟩ _ => by
  by_cases e1 : j = k
  ·subst e1; rw [hnew] at h1; cases h1; exact absurd ⟨rfl, rfl⟩ h2
  ·by_cases e2 : j = kb
   ·subst e2; rw [zI6] at h1; cases h1; exact ⟨j, ob, hkM, zIR⟩
   ·rw [hold j e1 e2] at h1; exact ⟨j, o, h1, h2⟩⟩
 exact ⟨Z, m, hp', mono he f2, hst, hkr.up fun j hj => by
  have e : j = k := by simpa using hj
  rw [e]; exact f1⟩
def qFP : SV -> Bool
 | .c (.slice none 0 0) => true
 | _ => false
theorem qFG (e : qFP v = true) : v.enc = fvv (.slice none 0 0) := by
 unfold qFP at e;split at e
 ·simp [SV.enc]
 ·cases e
def qLJ (P : Program) (nm : Nm) : List (Nat × TypeId) -> List SV -> SH -> (List SV -> SH -> zHP R) -> zHP R
 | [], env, h, K => K env h
 | (i, el) :: l, env, h, K => match zL env i with
   | some v => cond (qFP v) (match szT P el, qIR P 8 el with
     | some (s + 1), some t => cond (Nat.beq t.w (s + 1) && qER nm (nm.b + i) env h) (qLJ P nm l (yT env i (.own (nm.b + i) h.next 0)) (h.new (nm.b + i) fun v => .list el true v v t []) K) .fail
     | _, _ => .fail) (qLJ P nm l env h K)
   | none => .fail
theorem dG : ∀ {l : List (Nat × TypeId)} {env : List SV} {h : SH} {K : List SV -> SH -> zHP R}, OkH P h -> okL h env -> (qLJ P nm l env h K).run = some r ->
 ∃ env' h', Wk P nm (qB env) (qI h.l) (qB env') (qI h'.l) ∧ kW P (l.map (·.1)) env h env' h' ∧ (K env' h').run = some r
 | [], env, h, K, ho, he, e => ⟨env, h, .refl _ _, .refl ho he, e⟩
 | (i, el) :: l, env, h, K, ho, he, e => by
   unfold qLJ at e;split at e
   ·rename_i v hv
    cases hn : qFP v with
    | false =>
      rw [hn] at e;obtain ⟨env', h2, b1, b2, b3⟩ := dG (l := l) ho he e;exact ⟨env', h2, b1, b2.up fun j hj => zT4 _ hj, b3⟩
    | true =>
      rw [hn] at e;simp only [cond_true] at e;split at e
      ·rename_i s t hs ht;obtain ⟨c, e1⟩ := qH e;rw [zTY] at c;have hw : t.w = s + 1 := zTZ c.1;have hn2 := kY (k := nm.b + i) (f := fun v => .list el true v v t []) ho ⟨rfl, rfl, by rw [hs, hw], by omega⟩
       have hfr : fresh nm (nm.b + i) (qB env) (qI h.l) = true := by
        have c2 := c.2;unfold qER at c2;simp only [zTY] at c2;unfold fresh;rw [c2.1, c2.2.1, uN c2.2.2]; rfl
       have hwk : Wk P nm (qB env) (qI h.l) (qB (yT env i (.own (nm.b + i) h.next 0))) (qI (h.new (nm.b + i) fun v => .list el true v v t []).l) := by
        have := Wk.zR4 (P := P) (nm := nm) (ph := qI h.l) i (nm.b + i) el (by rw [zF, hv, zT7, qFG hn]) hs hfr;rw [vH];simpa [SV.enc, SH.new, qI, SO.enc] using this
       have hok : (SV.own (nm.b + i) h.next 0).ok (h.new (nm.b + i) fun v => .list el true v v t []) := wM (xs := ([] : List t.sem)) rfl;obtain ⟨env', h2, b1, b2, b3⟩ := dG (l := l) hn2.2 (kZ (t := i) (qL hn2.1 he) hok) e1;refine ⟨env', h2, hwk.trans b1, ?_, b3⟩
       have h0 : kW P [i] env h (yT env i (.own (nm.b + i) h.next 0)) (h.new (nm.b + i) fun v => .list el true v v t []) := ⟨kZ (qL hn2.1 he) hok, hn2.2, hn2.1, fun j hj => qE3 fun q => hj (by rw [q]; exact zX4 j), gV _ _ _⟩
       exact h0.trans b2
      ·cases e
   ·cases e
theorem Hp.rel {Z : Nat -> Prop} {H : IH} {m : Nat -> Nat} {k L : Nat} (hp : Hp P Z H (own m ph)) (hk : qD k ph = some ob) (h1 : ob.el = 1000000001) (h2 : ob.gr = false) (h3 : spec P 1000000001 = true) (hL : qD L ph' = some ob)
 (hs : ∀ j o, j ≠ L -> qD j ph' = some o -> j ≠ k ∧ qD j ph = some o ∧ yH L o.cs = true) :
 Hp P Z H (own (fun j => if j = L then m k else m j) ph') ∧ Step Z H (own m ph) Z H (own (fun j => if j = L then m k else m j) ph') ∧ KR (fun j => j == L) (own m ph) (own (fun j => if j = L then m k else m j) ph') := by
 have zIR : Go.Idl.real ob := fun h => by rw [h2] at h; cases h.1
 have hnew : own (fun j => if j = L then m k else m j) ph' L = some (m k, ob) := by unfold own; rw [hL]; simp
 have hold : ∀ {j b o}, j ≠ L -> own (fun j => if j = L then m k else m j) ph' j = some (b, o) -> j ≠ k ∧ own m ph j = some (b, o) ∧ yH L o.cs = true := fun {j b o} hj h => by
  obtain ⟨a1, a2⟩ := uO h;obtain ⟨b1, b2, b3⟩ := hs j o hj a1;simp only [if_neg hj] at a2;exact ⟨b1, by rw [a2]; exact qQ b2, b3⟩
 have hkr : KR (fun j => j == L) (own m ph) (own (fun j => if j = L then m k else m j) ph') := fun j b' ob' h => by
  by_cases hj : j = L
  ·exact .inr (.inr (by simp [hj]))
  ·exact .inl ⟨ob', (hold hj h).2.1, rfl, rfl, rfl⟩
 have hown : ∀ {j b o}, own (fun j => if j = L then m k else m j) ph' j = some (b, o) -> ∃ j', own m ph j' = some (b, o) ∧ ((j = L ∧ j' = k) ∨ (j ≠ L ∧ j' = j ∧ j ≠ k)) := fun {j b o} h => by
  by_cases hj : j = L
  ·subst hj;rw [hnew] at h; cases h;exact ⟨k, qQ hk, .inl ⟨rfl, rfl⟩⟩
  ·exact ⟨j, (hold hj h).2.1, .inr ⟨hj, rfl, (hold hj h).1⟩⟩
 refine ⟨⟨hp.zlt, fun j b o hj => ?_, fun j j' b b' o o' e1 e2 r1 r2 hne => ?_, hp.gl⟩, ⟨zT0 _, rfl, fun _ h => h, fun _ _ _ => rfl, fun _ h _ => .inl h, fun b ⟨j, o, hj, hr⟩ _ => ?_⟩, hkr⟩
 ·by_cases hjL : j = L
  ·subst hjL;rw [hnew] at hj; cases hj
   rcases hp.obj k (m k) ob (qQ hk) with q | ⟨x1, x2, x3, x4⟩
   ·exact absurd q zIR
   ·refine .inr ⟨x1, x2, x3, ?_⟩
    rcases x4 with ⟨y, _⟩ | ⟨y1, y2 | ⟨q, _⟩⟩
    ·rw [h1, h3] at y; cases y
    ·exact .inr ⟨y1, .inl y2⟩
    ·rw [h1] at q; cases q
  ·obtain ⟨a1, a2, a3⟩ := hold hjL hj
   rcases hp.obj j b o a2 with q | ⟨x1, x2, x3, x4⟩
   ·exact .inl q
   ·exact .inr ⟨x1, x2, x3, x4.mono rfl fun vs hv => hv.mono (fun _ h => h) (zT0 _) (fun _ _ _ => rfl) hkr fun i hi => by
     have : i = L := by simpa using hi
     rw [this]; exact a3⟩
 ·obtain ⟨i1, q1, c1⟩ := hown e1;obtain ⟨i2, q2, c2⟩ := hown e2;refine hp.inj i1 i2 b b' o o' q1 q2 r1 r2 fun e => ?_
  rcases c1 with ⟨rfl, rfl⟩ | ⟨c1, rfl, c1'⟩ <;> rcases c2 with ⟨rfl, rfl⟩ | ⟨c2, rfl, c2'⟩
  ·exact hne rfl
  ·exact c2' e.symm
  ·exact c1' e
  ·exact hne e
 ·obtain ⟨i, q, _⟩ := hown hj;exact ⟨i, o, q, hr⟩
omit [Yl] in
theorem qPU {j : Nat} {o : SO} : ∀ {l : List (Nat × SO)}, slk j l = some o -> (j, o) ∈ l
 | (i, p) :: l, h => by
   have h : cond (j == i) (some p) (slk j l) = some o := h
   cases hj : j == i with
   | true =>
     rw [hj] at h; cases h;have : j = i := by simpa using hj
     subst this;simp
   | false =>
     rw [hj] at h;exact zT4 _ (qPU h)
def q18 (L : Nat) (l : List (Nat × SO)) : List Nat := (l.filter fun p => !qL1 L [p]).map (·.1)
def qWP : List Nat -> List (Nat × SO) -> List (Nat × SO)
 | [], l => l
 | k :: ks, l => sdl k (qWP ks l)
omit [Yl] in
theorem bI {k : Nat} : ∀ (l : List (Nat × SO)), slk k (sdl k l) = none
 | [] => rfl
 | (i, p) :: l => by
   show slk k (cond (k == i) (sdl k l) ((i, p) :: sdl k l)) = none
   cases h : k == i with
   | true => exact bI l
   | false =>
     show cond (k == i) (some p) (slk k (sdl k l)) = none;rw [h]; exact bI l
omit [Yl] in
theorem qPM {j : Nat} {o : SO} : ∀ {ls : List Nat} {l : List (Nat × SO)}, slk j (qWP ls l) = some o -> j ∉ ls ∧ slk j l = some o
 | [], l, h => ⟨by simp, h⟩
 | k :: ks, l, h => by
   have h : slk j (sdl k (qWP ks l)) = some o := h;by_cases hj : j = k
   ·subst hj;rw [bI] at h; cases h
   ·rw [yP hj] at h;obtain ⟨h1, h2⟩ := qPM h;exact ⟨by simp [hj, h1], h2⟩
def zCW (P : Program) (nm : Nm) (i : Nat) (env : List SV) (h : SH) (K : List SV -> SH -> zHP R) : zHP R := match zL env i with
 | some (.mp k) => (match slk k h.l with
   | some (.spc _ (.map es)) => cond (inP nm (nm.b + i) && (yH (nm.b + i) (qB (yT env i .unk)) && spec P 1000000001))
      (K (yT env i (.mp (nm.b + i))) ⟨h.next + 1, (nm.b + i, .spc h.next (.map es)) :: qWP (k :: (nm.b + i) :: q18 (nm.b + i) h.l) h.l⟩) .fail
   | _ => .fail)
 | _ => .fail
theorem q61 {K : List SV -> SH -> zHP R} (ho : OkH P h) (he : okL h env) (e : (zCW P nm i env h K).run = some r) :
 ∃ env' h', Wk P nm (qB env) (qI h.l) (qB env') (qI h'.l) ∧ kW P [i] env h env' h' ∧ (K env' h').run = some r := by
 unfold zCW at e;split at e
 case h_2 => cases e
 rename_i k hi;split at e
 case h_2 => cases e
 rename_i v es hk;obtain ⟨hc, e1⟩ := qH e;simp only [zTY] at hc;obtain ⟨hin, hno, hsp⟩ := hc
 have hlk : ∀ {j : Nat} {o : SO}, j ≠ nm.b + i -> slk j ((nm.b + i, SO.spc h.next (.map es)) :: qWP (k :: (nm.b + i) :: q18 (nm.b + i) h.l) h.l) = some o -> j ≠ k ∧ slk j h.l = some o ∧ yH (nm.b + i) o.enc.cs = true := fun {j o} hj h1 => by
  rw [zJ hj] at h1;obtain ⟨a1, a2⟩ := qPM h1;simp only [zUD, not_or] at a1;refine ⟨a1.1, a2, ?_⟩;have hm := qPU a2
  have : qL1 (nm.b + i) [(j, o)] = true := by
   cases hb : qL1 (nm.b + i) [(j, o)] with
   | true => rfl
   | false =>
     refine absurd ?_ a1.2.2;unfold q18;exact zUN.2 ⟨(j, o), zVS.2 ⟨hm, by rw [hb]; rfl⟩, rfl⟩
  have h2 := uN this;have h2 : (yH (nm.b + i) o.enc.cs && eO (nm.b + i) []) = true := h2;rw [zTY] at h2;exact h2.1
 have hself : slk (nm.b + i) ((nm.b + i, SO.spc h.next (.map es)) :: qWP (k :: (nm.b + i) :: q18 (nm.b + i) h.l) h.l) = some (.spc h.next (.map es)) := by
  show cond (nm.b + i == nm.b + i) _ _ = _;simp
 have kp : Keep h ⟨h.next + 1, (nm.b + i, .spc h.next (.map es)) :: qWP (k :: (nm.b + i) :: q18 (nm.b + i) h.l) h.l⟩ := by
  refine ⟨Nat.le_succ _, fun j o hj hw => ?_, fun j el gr g w t xs hj hg => ?_⟩
  ·by_cases hjL : j = nm.b + i
   ·subst hjL;rw [hself] at hj; cases hj;exact absurd hw (Nat.lt_irrefl _)
   ·exact (hlk hjL hj).2.1
  ·by_cases hjL : j = nm.b + i
   ·subst hjL;rw [hself] at hj; cases hj
   ·exact ⟨w, xs, (hlk hjL hj).2.1, rfl⟩
 have ok : OkH P ⟨h.next + 1, (nm.b + i, .spc h.next (.map es)) :: qWP (k :: (nm.b + i) :: q18 (nm.b + i) h.l) h.l⟩ := by
  refine ⟨fun j o hj => ?_, fun j el w l hj => ?_, fun j el gr g w t xs hj => ?_⟩
  ·by_cases hjL : j = nm.b + i
   ·subst hjL;rw [hself] at hj; cases hj;exact zVE _
   ·exact zWN (ho.ver j o (hlk hjL hj).2.1)
  ·by_cases hjL : j = nm.b + i
   ·subst hjL;rw [hself] at hj; cases hj
   ·exact qL kp (ho.cells j el w l (hlk hjL hj).2.1)
  ·by_cases hjL : j = nm.b + i
   ·subst hjL;rw [hself] at hj; cases hj
   ·have := ho.list j el gr g w t xs (hlk hjL hj).2.1;exact ⟨zWN this.1, this.2⟩
 refine ⟨_, _, fun Z H m vs hp hv => ?_, ⟨kZ (qL kp he) (by simp [SV.ok]), ok, kp, fun j hj => ?_, by rw [qV, zUY]⟩, e1⟩
 ·obtain ⟨r1, r2, r3⟩ := Hp.rel (L := nm.b + i) (ph' := qI ((nm.b + i, SO.spc h.next (.map es)) :: qWP (k :: (nm.b + i) :: q18 (nm.b + i) h.l) h.l)) (ob := (SpO.map es).enc) hp (yL hk) rfl rfl hsp (yL hself) fun j o hj hl => by
   rw [pF] at hl
   cases hq : slk j ((nm.b + i, SO.spc h.next (.map es)) :: qWP (k :: (nm.b + i) :: q18 (nm.b + i) h.l) h.l) with
   | none => rw [hq] at hl; cases hl
   | some o' =>
     rw [hq] at hl;cases hl;obtain ⟨a1, a2, a3⟩ := hlk hj hq;exact ⟨a1, yL a2, a3⟩
  refine ⟨Z, _, r1, ⟨?_, fun j x u hx hu => ?_⟩, r2, r3.up fun j hj => by
   have : j = nm.b + i := by simpa using hj
   rw [this]; exact hin⟩
  ·rw [zH, qV, zUY, <- zH]; exact hv.len
  ·rw [<- qF, zF, qV, qF, zUM] at hx;by_cases hji : i = j
   ·subst hji
    have hlt : i < env.length := by
     rw [qF] at hi;exact (zT2.1 hi).1
    simp only [if_true, hlt, zT7, zT5] at hx;subst hx;have hv1 := hv.val i _ u (by rw [<- qF, zF, hi]; rfl) hu;simp only [SV.enc] at hv1 ⊢
    cases hv1 with
    | mp g1 g2 =>
      obtain ⟨_, rfl⟩ := g2 _ _ (qQ (yL hk));refine qVH fun b' ob' hM => ?_
      have : own (fun j => if j = nm.b + i then m k else m j) (qI ((nm.b + i, SO.spc h.next (.map es)) :: qWP (k :: (nm.b + i) :: q18 (nm.b + i) h.l) h.l)) (nm.b + i) = some (m k, (SpO.map es).enc) := by
       unfold own;rw [yL hself];simp [SO.enc]
      rw [this] at hM;cases hM;exact ⟨rfl, rfl⟩
   ·rw [if_neg hji] at hx;have hx1 : (qB env)[j]? = some x := by rw [<- qF, zF, qF]; exact hx
    refine (hv.val j x u hx1 hu).mono (fun _ h => h) (zT0 _) (fun _ _ _ => rfl) r3 fun i' hi' => ?_
    have : i' = nm.b + i := by simpa using hi'
    rw [this];refine vR hno (i := j) ?_;rw [<- qF, zF, qV, qF, zUM, if_neg hji];exact hx
 ·have hji : ¬ i = j := fun h => hj (by simp [h])
  rw [zF, zF, qV, qF, qF, zUM, if_neg hji]
theorem qZV (ho : OkH P h) (he : okL h env) : Wk P nm (qB env) (qI h.l) (qB (yT env i .unk)) (qI h.l) ∧ kW P [i] env h (yT env i .unk) h := by
 refine ⟨Wk.drop (qKA (by rw [zH, zH, qV, zUY]) fun j => ?_) (qAX.refl _), kZ he (by simp [SV.ok]), ho, .refl _, fun j hj => ?_, by rw [qV, zUY]⟩
 ·rw [zF, zF, qV, qF, qF, zUM];by_cases hji : i = j
  ·subst hji;simp only [if_true];by_cases hlt : i < env.length
   ·simp only [hlt, if_true, zT7]
    right; simp [SV.enc]
   ·simp only [hlt, if_false]
    left
    rw [zUF (by omega)]
  ·rw [if_neg hji]; exact .inl rfl
 ·have hji : ¬ i = j := fun h => hj (by simp [h])
  rw [zF, zF, qV, qF, qF, zUM, if_neg hji]
omit [Yl] in
theorem qH4 {f : PHp -> PV -> Option (FV × PHp)} (hf : ∀ ph x y ph', f ph x = some (y, ph') -> qAX ph' ph) : ∀ {l : List PV} {ph ph' : PHp} {ys : List FV}, qIQ f l ph = some (ys, ph') -> qAX ph' ph
 | [], ph, ph', ys, h => by cases h; exact .refl _
 | x :: l, ph, ph', ys, h => by
   unfold qIQ at h;split at h
   ·rename_i y ph1 h1;split at h
    ·rename_i zs ph2 h2;cases h;exact fun k ob q => hf _ _ _ _ h1 k ob (qH4 hf h2 k ob q)
    ·cases h
   ·cases h
omit [Yl] in
theorem qMT : ∀ (n : Nat) (ph : PHp) (x : PV) (y : FV) (ph' : PHp), fz1 P n ph x = some (y, ph') -> qAX ph' ph
 | 0, ph, x, y, ph', h => by
   cases x with
   | f x =>
     have h : some (x, ph) = some (y, ph') := h;cases h; exact .refl _
   | _ =>
     have h : (none : Option (FV × PHp)) = some (y, ph') := h;cases h
 | n + 1, ph, x, y, ph', h => by
   cases x with
   | f x =>
     have h : some (x, ph) = some (y, ph') := h;cases h; exact .refl _
   | own k t o c =>
     unfold fz1 at h;split at h
     case h_2 => cases h
     split at h
     case h_2 => cases h
     obtain ⟨_, h⟩ := kE h;split at h
     case h_2 => cases h
     rename_i hq;cases h
     exact fun j ob q => by
      have q1 := qH4 (qMT n) hq j ob q;rw [wC] at q1;split at q1
      ·cases q1
      ·exact q1
   | _ =>
     have h : (none : Option (FV × PHp)) = some (y, ph') := h;cases h
omit [Yl] in
theorem q56 (h : fzP P ph x = some (y, ph')) : qAX ph' ph := by
 unfold fzP at h;split at h
 ·split at h
  ·rename_i hq;cases h; exact qH4 (qMT 4) hq
  ·cases h
 ·split at h
  ·rename_i hq;cases h; exact qMT 4 _ _ _ _ hq
  ·cases h
omit [Yl] in
theorem Wk.zR6 {env : List PV} (kb i : Nat) (ty : TypeId) (hk' : qD kb ph' = some ob) (hsp : spec P ob.el = false) (hgr : ob.gr = false) (hi : zL ob.cs i = some x) (hf : fzP P ph x = some (y, ph')) (hk : qD kb ph = some ob) :
 Wk P nm env ph env (xP kb ⟨ob.el, false, yT ob.cs i (rt1 P ty y)⟩ ph') := by
 intro Z H m zHR hp he;have hkM : own m ph kb = some (m kb, ob) := qQ hk;have zIR : ¬ (ob.gr = true ∧ ob.cs = []) := fun h => by rw [hgr] at h; cases h.1
 rcases hp.obj kb _ ob hkM with h | ⟨_, _, _, ⟨_, vs0, a40, a50, _⟩ | ⟨hs2, _⟩⟩
 rotate_right 1
 ·rw [hsp] at hs2; cases hs2
 ·exact absurd h zIR
 obtain ⟨v, hv1, hv2⟩ := a50.get (i := i) (by rw [<- qF]; exact hi);obtain ⟨Z', fz, hy⟩ := qLR hp hv2 hf;have hyr : ∀ M, VR P Z' H M (rt1 P ty y) v := fun M => qEB (nN hy (qPX hf))
 have hp1 := fz.hp;have zMB : own m ph' kb = some (m kb, ob) := qQ hk';generalize zR7 : xP kb (⟨ob.el, false, yT ob.cs i (rt1 P ty y)⟩ : PO) ph' = ph2
 have hM' : ∀ j, own m ph2 j = if j = kb then some (m kb, ⟨ob.el, false, yT ob.cs i (rt1 P ty y)⟩) else own m ph' j := fun j => by
  subst zR7;unfold own;rw [zZ];by_cases h2 : j = kb
  ·subst h2; rw [if_pos ⟨rfl, by rw [hk']; rfl⟩, if_pos rfl]; rfl
  ·rw [if_neg (fun h => h2 h.1), if_neg h2]
 have zI6 : own m ph2 kb = some (m kb, ⟨ob.el, false, yT ob.cs i (rt1 P ty y)⟩) := by rw [hM', if_pos rfl]
 have hold : ∀ j, j ≠ kb -> own m ph2 j = own m ph' j := fun j h2 => by rw [hM', if_neg h2]
 have hkr : ∀ p, KR p (own m ph') (own m ph2) := fun p j b o hj => by
  by_cases h2 : j = kb
  ·subst h2;rw [zI6] at hj;cases hj;exact .inl ⟨ob, zMB, by simp [qV], rfl, hgr⟩
  ·rw [hold j h2] at hj; exact .inl ⟨o, hj, rfl, rfl, rfl⟩
 have mono : ∀ {xs : List PV} {vs : List Value}, VRL P Z' H (own m ph') xs vs -> VRL P Z' H (own m ph2) xs vs := fun h => h.mono (fun _ h => h) (zT0 _) (fun _ _ _ => rfl) (hkr fun _ => false) fun j hj => by cases hj
 have hp' : Hp P Z' H (own m ph2) := by
  refine ⟨hp1.zlt, fun j b o hj => ?_, fun j j' b b' o o' h1 h2 r1 r2 hn => ?_, hp1.gl⟩
  ·by_cases h2 : j = kb
   ·subst h2;rw [zI6] at hj; cases hj
    rcases hp1.obj j _ ob zMB with h | ⟨a1, a2, a3, ⟨_, vs, a4, a5, a6⟩ | ⟨hs2, _⟩⟩
    rotate_right 1
    ·rw [hsp] at hs2; cases hs2
    ·exact absurd h zIR
    ·have hv := mono a5
     have hvv : vs = vs0 := by
      rw [a40] at a4;injection a4 with e1;injection e1 with e2;injection e2 with e3;exact e3.symm
     subst hvv;refine .inr ⟨a1, a2, a3, .inl ⟨hsp, vs, ?_, hv.slot hv1 (hyr _), a6⟩⟩;rw [a4, hgr]
   ·rw [hold j h2] at hj
    rcases hp1.obj j b o hj with h | ⟨a1, a2, a3, a4⟩
    ·exact .inl h
    ·exact .inr ⟨a1, a2, a3, a4.mono rfl fun _ a5 => mono a5⟩
  ·have tr : ∀ {j b o}, own m ph2 j = some (b, o) -> ¬ (o.gr = true ∧ o.cs = []) -> ∃ o2, own m ph' j = some (b, o2) ∧ ¬ (o2.gr = true ∧ o2.cs = []) := fun {j b o} hj hr => by
    by_cases h2 : j = kb
    ·subst h2; rw [zI6] at hj; cases hj; exact ⟨ob, zMB, zIR⟩
    ·rw [hold j h2] at hj; exact ⟨o, hj, hr⟩
   obtain ⟨o2, q1, q2⟩ := tr h1 r1;obtain ⟨o3, q3, q4⟩ := tr h2 r2;exact hp1.inj j j' b b' o2 o3 q1 q3 q2 q4 hn
 have hst : Step Z' H (own m ph') Z' H (own m ph2) := ⟨zT0 _, rfl, fun _ h => h, fun _ _ _ => rfl, fun b h _ => .inl h, fun b ⟨j, o, h1, h2⟩ _ => by
  by_cases e2 : j = kb
  ·subst e2; rw [zI6] at h1; cases h1; exact ⟨j, ob, zMB, zIR⟩
  ·rw [hold j e2] at h1; exact ⟨j, o, h1, h2⟩⟩
 exact ⟨Z', m, hp', mono (fz.vrl he), fz.step.trans hst, (fz.kr _).trans (hkr _)⟩
def zC0 (P : Program) (i c : Nat) (ty : TypeId) (env : List SV) (h : SH) (K : List SV -> SH -> zHP R) : zHP R := match zL env i, qIR P 8 ty with
 | some (.ref kb _ _), some t => (match slk kb h.l with
   | some (.cells _ _ cs) => (match zL cs c with
     | some v => (match q8X P ty t v h with
       | some (x, h') => (match slk kb h'.l with
         | some (.cells e _ cs') => cond (!spec P e) (K env (h'.put kb fun v => .cells e v (yT cs' c (t.sv x)))) .fail
         | _ => .fail)
       | none => .fail)
     | none => .fail)
   | _ => .fail)
 | _, _ => .fail
theorem q50 {c : Nat} {K : List SV -> SH -> zHP R} (ho : OkH P h) (he : okL h env) (e : (zC0 P i c ty env h K).run = some r) :
 ∃ env' h', Wk P nm (qB env) (qI h.l) (qB env') (qI h'.l) ∧ kW P [i] env h env' h' ∧ (K env' h').run = some r := by
 unfold zC0 at e;split at e
 case h_2 => cases e
 rename_i kb _ _ t hi ht;split at e
 case h_2 => cases e
 rename_i eb wb cs hkb;split at e
 case h_2 => cases e
 rename_i v hv;split at e
 case h_2 => cases e
 rename_i x h' hd;split at e
 case h_2 => cases e
 rename_i e2 w2 cs2 hkb2;obtain ⟨hc, e1⟩ := qH e;have hvk : v.ok h := sD (ho.cells _ _ _ _ hkb) hv;obtain ⟨y, a1, a2, a3, a4⟩ := qCZ ho hvk hd;have hsp : spec P e2 = false := by simpa using hc
 have hp2 := bS (k := kb) (f := fun v => .cells e2 v (yT cs2 c (t.sv x))) a4 hkb2 ⟨rfl, kZ (a4.cells _ _ _ _ hkb2) (qLT t x)⟩;have hk2 := yL hkb2;have hk1 := yL hkb;have hsub := q56 a1 kb _ hk2
 have hcs : qB cs2 = qB cs := by
  rw [hk1] at hsub;injection hsub with q;injection q with q1 q2 q3;exact q3.symm
 refine ⟨env, h'.put kb fun v => .cells e2 v (yT cs2 c (t.sv x)), ?_, ⟨qL hp2.1 (qL a3 he), hp2.2, a3.trans hp2.1, fun _ _ => rfl, rfl⟩, e1⟩
 have := Wk.zR6 (P := P) (nm := nm) (env := qB env) kb c ty hk2 hsp rfl (x := v.enc) (by
  show zL (qB cs2) c = _
  rw [hcs, zF, hv]; rfl) a1 hsub
 refine this.trans ?_
 have he2 : xP kb ⟨(SO.cells e2 w2 cs2).enc.el, false, yT (SO.cells e2 w2 cs2).enc.cs c (rt1 P ty y)⟩ (qI h'.l) = qI ((h'.put kb fun v => .cells e2 v (yT cs2 c (t.sv x))).l) := by
  show _ = qI (sst kb _ h'.l);rw [jC];simp [SO.enc, vH, oW, a2]
 rw [he2];exact .refl _ _
def fzv (P : Program) (nm : Nm) : List (Nat × TypeId) -> List SV -> SH -> (List SV -> SH -> zHP R) -> zHP R
 | [], env, h, K => K env h
 | (i, ty) :: l, env, h, K => cond (Nat.ble 2000000000 ty) (cond (Nat.ble 3000000000 ty) (cond (Nat.ble 4000000000 ty) (zC0 P i ((ty - 4000000000) / 100000) ((ty - 4000000000) % 100000) env h fun env h => fzv P nm l env h K) (fzv P nm l (yT env i .unk) h K)) (zCW P nm i env h fun env h => fzv P nm l env h K)) <| cond (Nat.ble 1000000000 ty) (qLJ P nm [(i, ty - 1000000000)] env h fun env h => fzv P nm l env h K) (fzs P [(i, ty)] env h fun env h => fzv P nm l env h K)
theorem q4M : ∀ {l : List (Nat × TypeId)} {env : List SV} {h : SH} {K : List SV -> SH -> zHP R}, OkH P h -> okL h env -> (fzv P nm l env h K).run = some r ->
 ∃ env' h', Wk P nm (qB env) (qI h.l) (qB env') (qI h'.l) ∧ kW P (l.map (·.1)) env h env' h' ∧ (K env' h').run = some r
 | [], env, h, K, ho, he, e => ⟨env, h, .refl _ _, .refl ho he, e⟩
 | (i, ty) :: l, env, h, K, ho, he, e => by
   unfold fzv at e
   have go : ∀ {zHT h1}, Wk P nm (qB env) (qI h.l) (qB zHT) (qI h1.l) -> kW P [i] env h zHT h1 -> (fzv P nm l zHT h1 K).run = some r -> ∃ env' h', Wk P nm (qB env) (qI h.l) (qB env') (qI h'.l) ∧ kW P (((i, ty) :: l).map (·.1)) env h env' h' ∧ (K env' h').run = some r := fun a b e => by
    obtain ⟨env', h', c1, c2, c3⟩ := q4M (l := l) b.2.1 b.1 e;exact ⟨env', h', a.trans c1, b.trans c2, c3⟩
   cases hb2 : Nat.ble 2000000000 ty with
   | true =>
     rw [hb2] at e
     cases hb3 : Nat.ble 3000000000 ty with
     | true =>
       rw [hb3] at e
       cases hb4 : Nat.ble 4000000000 ty with
       | true =>
         rw [hb4] at e;have e : (zC0 P i ((ty - 4000000000) / 100000) ((ty - 4000000000) % 100000) env h fun env h => fzv P nm l env h K).run = some r := e;obtain ⟨zHT, h1, a, b, e1⟩ := q50 (nm := nm) ho he e;exact go a b e1
       | false =>
         rw [hb4] at e;obtain ⟨a, b⟩ := qZV (nm := nm) (i := i) ho he;exact go a b e
     | false =>
       rw [hb3] at e;have e : (zCW P nm i env h fun env h => fzv P nm l env h K).run = some r := e;obtain ⟨zHT, h1, a, b, e1⟩ := q61 (nm := nm) ho he e;exact go a b e1
   | false =>
   rw [hb2] at e
   cases hb : Nat.ble 1000000000 ty with
   | true =>
     rw [hb] at e;obtain ⟨zHT, h1, a, b, e1⟩ := dG (nm := nm) ho he e;exact go a b e1
   | false =>
     rw [hb] at e;obtain ⟨zHT, h1, a, b, e1⟩ := q4S (nm := nm) ho he e;exact go a b e1
def qCD (P : Program) (nm : Nm) : List (Nat × Nat × TypeId × Nat) -> List SV -> SH -> (List SV -> SH -> zHP R) -> zHP R
 | [], env, h, K => K env h
 | (kb, i, el, k) :: l, env, h, K => match slk kb h.l with
   | some (.cells e _ cs) => (match zL cs i with
     | some v => cond (qFP v) (match szT P el, qIR P 8 el with
       | some (s + 1), some t => cond (Nat.beq t.w (s + 1) && (qER nm k env h && (!Nat.beq k kb && !spec P e))) (qCD P nm l env ((h.new k fun v => .list el true v v t []).put kb fun v => .cells e v (yT cs i (.own k h.next 0))) K) .fail
       | _, _ => .fail) (qCD P nm l env h K)
     | none => .fail)
   | _ => .fail
theorem bJ : ∀ {l : List (Nat × Nat × TypeId × Nat)} {env : List SV} {h : SH} {K : List SV -> SH -> zHP R}, OkH P h -> okL h env -> (qCD P nm l env h K).run = some r ->
 ∃ h', Wk P nm (qB env) (qI h.l) (qB env) (qI h'.l) ∧ Keep h h' ∧ OkH P h' ∧ (K env h').run = some r
 | [], env, h, K, ho, he, e => ⟨h, .refl _ _, .refl _, ho, e⟩
 | (kb, i, el, k) :: l, env, h, K, ho, he, e => by
   unfold qCD at e;split at e
   case h_2 => cases e
   rename_i eb wb cs hkb;split at e
   case h_2 => cases e
   rename_i v hv
   cases hn : qFP v with
   | false =>
     rw [hn] at e;exact bJ (l := l) ho he e
   | true =>
     rw [hn] at e;simp only [cond_true] at e;split at e
     case h_2 => cases e
     rename_i s t hs ht;obtain ⟨c, e1⟩ := qH e;simp only [zTY] at c;have hw : t.w = s + 1 := zTZ c.1
     have hne : k ≠ kb := fun q => by
      have := c.2.2.1;rw [q, nP] at this;cases this
     have hsp : spec P eb = false := by simpa using c.2.2.2
     have hn2 := kY (k := k) (f := fun v => .list el true v v t []) ho ⟨rfl, rfl, by rw [hs, hw], by omega⟩;have hok : (SV.own k h.next 0).ok (h.new k fun v => .list el true v v t []) := wM (xs := ([] : List t.sem)) rfl
     have zR8 : slk kb (h.new k fun v => .list el true v v t []).l = some (.cells eb wb cs) := by
      rw [show slk kb (h.new k fun v => .list el true v v t []).l = slk kb h.l from zJ hne.symm]; exact hkb
     have hcs : okL (h.new k fun v => .list el true v v t []) cs := qL hn2.1 (ho.cells _ _ _ _ hkb);have hp2 := bS (k := kb) (f := fun v => .cells eb v (yT cs i (.own k h.next 0))) hn2.2 zR8 ⟨rfl, kZ hcs hok⟩
     have hfr : fresh nm k (qB env) (qI h.l) = true := by
      have c2 := c.2.1;unfold qER at c2;simp only [zTY] at c2;unfold fresh;rw [c2.1, c2.2.1, uN c2.2.2]; rfl
     obtain ⟨h', b1, b2, b3, b4⟩ := bJ (l := l) hp2.2 (qL hp2.1 (qL hn2.1 he)) e1;refine ⟨h', ?_, hn2.1.trans (hp2.1.trans b2), b3, b4⟩;have hk := yL hkb
     have := Wk.zPW (P := P) (nm := nm) (env := qB env) kb i k el hk hsp rfl (by
      show zL (qB cs) i = _
      rw [zF, hv, zT7, qFG hn]) hs hfr hne
     refine Wk.trans this ?_
     have he2 : (k, (⟨el, true, []⟩ : PO)) :: xP kb ⟨(SO.cells eb wb cs).enc.el, false, yT (SO.cells eb wb cs).enc.cs i (.own k 0 0 0)⟩ (qI h.l) = qI (((h.new k fun v => .list el true v v t []).put kb fun v => .cells eb v (yT cs i (.own k h.next 0))).l) := by
      show _ = qI (sst kb _ ((k, _) :: h.l));have : (kb == k) = false := by simpa using hne.symm
      show _ = qI (cond (kb == k) _ ((k, _) :: sst kb _ h.l));rw [this];show _ = (k, _) :: qI (sst kb _ h.l);rw [jC];simp [SO.enc, vH, SV.enc]
     rw [he2];exact b1
end
end Go.Sv
namespace Go.Sv
open Go.Idl
variable {c v : SV} {f : Nat -> SO} {gr : Bool} {h h2 : SH} {k w : Nat} {l : List SV}
noncomputable section
variable [Gc]
variable [Yl]
variable {P : Program} {R : Type} {r : R} {nm : Nm}
def zFM : SV -> Option Ty
 | .d t _ => cond t.one (some t) none
 | .c (.int k _) => some (.int k)
 | .c (.bool _) => some .bool
 | .c (.string _) => some .str
 | _ => none
def tyV : SV -> Option Ty
 | .agg l => tyL (l.map zFM)
 | v => zFM v
def zCY : List SV -> Option (List Ty)
 | [] => some []
 | v :: l => match tyV v, zCY l with
   | some t, some ts => some (t :: ts)
   | _, _ => none
def zCN (t : Ty) (v : SV) : Option t.sem := cond t.one (t.zL8 v) (match v with
 | .agg l => t.zKU l
 | _ => none)
theorem qQO {t : Ty} {x : t.sem} (e : zCN t v = some x) : v.enc = t.pv x := by
 unfold zCN at e;unfold Ty.pv
 cases ht : t.one with
 | true => rw [ht] at e; exact (qHY e).1
 | false =>
   rw [ht] at e;simp only [cond_false] at e ⊢;split at e
   ·simp only [SV.enc, qA6 e]
   ·cases e
def qA9 : (ts : List Ty) -> List SV -> Option (TyL ts)
 | [], [] => some ()
 | [t], [v] => zCN t v
 | t :: u :: ts, v :: vs => match zCN t v with
   | some x => (match qA9 (u :: ts) vs with
     | some y => some (x, y)
     | none => none)
   | none => none
 | _, _ => none
theorem qLB : ∀ {ts : List Ty} {l : List SV} {s : TyL ts}, qA9 ts l = some s -> qB l = qB (svL ts s)
 | [], [], s, e => by simp [svL]
 | [t], [v], s, e => by
   unfold qA9 at e;simp only [svL, qB, oW, qQO e]
 | t :: u :: ts, v :: vs, s, e => by
   unfold qA9 at e;split at e
   ·rename_i x hx;split at e
    ·rename_i y hy;cases e;have ih := qLB hy;show qB (v :: vs) = qB (t.sv x :: svL (u :: ts) y);simp only [qB, oW, qQO hx, ih]
    ·cases e
   ·cases e
 | [], _ :: _, _, e => by cases e
 | t :: ts, [], _, e => by cases ts <;> (unfold qA9 at e; cases e)
 | [_], _ :: _ :: _, _, e => by unfold qA9 at e; cases e
def qHU : List Nat -> List SV -> Option (List SV)
 | [], _ => some []
 | i :: is, env => match zL env i, qHU is env with
   | some v, some l => some (v :: l)
   | _, _ => none
def spD : SpO -> Option SV
 | .map es => some (.d .raw es)
 | .iter s pos => some (.agg [.d .str s, .d (.int .i64) (pos : Int)])
 | .mit _ _ _ _ _ => none
def obD : SO -> Option (SV × Bool)
 | .list el gr _ _ u xs => cond (Nat.beq el 1000000001) none (some (.d (.list el u) xs, gr))
 | .spc _ x => (spD x).map fun v => (v, false)
 | .cells _ _ _ => none
def qVU : List Nat -> SH -> Option (List SV)
 | [], _ => some []
 | k :: ks, h => match slk k h.l, qVU ks h with
   | some ob, some l => (match obD ob with
     | some p => some (p.1 :: l)
     | none => none)
   | _, _ => none
def q5R : List Nat -> SH -> Option (List (Nat × Bool))
 | [], _ => some []
 | k :: ks, h => match slk k h.l, q5R ks h with
   | some ob, some l => (match obD ob with
     | some p => some ((k, p.2) :: l)
     | none => none)
   | _, _ => none
def qFL (i : Nat) : List Nat -> Bool
 | [] => false
 | j :: l => cond (Nat.beq i j) true (qFL i l)
omit [Yl] in
theorem gW {i : Nat} : ∀ {l : List Nat}, qFL i l = true ↔ i ∈ l
 | [] => by simp [qFL]
 | j :: l => by
   unfold qFL;rw [zUD]
   cases h : Nat.beq i j with
   | true => simp [zTZ h]
   | false =>
     have : i ≠ j := fun e => by subst e; rw [nP] at h; cases h
     simp only [cond_false, gW (l := l), this, false_or]
def blank (W : List Nat) : Nat -> List SV -> List SV
 | _, [] => []
 | i, x :: l => cond (qFL i W) .unk x :: blank W (i + 1) l
omit [Yl] in
theorem qBC (W : List Nat) : ∀ (i : Nat) (l : List SV), (blank W i l).length = l.length
 | _, [] => rfl
 | i, x :: l => by simp [blank, qBC W (i + 1) l]
omit [Yl] in
theorem qDB (W : List Nat) : ∀ (i j : Nat) (l : List SV), zL (blank W i l) j = (zL l j).map fun x => cond (qFL (i + j) W) SV.unk x
 | _, _, [] => rfl
 | i, 0, x :: l => rfl
 | i, j + 1, x :: l => by
   show zL (blank W (i + 1) l) j = (zL l j).map _;rw [qDB W (i + 1) j l, zVX, zV2 1 j]
omit [Yl] in
theorem qPP {h : SH} {W : List Nat} : ∀ {i : Nat} {l : List SV}, okL h l -> okL h (blank W i l)
 | _, [], _ => by simp [blank, okL]
 | i, x :: l, hl => by
   simp only [okL] at hl;show okL h (cond (qFL i W) .unk x :: blank W (i + 1) l);simp only [okL];refine ⟨?_, qPP hl.2⟩;cases qFL i W
   ·exact hl.1
   ·simp [SV.ok]
def mH : List Nat -> List SV -> List SV -> List SV × List SV
 | [], l, env => (env, l)
 | i :: is, c :: l, env => mH is l (yT env i c)
 | _ :: _, [], env => (env, [])
def q6N (P : Program) (gr : Bool) : SV -> Option (Nat -> SO)
 | .d (.list el u) xs => (match szT P el with
   | some n => cond (Nat.beq n u.w && (Nat.ble 1 n && !Nat.beq el 1000000001)) (some fun v => .list el gr v v u xs) none
   | none => none)
 | .d .raw es => some fun v => .spc v (.map es)
 | .agg [.d .str s, .d (.int .i64) p] => some fun v => .spc v (.iter s (Int.toNat p))
 | _ => none
def qTU (P : Program) : List (Nat × Bool) -> List SV -> SH -> Option SH
 | [], [] => fun h => some h
 | (k, gr) :: ks, c :: l => fun h => (match q6N P gr c with
   | some f => qTU P ks l ((h.del k).new k f)
   | none => none)
 | _, _ => fun _ => none
def mkM : Nat := 1000000000000000
def qTY : List (Nat × Nat) -> SH -> List SV -> Option (List SV)
 | [], _, env => some env
 | (i, k) :: l, h, env => cond (Nat.ble mkM k) (qTY l h (yT env i (.mp (k - mkM)))) (match slk k h.l with
   | some (.list _ _ g _ _ xs) => qTY l h (yT env i (.own k g (List.length xs)))
   | _ => none)
def q84 (j : Nat) : Bool := Nat.beq j 1000000000
def zEH (k w : Nat) : SV -> Option Bool
 | .ref k' off w' => cond (Nat.beq k k' && (Nat.beq off 0 && Nat.beq w w')) (some true) none
 | .c (.pointer none) => some false
 | .opt b k' off w' => cond (Nat.beq k k' && (Nat.beq off 0 && Nat.beq w w')) (some b) none
 | _ => none
theorem q1O {b : Bool} (e : zEH k w v = some b) : v.enc = (SV.opt b k 0 w).enc := by
 have eqs : ∀ {k' off w' : Nat} {x y : Option Bool}, cond (Nat.beq k k' && (Nat.beq off 0 && Nat.beq w w')) x none = y -> y ≠ none -> k = k' ∧ off = 0 ∧ w = w' ∧ x = y := fun {k' off w' x y} h hy => by
  cases hc : (Nat.beq k k' && (Nat.beq off 0 && Nat.beq w w')) with
  | false => rw [hc] at h; exact absurd h.symm hy
  | true =>
    rw [hc] at h;simp only [zTY] at hc;exact ⟨zTZ hc.1, zTZ hc.2.1, zTZ hc.2.2, h⟩
 unfold zEH at e;split at e
 ·obtain ⟨rfl, rfl, rfl, h⟩ := eqs e (by simp);cases h; simp [SV.enc]
 ·cases e; simp [SV.enc]
 ·obtain ⟨rfl, rfl, rfl, h⟩ := eqs e (by simp);cases h; simp [SV.enc]
 ·cases e
def q5M (k w : Nat) : List (Option Nat) -> List SV -> Option (List SV)
 | [], [] => some []
 | none :: ds, v :: l => (match q5M k w ds l with
   | some r => some (v :: r)
   | none => none)
 | some j :: ds, v :: l => cond (q84 j) (match zEH k w v, q5M k w ds l with
   | some b, some r => some (.d .bool b :: r)
   | _, _ => none) (q5M k w ds l)
 | _, _ => none
def q30 (k : Nat) (v : SV) (h : SH) : Bool := match v with
 | .own k' g _ => Nat.beq k' k && (match slk k' h.l with
   | some (.list _ _ g' _ _ _) => Nat.beq g g'
   | _ => false)
 | _ => false
def q7D : List (Option Nat) -> List SV -> SH -> Bool
 | some k :: ds, v :: l, h => cond (q84 k) true (q30 k v h) && q7D ds l h
 | none :: ds, _ :: l, h => q7D ds l h
 | _, _, _ => true
def mkB (kb w : Nat) : List (Option Nat) -> List SV -> SH -> Option (List SV × List SV)
 | [], l, _ => some ([], l)
 | none :: ds, c :: l, h => (match mkB kb w ds l h with
   | some p => some (c :: p.1, p.2)
   | none => none)
 | some k :: ds, l, h => cond (q84 k) (match l with
   | c :: l' => (match asB c, mkB kb w ds l' h with
     | some b, some p => some (.opt b kb 0 w :: p.1, p.2)
     | _, _ => none)
   | [] => none) (match slk k h.l with
   | some (.list _ _ g _ _ xs) => (match mkB kb w ds l h with
     | some p => some (.own k g (List.length xs) :: p.1, p.2)
     | none => none)
   | _ => none)
 | none :: _, [], _ => none
def qT2 (h1 : SH) : List (Nat × List (Option Nat)) -> List SV -> SH -> Option SH
 | [], _, h => some h
 | (k, ds) :: bs, l, h => match slk k h1.l with
   | some (.cells el _ _) => (match mkB k (List.length ds) ds l h with
     | some p => qT2 h1 bs p.2 ((h.del k).new k fun v => .cells el v p.1)
     | none => none)
   | _ => none
def qCT : List (Nat × List (Option Nat)) -> SH -> Option (List SV)
 | [], _ => some []
 | (k, ds) :: bs, h => match slk k h.l with
   | some (.cells _ _ l) => (match q5M k (List.length ds) ds l, qCT bs h with
     | some a, some b => some (a ++ b)
     | _, _ => none)
   | _ => none
def qC5 (L : List Nat) (bs : List (Nat × List (Option Nat))) (h1 h : SH) : Bool := bs.all fun p => qFL p.1 L && ((p.2.all fun x => match x with
 | some k => !qFL k L
 | none => true) && (match slk p.1 h1.l, slk p.1 h.l with
 | some (.cells e1 _ _), some (.cells e2 _ l) => Nat.beq e1 e2 && q7D p.2 l h
 | _, _ => false))
def mkS (P : Program) (W : List Nat) (sh : Sh) (ts : List Ty) (os : List (Nat × Bool)) (env : List SV) (h : SH) (s : TyL ts) : Option (List SV × SH) :=
 match qTU P os ((mH sh.d (svL ts s) (blank W 0 env)).2.take os.length) h with
 | some h2 => (match qT2 h sh.b ((mH sh.d (svL ts s) (blank W 0 env)).2.drop os.length) h2 with
   | some h3 => (match qTY sh.s h3 (mH sh.d (svL ts s) (blank W 0 env)).1 with
     | some e2 => some (e2, h3)
     | none => none)
   | none => none)
 | none => none
omit [Yl] in
theorem qMW {l m : List PV} {i : Nat} {x : PV} (h : WkP l m) (hx : zL l i = some x) : WkP l (yT m i x) := by
 rw [qV];rw [qF] at hx
 have hl : l.length = (m.set i x).length := by
  rw [zUY];clear hx
  induction h with
  | nil => rfl
  | same _ ih => simp [ih]
  | any _ ih => simp [ih]
 have hp : ∀ j : Nat, m[j]? = l[j]? ∨ m[j]? = some PV.unk := by
  clear hx hl
  induction h with
  | nil => intro j; exact .inl rfl
  | same _ ih => intro j; cases j with
    | zero => exact .inl rfl
    | succ j => exact ih j
  | any _ ih => intro j; cases j with
    | zero => exact .inr rfl
    | succ j => exact ih j
 refine qKA hl fun j => ?_
 rw [qF, qF, zUM];by_cases e : i = j
 ·subst e;rw [if_pos rfl];split
  ·exact .inl hx.symm
  ·rename_i hlt;have hlt' : i < l.length := (zT2.1 hx).1;rw [hl, zUY] at hlt';exact absurd hlt' hlt
 ·rw [if_neg e];exact hp j
theorem qUG : ∀ {is : List Nat} {env l b m rest : List SV}, qHU is env = some l -> qB (l ++ b) = qB m -> WkP (qB env) (qB rest) -> WkP (qB env) (qB (mH is m rest).1) ∧ qB (mH is m rest).2 = qB b
 | [], env, l, b, m, rest, e, hm, hw => by
   cases e;exact ⟨hw, hm.symm⟩
 | i :: is, env, l, b, m, rest, e, hm, hw => by
   unfold qHU at e;split at e
   ·rename_i v l' hv hl';cases e
    cases m with
    | nil => simp [qB] at hm
    | cons c m =>
      simp only [zWU, qB, zU4] at hm;show WkP (qB env) (qB (mH is m (yT rest i c)).1) ∧ qB (mH is m (yT rest i c)).2 = qB b;refine qUG hl' hm.2 ?_;rw [vH, <- hm.1];exact qMW hw (by rw [zF, hv]; rfl)
   ·cases e
omit [Yl] in
theorem qH1 : ∀ (is : List Nat) (l env : List SV), (mH is l env).1.length = env.length
 | [], l, env => rfl
 | i :: is, [], env => rfl
 | i :: is, c :: l, env => by
   show (mH is l (yT env i c)).1.length = _;rw [qH1 is l, gV]
omit [Yl] in
theorem qME {h : SH} : ∀ {is : List Nat} {l env : List SV}, okL h l -> okL h env -> okL h (mH is l env).1
 | [], l, env, _, he => he
 | i :: is, [], env, _, he => he
 | i :: is, c :: l, env, hl, he => by
   simp only [okL] at hl;show okL h (mH is l (yT env i c)).1;exact qME hl.2 (kZ he hl.1)
omit [Yl] in
theorem qHA : ∀ {is : List Nat} {l env : List SV} {j : Nat}, j ∉ is -> zL (mH is l env).1 j = zL env j
 | [], l, env, j, _ => rfl
 | i :: is, [], env, j, _ => rfl
 | i :: is, c :: l, env, j, hj => by
   rw [zUD, not_or] at hj;show zL (mH is l (yT env i c)).1 j = _;rw [qHA hj.2, qV, qF, qF, zUM, if_neg (fun e => hj.1 e.symm)]
omit [Yl] in
theorem qDO {ks : List (Nat × Bool)} (e : qTU P ((k, gr) :: ks) (c :: l) h = some h2) :
 ∃ f, q6N P gr c = some f ∧ qTU P ks l ((h.del k).new k f) = some h2 := by
 unfold qTU at e;split at e
 ·rename_i f hf; exact ⟨f, hf, e⟩
 ·cases e
omit [Yl] in
theorem q2N (e : q6N P gr c = some f) (h : SH) (n : Nat) : zAW P h n (f n) := by
 unfold q6N at e;split at e
 ·rename_i el u xs;split at e
  ·rename_i m hm
   cases hc : (Nat.beq m u.w && (Nat.ble 1 m && !Nat.beq el 1000000001)) with
   | false => rw [hc] at e; cases e
   | true =>
     rw [hc] at e;cases e;simp only [zTY] at hc;have hw : m = u.w := zTZ hc.1;have h1 := zUH hc.2.1;exact ⟨rfl, rfl, by rw [hm, hw], by omega⟩
  ·cases e
 ·cases e; rfl
 ·cases e; rfl
 ·cases e
omit [Yl] in
theorem qMK : ∀ {os : List (Nat × Bool)} {l : List SV} {h h2 : SH}, OkH P h -> qTU P os l h = some h2 -> Keep h h2 ∧ OkH P h2 ∧ ∀ k, k ∉ os.map (·.1) -> slk k h2.l = slk k h.l
 | [], [], h, h2, ho, e => by cases e; exact ⟨.refl _, ho, fun _ _ => rfl⟩
 | (k, gr) :: ks, c :: l, h, h2, ho, e => by
   obtain ⟨f, hf, e1⟩ := qDO e;have hd := sH (k := k) ho;have hn2 := kY (h := h.del k) (k := k) (f := f) hd.2 (q2N hf _ _);obtain ⟨a1, a2, a3⟩ := qMK hn2.2 e1;refine ⟨hd.1.trans (hn2.1.trans a1), a2, fun j hj => ?_⟩;rw [zUB, zUD, not_or] at hj;rw [a3 j hj.2];show slk j ((k, _) :: (h.del k).l) = _;rw [zJ hj.1];exact yP hj.1 _
 | [], _ :: _, _, _, _, e => by cases e
 | _ :: _, [], _, _, _, e => by cases e
def q2R : List FV -> List (Value × Value)
 | .v k :: .v x :: l => (k, x) :: q2R l
 | _ => []
omit [Yl] in
theorem qHN : ∀ (es : List (Value × Value)), q2R (eD es) = es
 | [] => rfl
 | p :: es => by
   show (p.1, p.2) :: q2R (eD es) = _;rw [qHN es]
def obE (gr : Bool) : PV -> Option PO
 | .f (.l el _ cs) => cond (Nat.beq el 1000000001) (some (SpO.map (q2R cs)).enc) (some ⟨el, gr, cs.map .f⟩)
 | .agg [.f (.v (.string s)), .f (.v (.int _ p))] => some (SpO.iter s p.toNat).enc
 | _ => none
theorem zA6 (e : q6N P gr c = some f) (n : Nat) : obE gr c.enc = some (f n).enc := by
 unfold q6N at e;split at e
 ·rename_i el u xs;split at e
  ·rename_i m hm
   cases hc : (Nat.beq m u.w && (Nat.ble 1 m && !Nat.beq el 1000000001)) with
   | false => rw [hc] at e; cases e
   | true =>
     rw [hc] at e;cases e;simp only [zTY, zU0] at hc;simp only [SV.enc, Ty.fv, obE, hc.2.2, cond_false];rfl
  ·cases e
 ·rename_i es;cases e;simp only [SV.enc, Ty.fv, obE];show cond (Nat.beq 1000000001 1000000001) _ _ = _;rw [qHN]; rfl
 ·cases e;simp only [SV.enc, qB, Ty.fv, obE];rfl
 ·cases e
theorem zEZ {ob : SO} {p : SV × Bool} (e : obD ob = some p) : obE p.2 p.1.enc = some ob.enc := by
 unfold obD at e;split at e
 ·rename_i el gr g w u xs
  cases hc : Nat.beq el 1000000001 with
  | true => rw [hc] at e; cases e
  | false =>
    rw [hc] at e;cases e;simp only [SV.enc, Ty.fv, obE, hc, cond_false];rfl
 ·rename_i w x
  cases x with
  | map es =>
    cases e;simp only [SV.enc, Ty.fv, obE];show cond (Nat.beq 1000000001 1000000001) _ _ = _;rw [qHN]; rfl
  | iter s pos =>
    cases e;simp only [SV.enc, qB, Ty.fv, obE];rfl
  | mit t j si la seen => cases e
 ·cases e
theorem qRB {q : PHp} {B : Nat -> Prop} : ∀ {os : List (Nat × Bool)} {l : List SV} {h h2 : SH}, qTU P os l h = some h2 -> (∀ k o, ¬ B k -> k ∉ os.map (·.1) -> slk k h.l = some o -> qD k q = some o.enc) ->
 (∀ (i : Nat) k gr c, os[i]? = some (k, gr) -> l[i]? = some c -> qD k q = obE gr c.enc) -> ∀ k o, ¬ B k -> slk k h2.l = some o -> qD k q = some o.enc
 | [], [], h, h2, e, h0, _, k, o, hB, hk => by
   cases e;exact h0 k o hB (by simp) hk
 | (j, gr) :: ks, c :: l, h, h2, e, h0, h1, k, o, hB, hk => by
   obtain ⟨f, hf, e1⟩ := qDO e;refine qRB (q := q) (B := B) e1 (fun k2 o2 hB2 hk2 ho2 => ?_) (fun i k2 gr2 c2 a1 a2 => h1 (i + 1) k2 gr2 c2 (by simpa using a1) (by simpa using a2)) k o hB hk;by_cases hj : k2 = j
   ·subst hj;rw [show slk k2 ((h.del k2).new k2 f).l = some (f (h.del k2).next) from wU] at ho2;cases ho2;rw [h1 0 k2 gr c rfl rfl];exact zA6 hf _
   ·rw [show slk k2 ((h.del j).new j f).l = slk k2 (h.del j).l from zJ hj, show slk k2 (h.del j).l = slk k2 h.l from yP hj _] at ho2;exact h0 k2 o2 hB2 (by rw [zUB, zUD, not_or]; exact ⟨hj, hk2⟩) ho2
 | [], _ :: _, _, _, e, _, _, _, _, _, _ => by cases e
 | _ :: _, [], _, _, e, _, _, _, _, _, _ => by cases e
omit [Yl] in
theorem qDP {h : SH} : ∀ {is : List Nat} {l env : List SV}, okL h l -> okL h (mH is l env).2
 | [], l, env, hl => hl
 | i :: is, [], env, _ => by simp [mH, okL]
 | i :: is, c :: l, env, hl => by
   simp only [okL] at hl;show okL h (mH is l (yT env i c)).2;exact qDP hl.2
omit [Yl] in
theorem qRZ (n : Nat) (hl : okL h l) : okL h (l.drop n) := yY.2 fun x hx => yY.1 hl x (zXI hx)
theorem qY2 (l : List SV) (n : Nat) : qB (l.take n) = (qB l).take n := by rw [zD, zD, zWP]
theorem qVJ (l : List SV) (n : Nat) : qB (l.drop n) = (qB l).drop n := by rw [zD, zD, zWO]
omit [Yl] in
theorem qM7 {h : SH} (ho : OkH P h) : ∀ {l : List (Nat × Nat)} {env e2 : List SV}, okL h env -> qTY l h env = some e2 -> okL h e2 ∧ e2.length = env.length ∧ ∀ j, j ∉ l.map (·.1) -> zL e2 j = zL env j
 | [], env, e2, he, e => by cases e; exact ⟨he, rfl, fun _ _ => rfl⟩
 | (i, k) :: l, env, e2, he, e => by
   unfold qTY at e
   cases hmk : Nat.ble mkM k with
   | true =>
     rw [hmk] at e;simp only [cond_true] at e;obtain ⟨a1, a2, a3⟩ := qM7 ho (kZ (t := i) he (v := .mp (k - mkM)) (by simp [SV.ok])) e;refine ⟨a1, a2.trans (gV _ _ _), fun j hj => ?_⟩;rw [zUB, zUD, not_or] at hj;rw [a3 j hj.2, qV, qF, qF, zUM, if_neg (fun e => hj.1 e.symm)]
   | false =>
   rw [hmk] at e;simp only [cond_false] at e;split at e
   ·rename_i el gr g w u xs hk;have hg := (ho.list _ _ _ _ _ _ _ hk).1
    have hok : (SV.own k g (List.length xs)).ok h := by
     simp only [SV.ok];exact ⟨hg, fun el2 gr2 w2 t2 xs2 hk2 => by rw [hk] at hk2; cases hk2; rfl⟩
    obtain ⟨a1, a2, a3⟩ := qM7 ho (kZ (t := i) he hok) e;refine ⟨a1, a2.trans (gV _ _ _), fun j hj => ?_⟩;rw [zUB, zUD, not_or] at hj;rw [a3 j hj.2, qV, qF, qF, zUM, if_neg (fun e => hj.1 e.symm)]
   ·cases e
omit [Yl] in
theorem qJO {kb w : Nat} {h : SH} (ho : OkH P h) : ∀ {ds : List (Option Nat)} {l : List SV} {p : List SV × List SV}, okL h l -> mkB kb w ds l h = some p -> okL h p.1 ∧ okL h p.2
 | [], l, p, hl, e => by cases e; exact ⟨by simp [okL], hl⟩
 | none :: ds, c :: l, p, hl, e => by
   unfold mkB at e;simp only [okL] at hl;split at e
   ·rename_i q hq;cases e;have ih := qJO ho hl.2 hq;exact ⟨by simp only [okL]; exact ⟨hl.1, ih.1⟩, ih.2⟩
   ·cases e
 | some k :: ds, l, p, hl, e => by
   unfold mkB at e
   cases hm : q84 k with
   | true =>
     rw [hm] at e;simp only [cond_true] at e;split at e
     ·simp only [okL] at hl;split at e
      ·rename_i b q hb hq;cases e;have ih := qJO ho hl.2 hq;exact ⟨by simp only [okL]; exact ⟨by simp [SV.ok], ih.1⟩, ih.2⟩
      ·cases e
     ·cases e
   | false =>
   rw [hm] at e;simp only [cond_false] at e;split at e
   ·rename_i el gr g w u xs hk;split at e
    ·rename_i q hq;cases e;have ih := qJO ho hl hq;have hg := (ho.list _ _ _ _ _ _ _ hk).1;refine ⟨?_, ih.2⟩;simp only [okL, SV.ok];exact ⟨⟨hg, fun el2 gr2 w2 t2 xs2 hk2 => by rw [hk] at hk2; cases hk2; rfl⟩, ih.1⟩
    ·cases e
   ·cases e
 | none :: _, [], _, _, e => by cases e
omit [Yl] in
theorem qMC {h1 : SH} : ∀ {bs : List (Nat × List (Option Nat))} {l : List SV} {h h2 : SH}, OkH P h -> okL h l -> qT2 h1 bs l h = some h2 -> Keep h h2 ∧ OkH P h2 ∧ ∀ k, k ∉ bs.map (·.1) -> slk k h2.l = slk k h.l
 | [], l, h, h2, ho, hl, e => by cases e; exact ⟨.refl _, ho, fun _ _ => rfl⟩
 | (k, ds) :: bs, l, h, h2, ho, hl, e => by
   unfold qT2 at e;split at e
   ·rename_i el w0 l0 hk0;split at e
    ·rename_i p hp;obtain ⟨m1, m2⟩ := qJO ho hl hp;have hd := sH (k := k) ho;have hn2 := kY (h := h.del k) (k := k) (f := fun v => .cells el v p.1) hd.2 ⟨rfl, qL hd.1 m1⟩;obtain ⟨a1, a2, a3⟩ := qMC hn2.2 (qL hn2.1 (qL hd.1 m2)) e;refine ⟨hd.1.trans (hn2.1.trans a1), a2, fun j hj => ?_⟩;rw [zUB, zUD, not_or] at hj;rw [a3 j hj.2];show slk j ((k, _) :: (h.del k).l) = _;rw [zJ hj.1];exact yP hj.1 _
    ·cases e
   ·cases e
theorem qY9 (ho : OkH P h) (ho2 : OkH P h2) {el : TypeId} {g : Nat} {u : Ty} {xs : List u.sem} (hv : v.ok h) (c : q30 k v h = true) (hk : slk k h2.l = some (.list el gr g w u xs)) (h1 : qD k (qI h.l) = some (SO.list el gr g w u xs).enc) :
 v.enc = (SV.own k g xs.length).enc := by
 unfold q30 at c;split at c
 ·rename_i k' g' n';rw [zTY] at c;have hkk : k' = k := zTZ c.1;subst hkk;have c2 := c.2;split at c2
  ·rename_i el3 gr3 g3 w3 u3 xs3 hk3;have hg : g' = g3 := zTZ c2;subst hg;simp only [SV.ok] at hv;have hn := hv.2 _ _ _ _ _ hk3;rw [yL hk3] at h1;have h1 := zVT h1;have e1 : el3 = el := congrArg PO.el h1
   have e2' : xs3.length * u3.w = xs.length * u.w := by
    have := congrArg (fun o : PO => o.cs.length) h1;simp only [zA] at this;exact this
   have l1 := ho.list _ _ _ _ _ _ _ hk3;have l2 := ho2.list _ _ _ _ _ _ _ hk
   have hww : u3.w = u.w := by
    have a1 := l1.2.1;have a2 := l2.2.1;rw [e1, a2] at a1;exact (zVT a1).symm
   have hlen : xs3.length = xs.length := by
    rw [hww] at e2';exact Nat.eq_of_mul_eq_mul_right l2.2.2 e2'
   simp only [SV.enc, hn, hlen]
  ·cases c2
 ·cases c
theorem qHF {kb w : Nat} {hn h : SH} (hon : OkH P hn) (ho : OkH P h) : ∀ {ds : List (Option Nat)} {l ln dl rest : List SV} {p : List SV × List SV}, mkB kb w ds l h = some p -> q5M kb w ds ln = some dl -> q7D ds ln hn = true -> qB (dl ++ rest) = qB l -> okL hn ln ->
 (∀ k o, some k ∈ ds -> slk k h.l = some o -> qD k (qI hn.l) = some o.enc) -> qB p.1 = qB ln ∧ qB p.2 = qB rest
 | [], l, ln, dl, rest, p, e, ec, eo, hl, hok, hq => by
   cases e
   cases ln with
   | nil => cases ec; exact ⟨rfl, hl.symm⟩
   | cons _ _ => cases ec
 | none :: ds, c :: l, ln, dl, rest, p, e, ec, eo, hl, hok, hq => by
   unfold mkB at e;split at e
   ·rename_i q hm;cases e
    cases ln with
    | nil => cases ec
    | cons v ln =>
      unfold q5M at ec;split at ec
      ·rename_i r hr;cases ec;simp only [zWU, qB, zU4] at hl;simp only [okL] at hok;obtain ⟨a1, a2⟩ := qHF hon ho hm hr (by unfold q7D at eo; exact eo) hl.2 hok.2 fun k o hk ho => hq k o (zT4 _ hk) ho
       exact ⟨by simp only [qB, a1, hl.1], a2⟩
      ·cases ec
   ·cases e
 | some k :: ds, l, ln, dl, rest, p, e, ec, eo, hl, hok, hq => by
   unfold mkB at e
   cases hmk : q84 k with
   | true =>
     rw [hmk] at e;simp only [cond_true] at e;split at e
     case h_2 => cases e
     rename_i c l';split at e
     case h_2 => cases e
     rename_i b q hb hm;cases e
     cases ln with
     | nil => cases ec
     | cons v ln =>
       unfold q5M at ec;rw [hmk] at ec;simp only [cond_true] at ec;split at ec
       case h_2 => cases ec
       rename_i b2 r hb2 hr;cases ec;simp only [okL] at hok;unfold q7D at eo;rw [zTY] at eo;simp only [zWU, qB, zU4] at hl;obtain ⟨a1, a2⟩ := qHF hon ho hm hr eo.2 hl.2 hok.2 fun k o hk ho => hq k o (zT4 _ hk) ho
       refine ⟨?_, a2⟩
       have hbb : b2 = b := by
        have := hl.1;rw [rC hb] at this;simp only [SV.enc, Ty.fv, fvv] at this;injection this with this;injection this with this;injection this
       simp only [qB, a1, q1O hb2, hbb]
   | false =>
   rw [hmk] at e;simp only [cond_false] at e;split at e
   ·rename_i el gr g w u xs hk;split at e
    ·rename_i q hm;cases e
     cases ln with
     | nil => cases ec
     | cons v ln =>
       unfold q5M at ec;rw [hmk] at ec;simp only [cond_false] at ec;simp only [okL] at hok;unfold q7D at eo;rw [hmk, zTY] at eo;simp only [cond_false] at eo;obtain ⟨a1, a2⟩ := qHF hon ho hm ec eo.2 hl hok.2 fun k o hk ho => hq k o (zT4 _ hk) ho
       refine ⟨?_, a2⟩;simp only [qB, a1];rw [qY9 hon ho hok.1 eo.1 hk (hq k _ zT8 hk)]
    ·cases e
   ·cases e
 | none :: _, [], _, _, _, _, e, _, _, _, _, _ => by cases e
theorem qP5 {hn h1 : SH} {L : List Nat} (hon : OkH P hn) : ∀ {bs : List (Nat × List (Option Nat))} {l c rest : List SV} {h h2 : SH}, OkH P h -> okL h l -> qT2 h1 bs l h = some h2 -> qCT bs hn = some c -> qB (c ++ rest) = qB l -> qC5 L bs h1 hn = true ->
 (∀ k o, slk k h.l = some o -> k ∉ bs.map (·.1) -> qD k (qI hn.l) = some o.enc) -> (∀ k o, slk k h.l = some o -> k ∉ L -> qD k (qI hn.l) = some o.enc) -> ∀ k o, slk k h2.l = some o -> qD k (qI hn.l) = some o.enc
 | [], l, c, rest, h, h2, ho, hl, e, ec, hc, hb, hq, _, k, o, hk => by
   cases e;exact hq k o hk (by simp)
 | (j, ds) :: bs, l, c, rest, h, h2, ho, hl, e, ec, hc, hb, hq, hqL, k, o, hk => by
   unfold qC5 at hb;rw [zV6, zTY, zTY, zTY] at hb;obtain ⟨⟨b0, b1, b2⟩, b3⟩ := hb;unfold qT2 at e;split at e
   case h_2 => cases e
   rename_i el w0 l0 hk0;split at e
   case h_2 => cases e
   rename_i p hp;rw [hk0] at b2;simp only at b2;unfold qCT at ec;split at ec
   case h_2 => cases ec
   rename_i el2 w2 ln hkn;rw [hkn] at b2;simp only [zTY] at b2;split at ec
   case h_2 => cases ec
   rename_i a b ha hb2;cases ec;have hel : el = el2 := zTZ b2.1;subst hel;obtain ⟨m1, m2⟩ := qJO ho hl hp
   obtain ⟨q1, q2⟩ := qHF hon ho hp ha b2.2 (rest := b ++ rest) (by rw [<- zUZ]; exact hc) (hon.cells _ _ _ _ hkn) (fun k o hk ho2 => hqL k o ho2 fun hm => by
    have := zT3.1 b1 (some k) hk;simp only [gW.2 hm] at this
    cases this)
   have hd := sH (k := j) ho;have hn2 := kY (h := h.del j) (k := j) (f := fun v => .cells el v p.1) hd.2 ⟨rfl, qL hd.1 m1⟩
   have look : ∀ i, i ≠ j -> slk i ((h.del j).new j fun v => .cells el v p.1).l = slk i h.l := fun i hi => by
    show slk i ((j, _) :: (h.del j).l) = _;rw [zJ hi];exact yP hi _
   have zNB : slk j ((h.del j).new j fun v => .cells el v p.1).l = some (.cells el (h.del j).next p.1) := wU
   have zI6 : qD j (qI hn.l) = some (SO.cells el (h.del j).next p.1).enc := by
    rw [yL hkn];simp [SO.enc, q1]
   refine qP5 hon (bs := bs) (c := b) (rest := rest) hn2.2 (qL hn2.1 (qL hd.1 m2)) e hb2 q2.symm b3 (fun i o2 hi hni => ?_) (fun i o2 hi hni => ?_) k o hk
   ·by_cases hij : i = j
    ·subst hij;rw [zNB] at hi; cases hi; exact zI6
    ·rw [look i hij] at hi;exact hq i o2 hi (by rw [zUB, zUD, not_or]; exact ⟨hij, hni⟩)
   ·by_cases hij : i = j
    ·subst hij;rw [zNB] at hi; cases hi; exact zI6
    ·rw [look i hij] at hi;exact hqL i o2 hi hni
end
end Go.Sv
namespace Go.Sv
open Go.Idl
variable {W : List Nat} {b c e2 env zHT : List SV} {h h1 h2 : SH} {os : List (Nat × Bool)} {sh : Sh} {ts : List Ty}
noncomputable section
variable [Gc]
variable [Yl]
variable {P : Program} {R : Type} {r : R} {nm : Nm}
def q05 (os : List (Nat × Bool)) (h : SH) : Bool := os.all fun p => match slk p.1 h.l with
 | some ob => (match obD ob with
   | some q => q.2 == p.2
   | none => false)
 | none => false
def qD8 (l : List (Nat × Nat)) (env : List SV) (h : SH) : Bool := l.all fun p => cond (Nat.ble mkM p.2) (match zL env p.1 with
 | some (.mp k) => Nat.beq k (p.2 - mkM)
 | _ => false) (match zL env p.1 with
 | some (.own k g _) => Nat.beq k p.2 && (match slk k h.l with
   | some (.list _ _ g' _ _ _) => Nat.beq g g'
   | _ => false)
 | _ => false)
def eX (ls : List Nat) (hh h : SH) : Bool := hh.l.all fun p => qFL p.1 ls || (match slk p.1 h.l with
 | some o => Nat.beq o.w p.2.w
 | none => false)
omit [Yl] in
theorem qZA {k : Nat} {o : SO} : ∀ {l : List (Nat × SO)}, slk k l = some o -> (k, o) ∈ l
 | (j, p) :: l, h => by
   have h1 : cond (k == j) (some p) (slk k l) = some o := h;clear h
   cases hj : k == j with
   | true =>
     rw [hj] at h1;have h2 : p = o := zVT h1;have : k = j := by simpa using hj
     rw [this, h2];exact zT8
   | false =>
     rw [hj] at h1;exact zT4 _ (qZA (l := l) h1)
omit [Yl] in
theorem qAF : ∀ {ks : List Nat} {h : SH} {os : List (Nat × Bool)}, q5R ks h = some os -> os.map (·.1) = ks
 | [], h, os, e => by cases e; rfl
 | k :: ks, h, os, e => by
   unfold q5R at e;split at e
   ·rename_i hk hl;split at e
    ·cases e;rw [zUB, qAF hl]
    ·cases e
   ·cases e
omit [Yl] in
theorem qHL : ∀ {ks : List Nat} {h : SH} {os : List (Nat × Bool)}, q5R ks h = some os -> q05 os h = true
 | [], h, os, e => by cases e; rfl
 | k :: ks, h, os, e => by
   unfold q5R at e;split at e
   ·rename_i ob os' hk hl;split at e
    ·rename_i p hp;cases e;have ih := qHL hl;unfold q05 at ih ⊢;rw [zV6, ih];simp only [hk, hp];simp
    ·cases e
   ·cases e
omit [Yl] in
theorem qVZ : ∀ {ks : List Nat} {h : SH} {b : List SV}, qVU ks h = some b -> ∀ (i : Nat) k, ks[i]? = some k -> ∃ ob p, slk k h.l = some ob ∧ obD ob = some p ∧ b[i]? = some p.1
 | [], h, b, e, i, k, hk => by simp at hk
 | j :: ks, h, b, e, i, k, hk => by
   unfold qVU at e;split at e
   ·rename_i ob l hj hl;split at e
    ·rename_i p hp;cases e
     cases i with
     | zero =>
       simp at hk;subst hk;exact ⟨ob, p, hj, hp, rfl⟩
     | succ i => exact qVZ hl i k (by simpa using hk)
    ·cases e
   ·cases e
omit [Yl] in
theorem qRO : ∀ {ks : List Nat} {h : SH} {b : List SV}, qVU ks h = some b -> b.length = ks.length
 | [], h, b, e => by cases e; rfl
 | k :: ks, h, b, e => by
   unfold qVU at e;split at e
   ·rename_i hk hl;split at e
    ·cases e;simp only [zUI, qRO hl]
    ·cases e
   ·cases e
theorem qL2 {h h2 : SH} {env : List SV} (ho : OkH P h) (ho2 : OkH P h2) (hs : ∀ k o, slk k h2.l = some o -> qD k (qI h.l) = some o.enc) (hen : okL h env) : ∀ {l : List (Nat × Nat)} {m e2 : List SV}, qD8 l env h = true -> qTY l h2 m = some e2 -> WkP (qB env) (qB m) -> WkP (qB env) (qB e2)
 | [], m, e2, _, e, hw => by cases e; exact hw
 | (i, k) :: l, m, e2, hc, e, hw => by
   unfold qD8 at hc;rw [zV6, zTY] at hc;unfold qTY at e;have c0 := hc.1;simp only at c0
   cases hmk : Nat.ble mkM k with
   | true =>
     rw [hmk] at e c0;simp only [cond_true] at e c0;refine qL2 ho ho2 hs hen hc.2 e ?_;split at c0
     ·rename_i k' hi;have hkk := zTZ c0;rw [vH];refine qMW hw ?_;rw [zF, hi, hkk];rfl
     ·cases c0
   | false =>
   rw [hmk] at e c0;simp only [cond_false] at e c0;split at e
   ·rename_i el gr g w u xs hk;refine qL2 ho ho2 hs hen hc.2 e ?_;have c1 := c0;split at c1
    ·rename_i k' g' n' hi;have c3 : q30 k (.own k' g' n') h = true := c1;rw [vH];refine qMW hw ?_;rw [zF, hi];show some (SV.own k' g' n').enc = _;rw [qY9 ho ho2 (sD hen hi) c3 hk (hs k _ hk)]
    ·cases c1
   ·cases e
theorem zB5 {s : TyL ts} (ho : OkH P h) (ho1 : OkH P h1)
 (hb : qVU sh.o h = some b) (hcB : qCT sh.b h = some c) (w2 : qB (mH sh.d (svL ts s) (blank W 0 zHT)).2 = qB (b ++ c)) (hm : mkS P W sh ts os zHT h1 s = some (e2, h2)) (hos : os.map (·.1) = sh.o) (hgr : q05 os h = true) (hbx : qC5 (sh.b.map (·.1)) sh.b h1 h = true)
 (hkept : ∀ k o, k ∉ sh.o -> k ∉ sh.b.map (·.1) -> slk k h1.l = some o -> qD k (qI h.l) = some o.enc) :
 OkH P h2 ∧ qTY sh.s h2 (mH sh.d (svL ts s) (blank W 0 zHT)).1 = some e2 ∧ ∀ k o, slk k h2.l = some o -> qD k (qI h.l) = some o.enc := by
 unfold mkS at hm;split at hm
 case h_2 => cases hm
 rename_i h3 hso;split at hm
 case h_2 => cases hm
 rename_i h4 hsb;split at hm
 case h_2 => cases hm
 rename_i e3 hss;cases hm;have hlen : os.length = b.length := by rw [qRO hb, <- hos, zUO]
 have t1 : qB ((mH sh.d (svL ts s) (blank W 0 zHT)).2.take os.length) = qB b := by
  rw [qY2, w2, zD, zD, zUR, hlen, <- zUO (as := b) (f := SV.enc), List.take_left]
 have t2 : qB ((mH sh.d (svL ts s) (blank W 0 zHT)).2.drop os.length) = qB c := by
  rw [qVJ, w2, zD, zD, zUR, hlen, <- zUO (as := b) (f := SV.enc), List.drop_left]
 have zNC : ∀ k o, ¬ k ∈ sh.b.map (·.1) -> slk k h3.l = some o -> qD k (qI h.l) = some o.enc := by
  refine qRB (B := fun k => k ∈ sh.b.map (·.1)) hso (fun k o hB hk hk2 => hkept k o (by rw [<- hos]; exact hk) hB hk2) ?_;intro i k gr x hi hx;have hki : sh.o[i]? = some k := by rw [<- hos, zT9, hi]; rfl
  obtain ⟨ob, p, q1, q0, q2⟩ := qVZ hb i k hki
  have hce : x.enc = p.1.enc := by
   have e1 : (qB b)[i]? = some p.1.enc := by rw [zD, zT9, q2]; rfl
   rw [<- t1, zD, zT9, hx] at e1;exact zVT e1
  have hg : p.2 = gr := by
   unfold q05 at hgr;have := zT3.1 hgr (k, gr) (zUP hi);simp only [q1, q0] at this;simpa using this
  rw [hce, yL q1, <- hg, zEZ q0]
 obtain ⟨k3, ho3, _⟩ := qMK ho1 hso;have hrest : okL h3 ((mH sh.d (svL ts s) (blank W 0 zHT)).2.drop os.length) := qRZ _ (qDP (qEZ ts s));have hsub := qP5 (L := sh.b.map (·.1)) ho (c := c) (rest := []) ho3 hrest hsb hcB (by rw [zVL]; exact t2.symm) hbx (fun k o hk hn => zNC k o hn hk) (fun k o hk hn => zNC k o hn hk);obtain ⟨_, ho4, _⟩ := qMC ho3 hrest hsb;exact ⟨ho4, hss, hsub⟩
theorem qVF (hsub : ∀ k o, slk k h2.l = some o -> qD k (qI h.l) = some o.enc) : qAX (qI h2.l) (qI h.l) := fun k ob hk => by
 rw [pF] at hk;obtain ⟨o, h1, h2⟩ := zT6.1 hk;rw [hsub k o h1, h2]
theorem qSK {a : List SV} {s : TyL ts} (ho : OkH P h) (ho1 : OkH P h1) (hen : okL h env)
 (ha : qHU sh.d env = some a) (hb : qVU sh.o h = some b) (hcB : qCT sh.b h = some c) (hd : qA9 ts (a ++ (b ++ c)) = some s) (hm : mkS P W sh ts os zHT h1 s = some (e2, h2)) (hos : os.map (·.1) = sh.o) (hgr : q05 os h = true) (hown : qD8 sh.s env h = true) (hbx : qC5 (sh.b.map (·.1)) sh.b h1 h = true)
 (hkept : ∀ k o, k ∉ sh.o -> k ∉ sh.b.map (·.1) -> slk k h1.l = some o -> qD k (qI h.l) = some o.enc) (hbl : WkP (qB env) (qB (blank W 0 zHT))) :
 WkP (qB env) (qB e2) ∧ qAX (qI h2.l) (qI h.l) := by
 have hde := qLB hd;obtain ⟨w1, w2⟩ := qUG (m := svL ts s) ha hde hbl;obtain ⟨ho4, hss, hsub⟩ := zB5 ho ho1 hb hcB w2 hm hos hgr hbx hkept;exact ⟨qL2 ho ho4 hsub hen hown hss w1, qVF hsub⟩
theorem mK {s : TyL ts} (ho1 : OkH P h1) (he1 : okL h1 zHT) (hm : mkS P W sh ts os zHT h1 s = some (e2, h2)) :
 Keep h1 h2 ∧ OkH P h2 ∧ okL h2 e2 ∧ e2.length = zHT.length ∧ (∀ j, j ∉ W -> j ∉ sh.d -> j ∉ sh.s.map (·.1) -> zL (qB e2) j = zL (qB zHT) j) ∧ ∀ k, k ∉ os.map (·.1) -> k ∉ sh.b.map (·.1) -> slk k h2.l = slk k h1.l := by
 unfold mkS at hm;split at hm
 case h_2 => cases hm
 rename_i h3 hso;split at hm
 case h_2 => cases hm
 rename_i h4 hsb;split at hm
 case h_2 => cases hm
 rename_i e3 hss;cases hm;obtain ⟨a1, a2, a3⟩ := qMK ho1 hso;have hrest : okL h3 ((mH sh.d (svL ts s) (blank W 0 zHT)).2.drop os.length) := qRZ _ (qDP (qEZ ts s));obtain ⟨c1, c2, c3⟩ := qMC a2 hrest hsb;have hok : okL h2 (mH sh.d (svL ts s) (blank W 0 zHT)).1 := qME (qEZ ts s) (qPP (qL c1 (qL a1 he1)));obtain ⟨b1, b2, b3⟩ := qM7 c2 hok hss;refine ⟨a1.trans c1, c2, b1, by rw [b2, qH1, qBC], fun j hj hjd hjs => ?_, fun k hk hk2 => (c3 k hk2).trans (a3 k hk)⟩;rw [zF, zF, b3 j hjs, qHA hjd, qDB]
 have : qFL (0 + j) W = false := by
  cases hq : qFL (0 + j) W with
  | false => rfl
  | true => rw [zU2] at hq; exact absurd (gW.1 hq) hj
 rw [this];cases zL zHT j <;> rfl
theorem dM (hl : env.length = zHT.length) (h : ∀ i, i ∉ W -> zL (qB env) i = zL (qB zHT) i) : WkP (qB env) (qB (blank W 0 zHT)) := by
 refine qKA (by rw [zH, zH, qBC, hl]) fun i => ?_
 rw [zF (blank W 0 zHT), qDB, zU2]
 cases hq : qFL i W with
 | true =>
   cases hx : zL zHT i with
   | none =>
     left
     have : zL env i = none := by
      rw [qF] at hx ⊢;rw [zXP] at hx ⊢;omega
     rw [zF, this]; rfl
   | some x => right; simp [SV.enc]
 | false =>
   left
   have hni : i ∉ W := fun hm => by
    rw [gW.2 hm] at hq;cases hq
   rw [h i hni, zF zHT];cases zL zHT i <;> rfl
end
end Go.Sv
namespace Go.Sv
open Go.Idl
variable {h hh : SH} {k : Nat} {ls : List Nat} {o : SO}
noncomputable section
abbrev wP (Γ : Option Type) (R : Type) := zIX -> GV Γ -> List SV -> SH -> zHP R
def zHP.sum {R : Type} {α β : Type} (x : α ⊕ β) (f : α -> zHP R) (g : β -> zHP R) : zHP R := Sum.rec f g x
variable [Gc]
variable [Yl]
variable {P : Program} {Γ : Option Type} {R : Type} {r : R} {nm : Nm} {G : Nat -> Bool} {rd : Bool} {N : Nat} {rs : List Ty} {wd : Wld (GV Γ)}
def EQ (P : Program) (N : Nat) (w : List Nat) (env : List SV) (h : SH) (K : wP Γ R) (r : R) : YQ (GV Γ) := fun e g pe ph =>
 ∃ env' h', pe = qB env' ∧ ph = qI h'.l ∧ okL h' env' ∧ OkH P h' ∧ env'.length = N ∧ Keep h h' ∧ (e ≠ .ret -> kW P w env h env' h') ∧ (K e g env' h').run = some r
def zF1 (id : Nat) (K : wP Γ R) : wP Γ R := fun e g env h => match e with
 | .exit i => cond (Nat.beq i id) (K .normal g env h) (K (.exit i) g env h)
 | e => K e g env h
def q7N : List Nat -> Nat -> (Nat -> zHP R) -> zHP R
 | [], _, _ => .fail
 | a :: l, j, K => .ite (Nat.beq j a) (K a) (q7N l j K)
omit [Yl] in
theorem qRY : ∀ {l : List Nat} {j : Nat} {K : Nat -> zHP R}, (q7N l j K).run = some r -> (K j).run = some r
 | [], j, K, e => by cases e
 | a :: l, j, K, e => by
   rcases run_ite e with ⟨z, e1⟩ | ⟨z, e1⟩
   ·rw [zTZ z]; exact e1
   ·exact qRY e1
def bk (sh : Sh) (os : List (Nat × Bool)) (ts : List Ty) (mk : TyL ts -> Option (List SV × SH)) (h1 hh : SH) (env : List SV) (h : SH) : Option (TyL ts) := match qHU sh.d env, qVU sh.o h, qCT sh.b h with
 | some a, some b, some c => (match qA9 ts (a ++ (b ++ c)) with
   | some s => cond (q05 os h && (qD8 sh.s env h && (qC5 (sh.b.map (·.1)) sh.b h1 h && (eX (sh.o ++ sh.b.map (·.1)) hh h && (mk s).isSome)))) (some s) none
   | none => none)
 | _, _, _ => none
def qYM (rdv : List SV -> SH -> Option (TyL rs)) (id : Nat) (sh : Sh) (os : List (Nat × Bool)) (ts : List Ty) (mk : TyL ts -> Option (List SV × SH)) (h1 hh : SH) : wP Γ (GS Γ (TyL ts) ⊕ (GS Γ (TyL ts) ⊕ (GS Γ (TyL rs) ⊕ GS Γ (Nat × TyL ts)))) := fun e g env h => match e with
 | .normal => (match bk sh os ts mk h1 hh env h with
   | some s => .ret (.inl (gj g s))
   | none => .fail)
 | .exit j => (match bk sh os ts mk h1 hh env h with
   | some s => .ret (.inr (cond (Nat.beq j id) (.inl (gj g s)) (.inr (.inr (gj g (j, s))))))
   | none => .fail)
 | .ret => (match rdv env h with
   | some v => .ret (.inr (.inr (.inl (gj g v))))
   | none => .fail)
 | .goto _ => .fail
def goS {α : Type} (o : Option (α × SH)) (K : α -> SH -> zHP R) : zHP R := match o with
 | some p => K p.1 p.2
 | none => .fail
omit [Yl] in
theorem tV {α : Type} {o : Option (α × SH)} {K : α -> SH -> zHP R} (e : (goS o K).run = some r) : ∃ a h, o = some (a, h) ∧ (K a h).run = some r := by
 unfold goS at e;split at e
 ·exact ⟨_, _, rfl, e⟩
 ·cases e
def zA4 (P : Program) (nm : Nm) (w : List Nat) (rdv : List SV -> SH -> Option (TyL rs)) (en : TyL rs -> List SV) (hb : SH) (sh : Sh) (id : Nat) (body : ∀ {R' : Type}, GV Γ -> List SV -> SH -> wP Γ R' -> zHP R') (g : GV Γ) (env : List SV) (h : SH) (K : wP Γ R) : zHP R :=
 qLJ P nm sh.v env h fun zHT h0 => qCD P nm sh.bv zHT h0 fun zHT h1 => match qHU sh.d zHT, qVU sh.o h1, qCT sh.b h1, q5R sh.o h1 with
  | some a, some b, some c, some os => (match zCY (a ++ (b ++ c)) with
    | some ts => (match qA9 ts (a ++ (b ++ c)) with
      | some s0 => cond (qD8 sh.s zHT h1 && qC5 (sh.b.map (·.1)) sh.b h1 h1)
         (.loop (fun s => goS (mkS P w sh ts os zHT h1 (g2 s)) fun e hh => body (g1 s) e hh (qYM rdv id sh os ts (mkS P w sh ts os zHT h1) h1 hh)) (gj g s0)
           fun q => zHP.sum q (fun s => goS (mkS P w sh ts os zHT h1 (g2 s)) fun e hh => K .normal (g1 s) e hh)
            fun q2 => zHP.sum q2 (fun v => K .ret (g1 v) (en (g2 v)) ⟨h.next, hb.l⟩)
             fun p => q7N sh.ex (g2 p).1 fun j => goS (mkS P w sh ts os zHT h1 (g2 p).2) fun e hh => K (.exit j) (g1 p) e hh) .fail
      | none => .fail)
    | none => .fail)
  | _, _, _, _ => .fail
def lpW (w : List Nat) (sh : Sh) : List Nat := sh.v.map (·.1) ++ (w ++ (sh.d ++ sh.s.map (·.1)))
structure zJ8 (P : Program) (nm : Nm) (N : Nat) (hb : SH) (rdv : List SV -> SH -> Option (TyL rs)) (en : TyL rs -> List SV) : Prop where
 ob : OkH P hb
 wk : ∀ env h v, OkH P h -> okL h env -> env.length = N -> Keep hb h -> rdv env h = some v -> Wk P nm (qB env) (qI h.l) (qB (en v)) (qI hb.l)
 kept : ∀ env h v, OkH P h -> okL h env -> Keep hb h -> rdv env h = some v -> ∀ k o, slk k hb.l = some o -> slk k h.l = some o
 len : ∀ v, (en v).length = N
 ok : ∀ v h, okL h (en v)
omit [Yl] in
theorem q5H (a : OkH P h) {n : Nat} (hn : h.next <= n) : OkH P ⟨n, h.l⟩ := by
 have hk : ∀ {x : SV}, x.ok h -> x.ok ⟨n, h.l⟩ := fun {x} hx => SV.ok.keep (h := h) (h' := ⟨n, h.l⟩) ⟨hn, fun k ob hh _ => hh, fun k el gr g w t xs hh _ => ⟨w, xs, hh, rfl⟩⟩ hx
 exact ⟨fun k ob hh => zUA (a.ver k ob hh) hn, fun k el w l hh => yY.2 fun x hx => hk (yY.1 (a.cells k el w l hh) x hx), fun k el gr g w t xs hh => by
  have := a.list k el gr g w t xs hh
  exact ⟨zUA this.1 hn, this.2⟩⟩
omit [Yl] in
theorem qZW : OkH P ⟨0, []⟩ := ⟨fun k ob h => (by cases h), fun k el w l h => (by cases h), fun k el gr g w t xs h => (by cases h)⟩
omit [Yl] in
theorem qTN {σ ρ : Type} {f : σ -> Option (σ ⊕ ρ)} {s : σ} {q : ρ} (h : qJ f s = some q) : ∃ y, f s = some y := by
 rw [qO] at h
 cases hf : f s with
 | none => rw [hf] at h; cases h
 | some y => exact ⟨y, rfl⟩
omit [Yl] in
theorem qRN (ho : OkH P hh) (hk : Keep hh h) (e : eX ls hh h = true) (h1 : k ∉ ls) (h2 : slk k hh.l = some o) : slk k h.l = some o := by
 unfold eX at e;have := zT3.1 e (k, o) (qZA h2);rw [zWA] at this;rcases this with q | q
 ·exact absurd (gW.1 q) h1
 ·simp only at q;split at q
  ·rename_i o' ho';have hw : o'.w = o.w := zTZ q;have := hk.same k o' ho' (by rw [hw]; exact ho.ver k o h2);rw [this] at h2;cases h2;exact ho'
  ·cases q
theorem oQ (ho : OkH P hh) (hk : Keep hh h) (e : eX ls hh h = true) (h1 : k ∉ ls) (h2 : slk k hh.l = some o) : qD k (qI h.l) = some o.enc := yL (qRN ho hk e h1 h2)
theorem q0M {w : List Nat} {rdv : List SV -> SH -> Option (TyL rs)} {en : TyL rs -> List SV} {hb : SH} (hrd : zJ8 P nm N hb rdv en) {sh : Sh} {id : Nat} {y : Code} {body : ∀ {R' : Type}, GV Γ -> List SV -> SH -> wP Γ R' -> zHP R'} {wb : List Nat} (hwb : w = lpW wb sh)
 (hbody : ∀ {R' : Type} {g : GV Γ} {env : List SV} {h : SH} {K : wP Γ R'} {r : R'}, OkH P h -> okL h env -> env.length = N -> Keep hb h -> (body g env h K).run = some r -> qU P G rd nm wd y g (qB env) (qI h.l) (EQ P N wb env h K r))
 {g : GV Γ} {env : List SV} {h : SH} {K : wP Γ R} (ho : OkH P h) (he : okL h env) (hl : env.length = N) (hbh : Keep hb h) (e : (zA4 P nm w rdv en hb sh id body g env h K).run = some r) :
 qU P G rd nm wd (.block id (.loop y)) g (qB env) (qI h.l) (EQ P N w env h K r) := by
 obtain ⟨zHT, h0, wk1, zIH, e⟩ := dG (nm := nm) ho he e;obtain ⟨h1, wk2, kp2, ho1, e⟩ := bJ (nm := nm) zIH.2.1 zIH.1 e
 have zII : kW P (sh.v.map (·.1)) env h zHT h1 := ⟨qL kp2 zIH.1, ho1, zIH.2.2.1.trans kp2, zIH.2.2.2.1, zIH.2.2.2.2⟩
 split at e
 case h_2 => cases e
 rename_i a b c os ha hb1 hc1 hos;split at e
 case h_2 => cases e
 rename_i ts hts;split at e
 case h_2 => cases e
 rename_i s0 hs0;obtain ⟨hown, e1⟩ := qH e;rw [zTY] at hown;obtain ⟨q, hq, hafter⟩ := q4H e1;have he1 := zII.1;have zI7 := qAF hos;have hl1 : zHT.length = N := zII.2.2.2.2.trans hl;have zLJ : Keep hb h1 := hbh.trans zII.2.2.1
 let E : GS Γ (TyL ts) -> List PV := fun s => match mkS P w sh ts os zHT h1 (g2 s) with
  | some p => qB p.1
  | none => []
 let Ph : GS Γ (TyL ts) -> PHp := fun s => match mkS P w sh ts os zHT h1 (g2 s) with
  | some p => qI p.2.l
  | none => []
 have hE : ∀ {s e2 h2}, mkS P w sh ts os zHT h1 (g2 s) = some (e2, h2) -> E s = qB e2 ∧ Ph s = qI h2.l := fun hm => by
  simp only [E, Ph, hm, and_self]
 obtain ⟨y0, hy0⟩ := qTN hq;obtain ⟨e0, hh0, hm0, _⟩ := tV hy0;obtain ⟨wp0, sp0⟩ := qSK ho1 ho1 he1 ha hb1 hc1 hs0 (by rw [qK1] at hm0; exact hm0) zI7 (qHL hos) hown.1 hown.2 (fun k o _ _ hk => yL hk) (dM rfl fun _ _ => rfl)
 have fin : ∀ {s e2 h2}, mkS P w sh ts os zHT h1 s = some (e2, h2) -> okL h2 e2 ∧ OkH P h2 ∧ e2.length = N ∧ kW P w env h e2 h2 ∧ Keep h1 h2 := fun {s e2 h2} hm => by
  obtain ⟨a1, a2, a3, a4, a5, _⟩ := mK ho1 he1 hm;refine ⟨a3, a2, a4.trans hl1, ⟨a3, a2, zII.2.2.1.trans a1, fun i hi => ?_, a4.trans zII.2.2.2.2⟩, a1⟩;have hi2 : i ∉ lpW wb sh := by rw [<- hwb]; exact hi
  unfold lpW at hi2;simp only [zUQ, not_or] at hi2;rw [a5 i hi hi2.2.2.1 hi2.2.2.2, zII.2.2.2.1 i hi2.1]
 refine qU.post (qU.pre' (wk1.trans wk2) ?_);refine qU.loop E Ph g1 hq (by rw [(hE hm0).1]; exact wp0) (by rw [(hE hm0).2]; exact sp0) qL0.symm ?_;intro s yy hstep;obtain ⟨e2, hh, hm, hb2⟩ := tV hstep;obtain ⟨f1, f2, f3, f4, f5⟩ := fin hm;rw [(hE hm).1, (hE hm).2];refine (hbody f2 f1 f3 (zLJ.trans f5) hb2).mono ?_;rintro ex g' pe ph ⟨env', h', rfl, rfl, k1, k2, k3, k0, k4, k5⟩;obtain ⟨_, _, _, m4, m5, m6⟩ := mK ho1 he1 hm
 have back : ∀ {s'}, ex ≠ .ret -> bk sh os ts (mkS P w sh ts os zHT h1) h1 hh env' h' = some s' -> ∃ e3 h3, mkS P w sh ts os zHT h1 s' = some (e3, h3) ∧ WkP (qB env') (qB e3) ∧ qAX (qI h3.l) (qI h'.l) := by
  intro s' hne hbk;unfold bk at hbk;split at hbk
  case h_2 => cases hbk
  rename_i a' b' c' ha' hb' hc';split at hbk
  case h_2 => cases hbk
  rename_i s2 hs2
  cases hc : (q05 os h' && (qD8 sh.s env' h' && (qC5 (sh.b.map (·.1)) sh.b h1 h' && (eX (sh.o ++ sh.b.map (·.1)) hh h' && (mkS P w sh ts os zHT h1 s2).isSome)))) with
  | false => rw [hc] at hbk; cases hbk
  | true =>
    rw [hc] at hbk;cases hbk;simp only [zTY] at hc;obtain ⟨⟨e3, h3⟩, hm3⟩ := zVD.1 hc.2.2.2.2;have zJA := k4 hne;refine ⟨e3, h3, hm3, qSK k2 ho1 k1 ha' hb' hc' hs2 hm3 zI7 hc.1 hc.2.1 hc.2.2.1 (fun k o hk hkb hk2 => oQ f2 zJA.2.2.1 hc.2.2.2.1 (by rw [zUQ, not_or]; exact ⟨hk, hkb⟩) ?_) (dM ?_ ?_)⟩
    ·rw [m6 k (by rw [zI7]; exact hk) hkb]; exact hk2
    ·rw [k3, hl1]
    ·intro i hi;have hi2 : i ∉ lpW wb sh := by rw [<- hwb]; exact hi
     unfold lpW at hi2;simp only [zUQ, not_or] at hi2;rw [zJA.2.2.2.1 i hi2.2.1, m5 i hi hi2.2.2.1 hi2.2.2.2]
 have out : ∀ {x s' e3 h3}, mkS P w sh ts os zHT h1 s' = some (e3, h3) -> WkP (qB env') (qB e3) -> qAX (qI h3.l) (qI h'.l) -> (K x g' e3 h3).run = some r -> ∃ pe' ph', Wk P nm (qB env') (qI h'.l) pe' ph' ∧ EQ P N w env h K r x g' pe' ph' := fun {x s' e3 h3} hm3 w1 w2 hk => by
  obtain ⟨g1, g2, g3, g4, g5⟩ := fin hm3;exact ⟨_, _, Wk.drop w1 w2, e3, h3, rfl, rfl, g1, g2, g3, g4.2.2.1, fun _ => g4, hk⟩
 cases ex with
 | normal =>
   simp only [qYM] at k5;split at k5
   case h_2 => cases k5
   rename_i s' hs';cases k5;obtain ⟨e3, h3, hm3, w1, w2⟩ := back (fun h => by cases h) hs';have hm3 : mkS P w sh ts os zHT h1 (g2 (gj g' s')) = some (e3, h3) := by rw [qK1]; exact hm3
   show zIX.normal = .normal ∧ WkP (qB env') (E (gj g' s')) ∧ qAX (Ph (gj g' s')) (qI h'.l) ∧ g' = g1 (gj g' s');rw [(hE hm3).1, (hE hm3).2, qL0];exact ⟨rfl, w1, w2, rfl⟩
 | exit j =>
   simp only [qYM] at k5;split at k5
   case h_2 => cases k5
   rename_i s' hs';obtain ⟨e3, h3, hm3, w1, w2⟩ := back (fun h => by cases h) hs';cases k5;intro hqe;refine ⟨fun h => by (cases h), ?_⟩
   cases hj : Nat.beq j id with
   | true =>
     rw [hj] at hqe;subst hqe;have hjj : j = id := zTZ hj;subst hjj;obtain ⟨e4, h4, hm4, hk⟩ := tV hafter;rw [qK1, hm3] at hm4;cases hm4;rw [qL0] at hk;exact BQY.on (out hm3 w1 w2 hk)
   | false =>
     rw [hj] at hqe;subst hqe;have hjj : j ≠ id := fun h => by rw [h, nP] at hj; cases hj
     obtain ⟨e4, h4, hm4, hk⟩ := tV (qRY hafter);rw [qK1, hm3] at hm4;cases hm4;rw [qL0, qK1] at hk;exact BQY.ex hjj (out hm3 w1 w2 hk)
 | ret =>
   simp only [qYM] at k5;split at k5
   case h_2 => cases k5
   rename_i v hv;cases k5;intro hqe;subst hqe;have hbr : Keep hb h' := (zLJ.trans f5).trans k0;have hkp := hrd.kept _ _ _ k2 k1 hbr hv
   have hkh : ∀ k o, slk k hb.l = some o -> slk k h.l = some o := fun k o hk => by
    have h2 := hkp k o hk;have hw : o.w < h.next := zUA (hrd.ob.ver k o hk) hbh.next;have zNT : Keep h h' := (zII.2.2.1.trans f5).trans k0;exact zNT.same k o h2 hw
   have hkeep : Keep h ⟨h.next, hb.l⟩ := ⟨zT0 _, fun k ob hk _ => hkh k ob hk, fun k el gr g w t xs hk _ => ⟨w, xs, hkh k _ hk, rfl⟩⟩
   have hafter : (K .ret (g1 (gj g' v)) (en (g2 (gj g' v))) ⟨h.next, hb.l⟩).run = some r := hafter;rw [qL0, qK1] at hafter;refine ⟨fun h => by (cases h), BQY.rt ⟨_, _, hrd.wk _ _ _ k2 k1 k3 hbr hv, en v, ⟨h.next, hb.l⟩, rfl, rfl, hrd.ok v _, q5H hrd.ob hbh.next, hrd.len v, hkeep, fun h => absurd rfl h, hafter⟩⟩
 | goto l => simp only [qYM] at k5; cases k5
end
end Go.Sv
namespace Go.Sv
open Go.Idl
variable {d1 d2 id j k rid v : Nat} {e : List PV} {env zHT : List SV} {h h1 hb : SH} {o1 o2 : Oper} {ops : Array Oper} {ph : PHp} {sh : Sh} {t : TypeId} {w wb : List Nat} {x : Operand} {y : Code}
noncomputable section
variable [Gc]
variable [Yl]
variable {P : Program} {Γ : Option Type} {R : Type} {r : R} {nm : Nm} {G : Nat -> Bool} {rd : Bool} {N : Nat} {rs : List Ty} {tab : gY} {nat : xI} {good : FuncId -> Bool} {wd : Wld (GV Γ)}
def swp (k : Nat) (o : SO) (h : SH) : SH := ⟨h.next, sst k o h.l⟩
omit [Yl] in
theorem qZT {k j : Nat} {o : SO} (hj : j ≠ k) : ∀ (l : List (Nat × SO)), sdl j (sst k o l) = sst k o (sdl j l)
 | [] => rfl
 | (i, p) :: l => by
   have ih := qZT (o := o) hj l;by_cases h1 : k = i
   ·subst h1;have e1 : sst k o ((k, p) :: l) = (k, o) :: l := by show cond (k == k) _ _ = _; simp
    have hjk : (j == k) = false := by simpa using hj
    rw [e1];show cond (j == k) (sdl j l) ((k, o) :: sdl j l) = sst k o (cond (j == k) (sdl j l) ((k, p) :: sdl j l));rw [hjk];show _ = cond (k == k) ((k, o) :: sdl j l) _;simp
   ·have hki : (k == i) = false := by simpa using h1
    have e1 : sst k o ((i, p) :: l) = (i, p) :: sst k o l := by show cond (k == i) _ _ = _; rw [hki]; rfl
    rw [e1];show cond (j == i) (sdl j (sst k o l)) ((i, p) :: sdl j (sst k o l)) = sst k o (cond (j == i) (sdl j l) ((i, p) :: sdl j l));rw [ih]
    cases j == i with
    | true => rfl
    | false =>
      show _ = cond (k == i) _ ((i, p) :: sst k o (sdl j l));rw [hki]; rfl
omit [Yl] in
theorem qV2 {o : SO} {f : Nat -> SO} (hj : j ≠ k) : ((swp k o h).del j).new j f = swp k o ((h.del j).new j f) := by
 show (⟨h.next + 1, (j, f h.next) :: sdl j (sst k o h.l)⟩ : SH) = ⟨h.next + 1, sst k o ((j, f h.next) :: sdl j h.l)⟩;have hkj : (k == j) = false := by simpa using Ne.symm hj
 have : sst k o ((j, f h.next) :: sdl j h.l) = (j, f h.next) :: sst k o (sdl j h.l) := by show cond (k == j) _ _ = _; rw [hkj]; rfl
 rw [this, qZT hj]
omit [Yl] in
theorem qPZ {k : Nat} {o : SO} : ∀ {os : List (Nat × Bool)} {l : List SV} {h : SH}, k ∉ os.map (·.1) -> qTU P os l (swp k o h) = (qTU P os l h).map (swp k o)
 | [], [], h, _ => rfl
 | [], _ :: _, h, _ => rfl
 | _ :: _, [], h, _ => rfl
 | (j, gr) :: ks, c :: l, h, hk => by
   simp only [zUB, zUD, not_or] at hk;unfold qTU
   cases q6N P gr c with
   | none => rfl
   | some f =>
     simp only;rw [qV2 (Ne.symm hk.1), qPZ hk.2]
omit [Yl] in
theorem qH6 {k kb w : Nat} {v v' : Nat} {x y : SpO} {h : SH} (hs : slk k h.l = some (.spc v x)) : ∀ (ds : List (Option Nat)) (l : List SV), mkB kb w ds l (swp k (.spc v' y) h) = mkB kb w ds l h
 | [], l => rfl
 | none :: ds, [] => rfl
 | none :: ds, c :: l => by
   unfold mkB;rw [qH6 hs ds l]
 | some i :: ds, l => by
   unfold mkB
   cases q84 i with
   | true =>
     simp only [cond_true]
     cases l with
     | nil => rfl
     | cons c l' => simp only [qH6 hs ds l']
   | false =>
     simp only [cond_false, qH6 hs ds l];by_cases hi : i = k
     ·subst hi;rw [show (swp i (.spc v' y) h).l = sst i (.spc v' y) h.l from rfl, qCW hs, hs]
     ·rw [show (swp k (.spc v' y) h).l = sst k (.spc v' y) h.l from rfl, vU hi]
omit [Yl] in
theorem qRK {k : Nat} {v v' : Nat} {x y : SpO} {h1 : SH} (hs1 : slk k h1.l = some (.spc v x)) : ∀ {bs : List (Nat × List (Option Nat))} {l : List SV} {h : SH} {u : Nat} {z : SpO}, slk k h.l = some (.spc u z) -> k ∉ bs.map (·.1) ->
 qT2 (swp k (.spc v' y) h1) bs l (swp k (.spc v' y) h) = (qT2 h1 bs l h).map (swp k (.spc v' y))
 | [], l, h, u, z, hs, _ => rfl
 | (j, ds) :: bs, l, h, u, z, hs, hk => by
   simp only [zUB, zUD, not_or] at hk;unfold qT2;rw [show (swp k (.spc v' y) h1).l = sst k (.spc v' y) h1.l from rfl, vU (Ne.symm hk.1)];split
   ·rename_i el w0 l0 _;rw [qH6 hs]
    cases mkB j (List.length ds) ds l h with
    | none => rfl
    | some p =>
      simp only;rw [qV2 (Ne.symm hk.1)];refine qRK hs1 (u := u) (z := z) ?_ hk.2;show slk k ((j, _) :: sdl j h.l) = _;rw [zJ hk.1, yP hk.1];exact hs
   ·rfl
omit [Yl] in
theorem qHG {k : Nat} {v v' : Nat} {x y : SpO} {h : SH} (hs : slk k h.l = some (.spc v x)) : ∀ (l : List (Nat × Nat)) (env : List SV), qTY l (swp k (.spc v' y) h) env = qTY l h env
 | [], env => rfl
 | (i, j) :: l, env => by
   unfold qTY
   cases Nat.ble mkM j with
   | true => exact qHG hs l _
   | false =>
     simp only [cond_false];by_cases hi : j = k
     ·subst hi;rw [show (swp j (.spc v' y) h).l = sst j (.spc v' y) h.l from rfl, qCW hs, hs]
     ·rw [show (swp k (.spc v' y) h).l = sst k (.spc v' y) h.l from rfl, vU hi];split
      ·exact qHG hs l _
      ·rfl
theorem qWU {k : Nat} : ∀ {os : List (Nat × Bool)} {l : List SV} {h h2 : SH}, k ∉ os.map (·.1) -> qTU P os l h = some h2 -> slk k h2.l = slk k h.l
 | [], [], h, h2, _, e => by cases e; rfl
 | [], _ :: _, h, h2, _, e => by cases e
 | _ :: _, [], h, h2, _, e => by cases e
 | (j, gr) :: ks, c :: l, h, h2, hk, e => by
   simp only [zUB, zUD, not_or] at hk;obtain ⟨f, _, e1⟩ := qDO e;rw [qWU hk.2 e1];show slk k ((j, _) :: sdl j h.l) = _;rw [zJ hk.1, yP hk.1]
omit [Yl] in
theorem qU5 {k : Nat} {h1 : SH} : ∀ {bs : List (Nat × List (Option Nat))} {l : List SV} {h h2 : SH}, k ∉ bs.map (·.1) -> qT2 h1 bs l h = some h2 -> slk k h2.l = slk k h.l
 | [], l, h, h2, _, e => by cases e; rfl
 | (j, ds) :: bs, l, h, h2, hk, e => by
   simp only [zUB, zUD, not_or] at hk;unfold qT2 at e;split at e
   ·split at e
    ·rw [qU5 hk.2 e];show slk k ((j, _) :: sdl j h.l) = _;rw [zJ hk.1, yP hk.1]
    ·cases e
   ·cases e
theorem q54 {W : List Nat} {ts : List Ty} {os : List (Nat × Bool)} {s : TyL ts} {v' : Nat} {x y : SpO} (hs : slk k h.l = some (.spc v x)) (hk : k ∉ os.map (·.1)) (hb : k ∉ sh.b.map (·.1)) :
 mkS P W sh ts os env (swp k (.spc v' y) h) s = (mkS P W sh ts os env h s).map fun p => (p.1, swp k (.spc v' y) p.2) := by
 unfold mkS;rw [qPZ hk]
 cases h2 : qTU P os ((mH sh.d (svL ts s) (blank W 0 env)).2.take os.length) h with
 | none => rfl
 | some h2' =>
   have hs2 : slk k h2'.l = some (.spc v x) := (qWU hk h2).trans hs;simp only [zT7];rw [qRK hs hs2 hb]
   cases h3 : qT2 h sh.b ((mH sh.d (svL ts s) (blank W 0 env)).2.drop os.length) h2' with
   | none => rfl
   | some h3' =>
     have hs3 : slk k h3'.l = some (.spc v x) := (qU5 hb h3).trans hs2;simp only [zT7];rw [qHG hs3];cases qTY sh.s h3' (mH sh.d (svL ts s) (blank W 0 env)).1 <;> rfl
def zHP.zNU {α : Type} (p : α -> Prop) (t : α -> zHP R) : zHP R := .bind (aR p fun a => (t a).run) .ret
omit [Yl] in
theorem qRI {α : Type} {p : α -> Prop} {t : α -> zHP R} (h : (zHP.zNU p t).run = some r) : ∀ a, p a -> (t a).run = some r := fun a ha => by
 obtain ⟨b, h1, h2⟩ := run_bind h;cases h2;exact o6 h1 a ha
def qFZ (e : List SV) (d : Nat) : Bool := match zL e d with
 | some .unk => true
 | _ => false
def zAV (k : Nat) (x : Operand) (d1 d2 : Nat) (e : List SV) : Bool := (match xQ e x with
 | .ref k' off w => Nat.beq k' k && (Nat.beq off 0 && Nat.beq w 4)
 | _ => false) && (qFZ e d1 && qFZ e d2)
def hI (h1 : SH) (k : Nat) (t : TypeId) (j since last : Nat) (seen : List Nat) : SH := h1.put k fun v => .spc v (.mit t j since last seen)
def qVB (ab : Ab) (k : Nat) (x : Operand) (d1 d2 : Nat) (sh : Sh) (os : List (Nat × Bool)) (ts : List Ty) (mk : TyL ts -> Option (List SV × SH)) (h1 hh : SH) : wP Γ (GS Γ (ab.A ts)) := fun e g env h => match e with
 | .normal => (match bk sh os ts mk h1 hh env h with
   | some s => (match mk s with
     | some p => cond (zAV k x d1 d2 p.1) (.ret (gj g (ab.f ts s))) .fail
     | none => .fail)
   | none => .fail)
 | _ => .fail
def mrT (P : Program) (G : Nat -> Bool) (w : List Nat) (sh : Sh) (ab : Ab) (ops : Array Oper) (x : Operand) (d1 d2 : Nat) (k : Nat) (t : TypeId) (j : Nat) (es : List (Value × Value)) (body : ∀ {R' : Type}, GV Γ -> List SV -> SH -> wP Γ R' -> zHP R') (g : GV Γ) (zHT : List SV) (h1 : SH) (K : wP Γ R) : zHP R :=
 match qHU sh.d zHT, qVU sh.o (hI h1 k t j (List.length es) 0 []), qCT sh.b (hI h1 k t j (List.length es) 0 []), q5R sh.o (hI h1 k t j (List.length es) 0 []) with
  | some a, some b, some c, some os => (match zCY (a ++ (b ++ c)) with
    | some ts => (match qA9 ts (a ++ (b ++ c)) with
      | some s0 => (match mkS P w sh ts os zHT (hI h1 k t j (List.length es) 0 []) s0 with
        | some p0 => cond ((qD8 sh.s zHT (hI h1 k t j (List.length es) 0 []) && qC5 (sh.b.map (·.1)) sh.b (hI h1 k t j (List.length es) 0 []) (hI h1 k t j (List.length es) 0 [])) && (spec P 1000000001 && (spec P 1000000002 && (!(j == k) && (!qFL k sh.o && (!qFL k (sh.b.map (·.1)) && (!qFL j sh.o && (!qFL j (sh.b.map (·.1)) && (zAV k x d1 d2 p0.1 && fF G ops)))))))))
          (cond (es.all fun p => zG p.1) (.bind (wX (List.length es) (fun i a => aR (fun p : List Nat × GS Γ (TyL ts) => gj (g1 p.2) (ab.f ts (g2 p.2)) = a) fun p => zHP.run (goS (mkS P w sh ts os zHT (hI h1 k t j (List.length es) (i + 1) p.1) (g2 p.2)) fun e hh =>
            body (g1 p.2) e hh (qVB ab k x d1 d2 sh os ts (mkS P w sh ts os zHT (hI h1 k t j (List.length es) (i + 1) p.1)) (hI h1 k t j (List.length es) (i + 1) p.1) hh))) (gj g (ab.f ts s0)))
            fun a => zHP.zNU (fun p : List Nat × GS Γ (TyL ts) => gj (g1 p.2) (ab.f ts (g2 p.2)) = a) fun p => goS (mkS P w sh ts os zHT (hI h1 k t j (List.length es) 0 p.1) (g2 p.2)) fun e hh => K .normal (g1 p.2) e hh) .fail) .fail
        | none => .fail)
      | none => .fail)
    | none => .fail)
  | _, _, _, _ => .fail
def q5D (P : Program) (G : Nat -> Bool) (nm : Nm) (w : List Nat) (sh : Sh) (ab : Ab) (ops : Array Oper) (x : Operand) (d1 d2 : Nat) (body : ∀ {R' : Type}, GV Γ -> List SV -> SH -> wP Γ R' -> zHP R') (g : GV Γ) (env : List SV) (h : SH) (K : wP Γ R) : zHP R :=
 qLJ P nm sh.v env h fun zHT h0 => qCD P nm sh.bv zHT h0 fun zHT h1 => match xQ zHT x with
  | .ref k _ _ => (match slk k h1.l with
    | some (.spc _ (.mit t j since 0 [])) => (match slk j h1.l with
      | some (.spc _ (.map es)) => cond (Nat.beq since (List.length es)) (mrT P G w sh ab ops x d1 d2 k t j es (fun {_} => body) g zHT h1 K) .fail
      | _ => .fail)
    | _ => .fail)
  | _ => .fail
omit [Yl] in
theorem qOQ {k : Nat} {o o' : SO} : ∀ (l : List (Nat × SO)), sst k o (sst k o' l) = sst k o l
 | [] => rfl
 | (i, p) :: l => by
   show sst k o (cond (k == i) ((i, o') :: l) ((i, p) :: sst k o' l)) = cond (k == i) ((i, o) :: l) ((i, p) :: sst k o l)
   cases h : k == i with
   | true =>
     show cond (k == i) ((i, o) :: l) _ = _;rw [h]; rfl
   | false =>
     show cond (k == i) _ ((i, p) :: sst k o (sst k o' l)) = _;rw [h, qOQ l]; rfl
omit [Yl] in
theorem zAT {since la : Nat} {seen : List Nat} : hI h1 k t j since la seen = swp k (.spc h1.next (.mit t j since la seen)) (hI h1 k t j since 0 []) := by
 show (⟨h1.next + 1, sst k (.spc h1.next (.mit t j since la seen)) h1.l⟩ : SH) = ⟨h1.next + 1, sst k (.spc h1.next (.mit t j since la seen)) (sst k (.spc h1.next (.mit t j since 0 [])) h1.l)⟩;rw [qOQ]
omit [Yl] in
theorem bZ : ∀ (n : Nat) (es : List (Value × Value)), ∀ e ∈ zQ n es, e.born < n + es.length ∧ ∃ p ∈ es, e.key = p.1
 | n, [], e, h => by simp [zQ] at h
 | n, p :: es, e, h => by
   have h : e ∈ (⟨p.1, p.2, n⟩ : MapEntry) :: zQ (n + 1) es := h;rcases zUD.1 h with rfl | h
   ·exact ⟨by simp, p, by simp, rfl⟩
   ·obtain ⟨h1, q, h2, h3⟩ := bZ (n + 1) es e h;exact ⟨by rw [zUI]; omega, q, by simp [h2], h3⟩
omit [Yl] in
theorem q23 {e : List SV} (h : zAV k x d1 d2 e = true) : xQ e x = .ref k 0 4 ∧ zL e d1 = some .unk ∧ zL e d2 = some .unk := by
 unfold zAV at h;simp only [zTY] at h;obtain ⟨h1, h2, h3⟩ := h;refine ⟨?_, ?_, ?_⟩
 ·split at h1
  ·rename_i k' off w hs;simp only [zTY] at h1;rw [hs, zTZ h1.1, zTZ h1.2.1, zTZ h1.2.2]
  ·cases h1
 ·unfold qFZ at h2;split at h2
  ·assumption
  ·cases h2
 ·unfold qFZ at h3;split at h3
  ·assumption
  ·cases h3
omit [Yl] in
theorem qBY {k : Nat} {o : PO} : ∀ {l : PHp}, qD k l = some o -> xP k o l = l
 | [], h => rfl
 | (i, p) :: l, h => by
   have h : cond (k == i) (some p) (qD k l) = some o := h;show cond (k == i) ((i, o) :: l) ((i, p) :: xP k o l) = _
   cases hk : k == i with
   | true => rw [hk] at h; cases h; rfl
   | false => rw [hk] at h; rw [cond_false, qBY h]
omit [Yl] in
theorem qJC {w : Wld (GV Γ)} {tab : gY} {ds : List (Option Tmp)} {b : Bool} {rest : List PV} {y : PV} {Q : GV Γ -> List PV -> PHp -> Prop} {g : GV Γ} (zJY : o2.op = .extract (.tmp d1) 0) (h2d : o2.dst = some d2) (h2g : o2.guard = none) (hn : zL e d1 = some y)
 (h : Q g (yT (yT e d1 (.tup (fvv (.bool b) :: rest))) d2 (fvv (.bool b))) ph) : (pops P tab (fun _ => false) nm ds [o2] (yO e (some d1) (.tup (fvv (.bool b) :: rest))) ph).zIC P G w Q g := by
 have hlt : d1 < e.length := by
  rw [qF] at hn;exact (zT2.1 hn).1
 have hv : qN (yT e d1 (.tup (fvv (.bool b) :: rest))) (.tmp d1) = .tup (fvv (.bool b) :: rest) := by
  show (zL (yT e d1 _) d1).getD .unk = _;rw [qF, qV, List.getElem?_set_self hlt]; rfl
 have hx : gZ P tab (fun _ => false) (zM nm o2.dst) o2 (yT e d1 (.tup (fvv (.bool b) :: rest))) ph = .ok (fvv (.bool b)) ph := by
  unfold gZ;simp only [zJY];unfold q27;simp only [zJY];unfold qDS;simp only [zJY, hv];rfl
 have hpw : fC ds o2 (yT e d1 (.tup (fvv (.bool b) :: rest))) = some true := by unfold fC; rw [h2g]
 unfold pops;rw [qSE, hpw, hx];simp only [wN];have zPX : needs o2.op = false := by rw [zJY]; rfl
 unfold q6Z;rw [zPX];simp only [cond_false];unfold pops;rw [h2d];exact h
omit [Yl] in
theorem qRS {u v : PV} (h1 : zL e d1 = some .unk) (h2 : zL e d2 = some .unk) : WkP (yT (yT e d1 u) d2 v) e := by
 refine qKA (by rw [qV, qV, zUY, zUY]) fun i => ?_
 by_cases hi2 : i = d2
 ·subst hi2; exact .inr h2
 ·by_cases hi1 : i = d1
  ·subst hi1; exact .inr h1
  ·left
   rw [qF, qF, qV, qV, zXJ (fun h => hi2 h.symm), zXJ (fun h => hi1 h.symm)]
theorem zBY {ab : Ab} {body : ∀ {R' : Type}, GV Γ -> List SV -> SH -> wP Γ R' -> zHP R'} (s : zIN P good nat G tab) (hwb : w = lpW wb sh)
 (hops : ops.toList = [o1, o2]) (zNV : o1.op = .next x false) (h1d : o1.dst = some d1) (h1g : o1.guard = none) (zJY : o2.op = .extract (.tmp d1) 0) (h2d : o2.dst = some d2) (h2g : o2.guard = none)
 (hbody : ∀ {R' : Type} {g : GV Γ} {env : List SV} {h : SH} {K : wP Γ R'} {r : R'}, OkH P h -> okL h env -> env.length = N -> Keep hb h -> (body g env h K).run = some r -> qU P G rd nm wd y g (qB env) (qI h.l) (EQ P N wb env h K r))
 {es : List (Value × Value)} {g : GV Γ} {K : wP Γ R} {v2 : Nat} (hk : slk k h1.l = some (.spc v (.mit t j es.length 0 []))) (hj : slk j h1.l = some (.spc v2 (.map es))) (ho : OkH P h1) (he : okL h1 zHT) (hl : zHT.length = N) (hbh : Keep hb h1)
 (e : (mrT P G w sh ab ops x d1 d2 k t j es body g zHT h1 K).run = some r) :
 qU P G rd nm wd (.block id (.loop (.seq (.region rid ops false) (.seq (.cond (.tmp d2) .skip (.exit id)) y)))) g (qB zHT) (qI h1.l) (EQ P N w zHT h1 K r) := by
 unfold mrT at e;split at e
 case h_2 => cases e
 rename_i a b c os ha hb1 hc1 hos;split at e
 case h_2 => cases e
 rename_i ts hts;split at e
 case h_2 => cases e
 rename_i s0 hs0;split at e
 case h_2 => cases e
 rename_i p0 hp0;obtain ⟨e00, zLK⟩ := p0;obtain ⟨hc, e1⟩ := qH e;simp only [zTY, zU0] at hc;obtain ⟨hplain, e1⟩ := qH e1;obtain ⟨⟨hown, zI6⟩, hsp1, hsp2, zR9, hko, hkb, hjo, hjb, zSA, hok⟩ := hc;have hjk : j ≠ k := by simpa using zR9
 have zMC : ∀ {i : Nat} {l : List Nat}, qFL i l = false -> i ∉ l := fun h hm => by rw [gW.2 hm] at h; cases h
 obtain ⟨q, hq, hafter⟩ := run_bind e1;have zI7 := qAF hos;have zNW : k ∉ os.map (·.1) := by rw [zI7]; exact zMC hko
 have zSB : j ∉ os.map (·.1) := by rw [zI7]; exact zMC hjo
 have zNX := zMC hkb;have zSC := zMC hjb;have hput : ∀ la seen, Keep h1 (hI h1 k t j es.length la seen) ∧ OkH P (hI h1 k t j es.length la seen) := fun la seen => bS (f := fun v => .spc v (.mit t j es.length la seen)) ho hk rfl
 have zNY : ∀ la seen, slk k (hI h1 k t j es.length la seen).l = some (.spc h1.next (.mit t j es.length la seen)) := fun la seen => qCW hk
 have zSD : ∀ la seen, slk j (hI h1 k t j es.length la seen).l = some (.spc v2 (.map es)) := fun la seen => (vU hjk _).trans hj
 have hsw : ∀ la seen (st : TyL ts), mkS P w sh ts os zHT (hI h1 k t j es.length la seen) st = (mkS P w sh ts os zHT (hI h1 k t j es.length 0 []) st).map fun p => (p.1, swp k (.spc h1.next (.mit t j es.length la seen)) p.2) := fun la seen st => by
  rw [zAT]; exact q54 (zNY 0 []) zNW zNX
 let E : GS Γ (TyL ts) -> List PV := fun st => match mkS P w sh ts os zHT (hI h1 k t j es.length 0 []) (g2 st) with
  | some p => qB p.1
  | none => []
 let Ph : Nat -> List Nat -> GS Γ (TyL ts) -> PHp := fun la seen st => match mkS P w sh ts os zHT (hI h1 k t j es.length 0 []) (g2 st) with
  | some p => qI (swp k (.spc h1.next (.mit t j es.length la seen)) p.2).l
  | none => []
 let Gd : GS Γ (TyL ts) -> Prop := fun st => ∃ e2 hh, mkS P w sh ts os zHT (hI h1 k t j es.length 0 []) (g2 st) = some (e2, hh) ∧ zAV k x d1 d2 e2 = true
 have hE : ∀ {st e2 hh}, mkS P w sh ts os zHT (hI h1 k t j es.length 0 []) (g2 st) = some (e2, hh) -> E st = qB e2 ∧ ∀ la seen, Ph la seen st = qI (swp k (.spc h1.next (.mit t j es.length la seen)) hh).l := fun hm => by
  simp only [E, Ph, hm, and_self, implies_true]
 have fin : ∀ {st e2 hh}, mkS P w sh ts os zHT (hI h1 k t j es.length 0 []) st = some (e2, hh) -> ∀ la seen, mkS P w sh ts os zHT (hI h1 k t j es.length la seen) st = some (e2, swp k (.spc h1.next (.mit t j es.length la seen)) hh) ∧ okL (swp k (.spc h1.next (.mit t j es.length la seen)) hh) e2 ∧ OkH P (swp k (.spc h1.next (.mit t j es.length la seen)) hh) ∧ e2.length = N ∧
  kW P w zHT h1 e2 (swp k (.spc h1.next (.mit t j es.length la seen)) hh) ∧ Keep (hI h1 k t j es.length la seen) (swp k (.spc h1.next (.mit t j es.length la seen)) hh) ∧ slk k (swp k (.spc h1.next (.mit t j es.length la seen)) hh).l = some (.spc h1.next (.mit t j es.length la seen)) ∧ slk j (swp k (.spc h1.next (.mit t j es.length la seen)) hh).l = some (.spc v2 (.map es)) := fun {st e2 hh} hm la seen => by
  have hm2 : mkS P w sh ts os zHT (hI h1 k t j es.length la seen) st = some (e2, swp k (.spc h1.next (.mit t j es.length la seen)) hh) := by rw [hsw, hm]; rfl
  obtain ⟨a1, a2, a3, a4, a5, a6⟩ := mK (hput la seen).2 (qL (hput la seen).1 he) hm2;refine ⟨hm2, a3, a2, a4.trans hl, ⟨a3, a2, (hput la seen).1.trans a1, fun i hi => ?_, a4⟩, a1, (a6 k zNW zNX).trans (zNY la seen), (a6 j zSB zSC).trans (zSD la seen)⟩;have hi2 : i ∉ lpW wb sh := by rw [<- hwb]; exact hi
  unfold lpW at hi2;simp only [zUQ, not_or] at hi2;exact a5 i hi hi2.2.2.1 hi2.2.2.2
 have zSE : qI (hI h1 k t j es.length 0 []).l = qI h1.l := by
  rw [show (hI h1 k t j es.length 0 []).l = sst k (.spc h1.next (.mit t j es.length 0 [])) h1.l from rfl, jC];have hk9 := yL hk;exact qBY (show qD k (qI h1.l) = some (SO.enc (.spc h1.next (.mit t j es.length 0 []))) from hk9)
 obtain ⟨z1, z2, z3, z4, z5, z6, z7, z8⟩ := fin hp0 0 [];obtain ⟨_, _, _, _, y5, y6⟩ := mK (hput 0 []).2 (qL (hput 0 []).1 he) hp0;have hhk : slk k zLK.l = some (.spc h1.next (.mit t j es.length 0 [])) := (y6 k zNW zNX).trans (zNY 0 []);obtain ⟨wp0, sp0⟩ := qSK (hput 0 []).2 (hput 0 []).2 (qL (hput 0 []).1 he) ha hb1 hc1 hs0 hp0 zI7 (qHL hos) hown zI6 (fun k o _ _ hk => yL hk) (dM rfl fun _ _ => rfl);have hm0 : mkS P w sh ts os zHT (hI h1 k t j es.length 0 []) (g2 (gj g s0)) = some (e00, zLK) := by rw [qK1]; exact hp0
 refine qU.post (qU.zPY Gd E Ph g1 (fun st => gj (g1 st) (ab.f ts (g2 st))) es.length (s0 := gj g s0) (r := q) (by rw [qL0, qK1]; exact hq) (by rw [(hE hm0).1]; exact wp0) ?_ qL0.symm ⟨e00, zLK, hm0, zSA⟩ ?_)
 ·rw [(hE hm0).2, show (swp k (.spc h1.next (.mit t j es.length 0 [])) zLK).l = sst k (.spc h1.next (.mit t j es.length 0 [])) zLK.l from rfl, jC, qBY (yL hhk), <- zSE];exact sp0
 ·rintro la seen st ⟨e2, hh, hm, hhd⟩ hnext;rw [(hE hm).1, (hE hm).2];obtain ⟨f1, f2, f3, f4, f5, f6, f7, f8⟩ := fin hm la seen;obtain ⟨q1, q2, q3⟩ := q23 hhd;have u1 : zL (qB e2) d1 = some .unk := by rw [zF, q2]; simp [SV.enc]
  have u2 : zL (qB e2) d2 = some .unk := by rw [zF, q3]; simp [SV.enc]
  have hpx : qN (qB e2) x = .ref k 4 0 := by rw [qP, q1]; simp [SV.enc]
  obtain ⟨hpm, _⟩ := qMB (x := .mp j) hsp1 (show smp (.mp j) (swp k (.spc h1.next (.mit t j es.length la seen)) hh) = some (j, es) by unfold smp; simp only [f8])
  have hpm : vX P (.mp j) (qI (swp k (.spc h1.next (.mit t j es.length la seen)) hh).l) = some (j, (SpO.map es).enc, es.length, zQ 0 es) := by
   have : (SV.mp j).enc = .mp j := by simp [SV.enc]
   rw [this] at hpm; exact hpm
  have hset : ∀ la' seen', xP k (qZD (.mp j) es.length la' seen') (qI (swp k (.spc h1.next (.mit t j es.length la seen)) hh).l) = qI (swp k (.spc h1.next (.mit t j es.length la' seen')) hh).l := fun la' seen' => by
   show xP k _ (qI (sst k (.spc h1.next (.mit t j es.length la seen)) hh.l)) = qI (sst k (.spc h1.next (.mit t j es.length la' seen')) hh.l);rw [<- qOQ (o := .spc h1.next (.mit t j es.length la' seen')) (o' := .spc h1.next (.mit t j es.length la seen)) hh.l, jC (o := .spc h1.next (.mit t j es.length la' seen'))];rfl
  have hlast : ∀ (bb : Bool) (rest : List PV), (yT (yT (qB e2) d1 (.tup (fvv (.bool bb) :: rest))) d2 (fvv (.bool bb))).length = (qB e2).length ∧ qN (yT (yT (qB e2) d1 (.tup (fvv (.bool bb) :: rest))) d2 (fvv (.bool bb))) (.tmp d2) = fvv (.bool bb) := fun bb rest => by
   have hlt : d2 < (qB e2).length := by
    rw [qF] at u2;exact (zT2.1 u2).1
   refine ⟨by rw [qV, qV, zUY, zUY], ?_⟩;show (zL (yT (yT (qB e2) d1 _) d2 _) d2).getD .unk = _;rw [qF, qV, List.getElem?_set_self (by rw [qV, zUY]; exact hlt)]; rfl
  refine qU.seq (s.zMD (inl := fun _ => false) hok hops zNV h1g hpx (yL f7) hsp2 hjk hpm (fun en hen => by have := (bZ 0 es en hen).1; omega) (fun en hen => by
   obtain ⟨_, p, hp, hkey⟩ := bZ 0 es en hen
   rw [hkey]; exact zT3.1 hplain p hp) ?_ ?_)
  ·intro hall;rw [h1d];refine qJC zJY h2d h2g u1 ?_;show qU P G rd nm wd (.seq (.cond (.tmp d2) .skip (.exit id)) y) (g1 st) _ _ _;refine qU.seq (qU.cond (t := false) rfl (hlast false []).2 (fun h => by cases h) fun _ => qU.exit (.inl ⟨fun h => (by cases h), fun i hi => ?_, fun hα => ?_⟩))
   ·have hlt : i < es.length := hi;have hg : (zQ 0 es)[i]? = some ⟨es[i].1, es[i].2, 0 + i⟩ := by rw [vC, zT1 hlt]; rfl
    have := hall _ (zUP hg);simpa using this
   ·refine BQY.on ?_;have ha2 := qRI hafter (seen, st) hα;obtain ⟨e4, h4, hm4, hkk⟩ := tV ha2;obtain ⟨m1, m2, m3, m4, m5, m6, m7, m8⟩ := fin hm 0 seen;rw [m1] at hm4;cases hm4;rw [hset];exact ⟨_, _, Wk.drop (qRS u1 u2) (qAX.refl _), e2, _, rfl, rfl, m2, m3, m4, m5.2.2.1, fun _ => m5, hkk⟩
  ·intro en hen hns;rw [h1d];refine qJC zJY h2d h2g u1 ?_;show qU P G rd nm wd (.seq (.cond (.tmp d2) .skip (.exit id)) y) (g1 st) _ _ _;refine qU.seq (qU.cond (t := true) rfl (hlast true _).2 (fun _ => qU.skip ?_) (fun h => by cases h));show qU P G rd nm wd y (g1 st) _ _ _;have hb0 := (bZ 0 es en hen).1;have hlt : en.born < es.length := by omega
   obtain ⟨m1, m2, m3, m4, m5, m6, m7, m8⟩ := fin hm (en.born + 1) (insertSorted en.born seen);obtain ⟨q', hq'⟩ := hnext en.born hlt hns;have hr2 := o6 hq' (insertSorted en.born seen, st) rfl;obtain ⟨e4, h4, hm4, hkk⟩ := tV hr2;rw [m1] at hm4;cases hm4;rw [hset];refine qU.pre' (Wk.drop (qRS u1 u2) (qAX.refl _)) ((hbody m3 m2 m4 ((hbh.trans (hput _ _).1).trans m6) hkk).mono ?_);rintro ex g' pe ph ⟨env', h', rfl, rfl, k1, k2, k3, k0, k4, k5⟩
   cases ex with
   | normal =>
     simp only [qVB] at k5;split at k5
     case h_2 => cases k5
     rename_i s' hs';split at k5
     case h_2 => cases k5
     rename_i p3 hp3;obtain ⟨e3, h3⟩ := p3;obtain ⟨zSF, k6⟩ := qH k5;cases k6;have zJA := k4 (fun h => by cases h);unfold bk at hs';split at hs'
     case h_2 => cases hs'
     rename_i a' b' c' ha' hb' hc';split at hs'
     case h_2 => cases hs'
     rename_i s2 hs2
     cases hcc : (q05 os h' && (qD8 sh.s env' h' && (qC5 (sh.b.map (·.1)) sh.b (hI h1 k t j es.length (en.born + 1) (insertSorted en.born seen)) h' && (eX (sh.o ++ sh.b.map (·.1)) (swp k (.spc h1.next (.mit t j es.length (en.born + 1) (insertSorted en.born seen))) hh) h' && (mkS P w sh ts os zHT (hI h1 k t j es.length (en.born + 1) (insertSorted en.born seen)) s2).isSome)))) with
     | false => rw [hcc] at hs'; cases hs'
     | true =>
       rw [hcc] at hs';cases hs';simp only [zTY] at hcc;obtain ⟨_, _, _, _, mm5, mm6⟩ := mK (hput (en.born + 1) (insertSorted en.born seen)).2 (qL (hput _ _).1 he) m1
       obtain ⟨w1, w2⟩ := qSK k2 (hput (en.born + 1) (insertSorted en.born seen)).2 k1 ha' hb' hc' hs2 hp3 zI7 hcc.1 hcc.2.1 hcc.2.2.1 (fun i o hi hib hi2 => oQ m3 zJA.2.2.1 hcc.2.2.2.1 (by rw [zUQ, not_or]; exact ⟨hi, hib⟩) (by rw [mm6 i (by rw [zI7]; exact hi) hib]; exact hi2)) (dM (by rw [k3, hl]) fun i hi => by
        have hi2 : i ∉ lpW wb sh := by rw [<- hwb]; exact hi
        unfold lpW at hi2;simp only [zUQ, not_or] at hi2
        rw [zJA.2.2.2.1 i hi2.2.1, mm5 i hi hi2.2.2.1 hi2.2.2.2])
       cases hm5 : mkS P w sh ts os zHT (hI h1 k t j es.length 0 []) s' with
       | none => rw [hsw, hm5] at hp3; cases hp3
       | some p5 =>
         obtain ⟨e5, h5⟩ := p5;rw [hsw, hm5] at hp3;cases hp3;have hm6 : mkS P w sh ts os zHT (hI h1 k t j es.length 0 []) (g2 (gj g' s')) = some (e5, h5) := by rw [qK1]; exact hm5
         refine .inr ⟨rfl, en.born, gj g' s', hlt, hns, ?_, ?_, ?_, qL0.symm, ⟨e5, h5, hm6, zSF⟩⟩
         ·simp only [qL0, qK1]; exact hq'
         ·rw [(hE hm6).1]; exact w1
         ·rw [(hE hm6).2]; exact w2
   | exit i => simp only [qVB] at k5; cases k5
   | ret => simp only [qVB] at k5; cases k5
   | goto l => simp only [qVB] at k5; cases k5
theorem EQ.zPZ (hwb : w = lpW wb sh) {K : wP Γ R} {e : zIX} {g : GV Γ} {pe : List PV} (a : kW P (sh.v.map (·.1)) env h zHT h1) (b : EQ P N w zHT h1 K r e g pe ph) : EQ P N w env h K r e g pe ph := by
 obtain ⟨env', h', b1, b2, b3, b4, b5, b0, b6, b7⟩ := b;refine ⟨env', h', b1, b2, b3, b4, b5, a.2.2.1.trans b0, fun hne => (a.trans (b6 hne)).up fun i hi => ?_, b7⟩;rcases zUQ.1 hi with h | h
 ·rw [hwb]; unfold lpW; exact zV8 _ h
 ·exact h
theorem qYR {ab : Ab} {body : ∀ {R' : Type}, GV Γ -> List SV -> SH -> wP Γ R' -> zHP R'} (s : zIN P good nat G tab) (hwb : w = lpW wb sh)
 (hops : ops.toList = [o1, o2]) (zNV : o1.op = .next x false) (h1d : o1.dst = some d1) (h1g : o1.guard = none) (zJY : o2.op = .extract (.tmp d1) 0) (h2d : o2.dst = some d2) (h2g : o2.guard = none)
 (hbody : ∀ {R' : Type} {g : GV Γ} {env : List SV} {h : SH} {K : wP Γ R'} {r : R'}, OkH P h -> okL h env -> env.length = N -> Keep hb h -> (body g env h K).run = some r -> qU P G rd nm wd y g (qB env) (qI h.l) (EQ P N wb env h K r))
 {g : GV Γ} {env : List SV} {h : SH} {K : wP Γ R} (ho : OkH P h) (he : okL h env) (hl : env.length = N) (hbh : Keep hb h) (e : (q5D P G nm w sh ab ops x d1 d2 body g env h K).run = some r) :
 qU P G rd nm wd (.block id (.loop (.seq (.region rid ops false) (.seq (.cond (.tmp d2) .skip (.exit id)) y)))) g (qB env) (qI h.l) (EQ P N w env h K r) := by
 obtain ⟨zHT, h0, wk1, zIH, e⟩ := dG (nm := nm) ho he e;obtain ⟨h1, wk2, kp2, ho1, e⟩ := bJ (nm := nm) zIH.2.1 zIH.1 e
 have zII : kW P (sh.v.map (·.1)) env h zHT h1 := ⟨qL kp2 zIH.1, ho1, zIH.2.2.1.trans kp2, zIH.2.2.2.1, zIH.2.2.2.2⟩
 split at e
 case h_2 => cases e
 rename_i k _ _ hx;split at e
 case h_2 => cases e
 rename_i v t j since hk;split at e
 case h_2 => cases e
 rename_i v2 es hj;obtain ⟨hc, e1⟩ := qH e;have hsi := zTZ hc;subst hsi;exact qU.pre' (wk1.trans wk2) ((zBY s hwb hops zNV h1d h1g zJY h2d h2g hbody hk hj ho1 zII.1 (zII.2.2.2.2.trans hl) (hbh.trans zII.2.2.1) e1).mono fun _ _ _ _ hq => hq.zPZ hwb zII)
def qV6 (ab : Ab) (rdv : List SV -> SH -> Option (TyL rs)) (id : Nat) (sh : Sh) (os : List (Nat × Bool)) (ts : List Ty) (mk : TyL ts -> Option (List SV × SH)) (h1 hh : SH) : wP Γ (GS Γ (ab.A ts) ⊕ (GS Γ (ab.A ts) ⊕ GS Γ (TyL rs))) := fun e g env h => match e with
 | .normal => (match bk sh os ts mk h1 hh env h with
   | some s => .ret (.inl (gj g (ab.f ts s)))
   | none => .fail)
 | .exit j => (match bk sh os ts mk h1 hh env h with
   | some s => cond (Nat.beq j id) (.ret (.inr (.inl (gj g (ab.f ts s))))) .fail
   | none => .fail)
 | .ret => (match rdv env h with
   | some v => .ret (.inr (.inr (gj g v)))
   | none => .fail)
 | .goto _ => .fail
def qO6 (P : Program) (nm : Nm) (w : List Nat) (rdv : List SV -> SH -> Option (TyL rs)) (en : TyL rs -> List SV) (hb : SH) (sh : Sh) (ab : Ab) (id : Nat) (body : ∀ {R' : Type}, GV Γ -> List SV -> SH -> wP Γ R' -> zHP R') (g : GV Γ) (env : List SV) (h : SH) (K : wP Γ R) : zHP R :=
 qLJ P nm sh.v env h fun zHT h0 => qCD P nm sh.bv zHT h0 fun zHT h1 => match qHU sh.d zHT, qVU sh.o h1, qCT sh.b h1, q5R sh.o h1 with
  | some a, some b, some c, some os => (match zCY (a ++ (b ++ c)) with
    | some ts => (match qA9 ts (a ++ (b ++ c)) with
      | some s0 => cond ((qD8 sh.s zHT h1 && qC5 (sh.b.map (·.1)) sh.b h1 h1) && (mkS P w sh ts os zHT h1 s0).isSome)
         (.bind (qJ (fun a => aR (fun s : GS Γ (TyL ts) => gj (g1 s) (ab.f ts (g2 s)) = a) fun s => zHP.run (goS (mkS P w sh ts os zHT h1 (g2 s)) fun e hh => body (g1 s) e hh (qV6 ab rdv id sh os ts (mkS P w sh ts os zHT h1) h1 hh))) (gj g (ab.f ts s0)))
           fun q => zHP.sum q (fun a => zHP.zNU (fun s : GS Γ (TyL ts) => gj (g1 s) (ab.f ts (g2 s)) = a) fun s => goS (mkS P w sh ts os zHT h1 (g2 s)) fun e hh => K .normal (g1 s) e hh)
            fun v => K .ret (g1 v) (en (g2 v)) ⟨h.next, hb.l⟩) .fail
      | none => .fail)
    | none => .fail)
  | _, _, _, _ => .fail
theorem qWI {rdv : List SV -> SH -> Option (TyL rs)} {en : TyL rs -> List SV} (hrd : zJ8 P nm N hb rdv en) {ab : Ab} {body : ∀ {R' : Type}, GV Γ -> List SV -> SH -> wP Γ R' -> zHP R'} (hwb : w = lpW wb sh)
 (hbody : ∀ {R' : Type} {g : GV Γ} {env : List SV} {h : SH} {K : wP Γ R'} {r : R'}, OkH P h -> okL h env -> env.length = N -> Keep hb h -> (body g env h K).run = some r -> qU P G rd nm wd y g (qB env) (qI h.l) (EQ P N wb env h K r))
 {g : GV Γ} {env : List SV} {h : SH} {K : wP Γ R} (ho : OkH P h) (he : okL h env) (hl : env.length = N) (hbh : Keep hb h) (e : (qO6 P nm w rdv en hb sh ab id body g env h K).run = some r) :
 qU P G rd nm wd (.block id (.loop y)) g (qB env) (qI h.l) (EQ P N w env h K r) := by
 obtain ⟨zHT, h0, wk1, zIH, e⟩ := dG (nm := nm) ho he e;obtain ⟨h1, wk2, kp2, ho1, e⟩ := bJ (nm := nm) zIH.2.1 zIH.1 e
 have zII : kW P (sh.v.map (·.1)) env h zHT h1 := ⟨qL kp2 zIH.1, ho1, zIH.2.2.1.trans kp2, zIH.2.2.2.1, zIH.2.2.2.2⟩
 split at e
 case h_2 => cases e
 rename_i a b c os ha hb1 hc1 hos;split at e
 case h_2 => cases e
 rename_i ts hts;split at e
 case h_2 => cases e
 rename_i s0 hs0;obtain ⟨hown0, e1⟩ := qH e;rw [zTY] at hown0;obtain ⟨hown, hsome⟩ := hown0;rw [zTY] at hown;obtain ⟨q, hq, hafter⟩ := run_bind e1;have he1 := zII.1;have zI7 := qAF hos;have hl1 : zHT.length = N := zII.2.2.2.2.trans hl;have zLJ : Keep hb h1 := hbh.trans zII.2.2.1
 let E : GS Γ (TyL ts) -> List PV := fun s => match mkS P w sh ts os zHT h1 (g2 s) with
  | some p => qB p.1
  | none => []
 let Ph : GS Γ (TyL ts) -> PHp := fun s => match mkS P w sh ts os zHT h1 (g2 s) with
  | some p => qI p.2.l
  | none => []
 have hE : ∀ {s e2 h2}, mkS P w sh ts os zHT h1 (g2 s) = some (e2, h2) -> E s = qB e2 ∧ Ph s = qI h2.l := fun hm => by
  simp only [E, Ph, hm, and_self]
 obtain ⟨⟨e0, hh0⟩, zP0⟩ := zVD.1 hsome;have hm0 : mkS P w sh ts os zHT h1 (g2 (gj g s0)) = some (e0, hh0) := by rw [qK1]; exact zP0
 obtain ⟨wp0, sp0⟩ := qSK ho1 ho1 he1 ha hb1 hc1 hs0 zP0 zI7 (qHL hos) hown.1 hown.2 (fun k o _ _ hk => yL hk) (dM rfl fun _ _ => rfl)
 have fin : ∀ {s e2 h2}, mkS P w sh ts os zHT h1 s = some (e2, h2) -> okL h2 e2 ∧ OkH P h2 ∧ e2.length = N ∧ kW P w env h e2 h2 ∧ Keep h1 h2 := fun {s e2 h2} hm => by
  obtain ⟨a1, a2, a3, a4, a5, _⟩ := mK ho1 he1 hm;refine ⟨a3, a2, a4.trans hl1, ⟨a3, a2, zII.2.2.1.trans a1, fun i hi => ?_, a4.trans zII.2.2.2.2⟩, a1⟩;have hi2 : i ∉ lpW wb sh := by rw [<- hwb]; exact hi
  unfold lpW at hi2;simp only [zUQ, not_or] at hi2;rw [a5 i hi hi2.2.2.1 hi2.2.2.2, zII.2.2.2.1 i hi2.1]
 refine qU.post (qU.pre' (wk1.trans wk2) ?_);refine qU.zKM E Ph g1 (fun s => gj (g1 s) (ab.f ts (g2 s))) (s0 := gj g s0) (r := q) (by rw [qL0, qK1]; exact hq) (by rw [(hE hm0).1]; exact wp0) (by rw [(hE hm0).2]; exact sp0) qL0.symm ?_;intro s yy hstep;obtain ⟨e2, hh, hm, hb2⟩ := tV hstep;obtain ⟨f1, f2, f3, f4, f5⟩ := fin hm;rw [(hE hm).1, (hE hm).2];refine (hbody f2 f1 f3 (zLJ.trans f5) hb2).mono ?_;rintro ex g' pe ph ⟨env', h', rfl, rfl, k1, k2, k3, k0, k4, k5⟩;obtain ⟨_, _, _, m4, m5, m6⟩ := mK ho1 he1 hm
 have back : ∀ {s'}, ex ≠ .ret -> bk sh os ts (mkS P w sh ts os zHT h1) h1 hh env' h' = some s' -> ∃ e3 h3, mkS P w sh ts os zHT h1 s' = some (e3, h3) ∧ WkP (qB env') (qB e3) ∧ qAX (qI h3.l) (qI h'.l) := by
  intro s' hne hbk;unfold bk at hbk;split at hbk
  case h_2 => cases hbk
  rename_i a' b' c' ha' hb' hc';split at hbk
  case h_2 => cases hbk
  rename_i s2 hs2
  cases hc : (q05 os h' && (qD8 sh.s env' h' && (qC5 (sh.b.map (·.1)) sh.b h1 h' && (eX (sh.o ++ sh.b.map (·.1)) hh h' && (mkS P w sh ts os zHT h1 s2).isSome)))) with
  | false => rw [hc] at hbk; cases hbk
  | true =>
    rw [hc] at hbk;cases hbk;simp only [zTY] at hc;obtain ⟨⟨e3, h3⟩, hm3⟩ := zVD.1 hc.2.2.2.2;have zJA := k4 hne;refine ⟨e3, h3, hm3, qSK k2 ho1 k1 ha' hb' hc' hs2 hm3 zI7 hc.1 hc.2.1 hc.2.2.1 (fun k o hk hkb hk2 => oQ f2 zJA.2.2.1 hc.2.2.2.1 (by rw [zUQ, not_or]; exact ⟨hk, hkb⟩) ?_) (dM ?_ ?_)⟩
    ·rw [m6 k (by rw [zI7]; exact hk) hkb]; exact hk2
    ·rw [k3, hl1]
    ·intro i hi;have hi2 : i ∉ lpW wb sh := by rw [<- hwb]; exact hi
     unfold lpW at hi2;simp only [zUQ, not_or] at hi2;rw [zJA.2.2.2.1 i hi2.2.1, m5 i hi hi2.2.2.1 hi2.2.2.2]
 have out : ∀ {x s' e3 h3}, mkS P w sh ts os zHT h1 s' = some (e3, h3) -> WkP (qB env') (qB e3) -> qAX (qI h3.l) (qI h'.l) -> (K x g' e3 h3).run = some r -> ∃ pe' ph', Wk P nm (qB env') (qI h'.l) pe' ph' ∧ EQ P N w env h K r x g' pe' ph' := fun {x s' e3 h3} hm3 w1 w2 hk => by
  obtain ⟨g1, g2, g3, g4, g5⟩ := fin hm3;exact ⟨_, _, Wk.drop w1 w2, e3, h3, rfl, rfl, g1, g2, g3, g4.2.2.1, fun _ => g4, hk⟩
 cases ex with
 | normal =>
   simp only [qV6] at k5;split at k5
   case h_2 => cases k5
   rename_i s' hs';cases k5;obtain ⟨e3, h3, hm3, w1, w2⟩ := back (fun h => by cases h) hs';have hm3 : mkS P w sh ts os zHT h1 (g2 (gj g' s')) = some (e3, h3) := by rw [qK1]; exact hm3
   refine ⟨rfl, gj g' s', by simp only [qL0, qK1], ?_, ?_, qL0.symm⟩
   ·rw [(hE hm3).1]; exact w1
   ·rw [(hE hm3).2]; exact w2
 | exit j =>
   simp only [qV6] at k5;split at k5
   case h_2 => cases k5
   rename_i s' hs';obtain ⟨e3, h3, hm3, w1, w2⟩ := back (fun h => by cases h) hs';obtain ⟨hj, k6⟩ := qH k5;cases k6;intro hqe;refine ⟨fun h => by (cases h), ?_⟩;subst hqe;have hjj : j = id := zTZ hj;subst hjj;have ha2 := qRI hafter (gj g' s') (by simp only [qL0, qK1]);obtain ⟨e4, h4, hm4, hk⟩ := tV ha2;rw [qK1, hm3] at hm4;cases hm4;rw [qL0] at hk;exact BQY.on (out hm3 w1 w2 hk)
 | ret =>
   simp only [qV6] at k5;split at k5
   case h_2 => cases k5
   rename_i v hv;cases k5;intro hqe;subst hqe;have hbr : Keep hb h' := (zLJ.trans f5).trans k0;have hkp := hrd.kept _ _ _ k2 k1 hbr hv
   have hkh : ∀ k o, slk k hb.l = some o -> slk k h.l = some o := fun k o hk => by
    have h2 := hkp k o hk;have hw : o.w < h.next := zUA (hrd.ob.ver k o hk) hbh.next;have zNT : Keep h h' := (zII.2.2.1.trans f5).trans k0;exact zNT.same k o h2 hw
   have hkeep : Keep h ⟨h.next, hb.l⟩ := ⟨zT0 _, fun k ob hk _ => hkh k ob hk, fun k el gr g w t xs hk _ => ⟨w, xs, hkh k _ hk, rfl⟩⟩
   have hafter : (K .ret (g1 (gj g' v)) (en (g2 (gj g' v))) ⟨h.next, hb.l⟩).run = some r := hafter;rw [qL0, qK1] at hafter;refine ⟨fun h => by (cases h), BQY.rt ⟨_, _, hrd.wk _ _ _ k2 k1 k3 hbr hv, en v, ⟨h.next, hb.l⟩, rfl, rfl, hrd.ok v _, q5H hrd.ob hbh.next, hrd.len v, hkeep, fun h => absurd rfl h, hafter⟩⟩
 | goto l => simp only [qV6] at k5; cases k5
end
end Go.Sv
namespace Go.Sv
open Go.Idl
noncomputable section
variable [Gc]
variable [Yl]
variable {P : Program} {Γ : Option Type} {R : Type} {r : R} {nm : Nm} {G : Nat -> Bool} {rd : Bool} {N : Nat} {rs : List Ty} {tab : gY} {nat : xI} {good : FuncId -> Bool} {wd : Wld (GV Γ)}
omit [Yl] in
theorem qCE : ∀ {ts : List Ty} {x : TyL ts} {y : PV}, y ∈ pvL ts x -> ∃ (t : Ty) (z : t.sem), y = t.pv z
 | [], _, _, h => by cases h
 | [t], x, y, h => ⟨t, x, by simpa [pvL] using h⟩
 | t :: u :: ts, x, y, h => by
   have h : y ∈ t.pv x.1 :: pvL (u :: ts) x.2 := h;rcases zUD.1 h with q | q
   ·exact ⟨t, x.1, q⟩
   ·exact qCE q
omit [Yl] in
theorem q5A (t : Ty) (x : t.sem) : qT1 (t.pv x) = true := by
 unfold Ty.pv
 cases t.one with
 | true => rfl
 | false =>
   show ((t.cells x).map PV.f).all q8R = true;rw [zT3];intro y hy;obtain ⟨c, _, rfl⟩ := zUN.1 hy;rfl
omit [Yl] in
theorem qMI : ∀ (ts : List Ty) (x : TyL ts), (svL ts x).length = ts.length
 | [], _ => rfl
 | [_], _ => rfl
 | t :: u :: ts, x => by
   show (t.sv x.1 :: svL (u :: ts) x.2).length = _;simp only [zUI, qMI (u :: ts)]
def q9E (t : Ty) (x : t.sem) : PV := .lp (t.cells x) 0
def zFH : (ts : List Ty) -> TyL ts -> List PV
 | [], _ => []
 | [t], x => [q9E t x]
 | t :: u :: ts, x => q9E t x.1 :: zFH (u :: ts) x.2
def qYF (P : Program) (t : Ty) (v : SV) (h : SH) : Option (t.sem × SH) := match v with
 | .ref k off w => (match slk k h.l with
   | some (.cells el _ l) => cond (!spec P el && (Nat.beq off 0 && Nat.beq w l.length)) (match t.zKV P (tX P 8 el) l (h.del k) with
     | some (x, _, [], h') => some (x, h')
     | _ => none) none
   | _ => none)
 | _ => none
theorem qU9 {t : Ty} {v : SV} {h : SH} {x : t.sem} {h' : SH} (ho : OkH P h) (e : qYF P t v h = some (x, h')) :
 Keep h h' ∧ OkH P h' ∧ ∀ (Z : Nat -> Prop) (H : IH) (m : Nat -> Nat) (u : Value), Hp P Z H (own m (qI h.l)) -> VR P Z H (own m (qI h.l)) v.enc u -> ∃ Z', Fz P Z H m (qI h.l) Z' (qI h'.l) ∧ VR P Z' H (fun _ => none) (q9E t x) u := by
 unfold qYF at e;split at e
 case h_2 => cases e
 rename_i k off w;split at e
 case h_2 => cases e
 rename_i el w0 l hk
 cases hc : (!spec P el && (Nat.beq off 0 && Nat.beq w l.length)) with
 | false => rw [hc] at e; cases e
 | true =>
   rw [hc] at e;simp only [cond_true] at e;rw [zTY, zU0] at hc;obtain ⟨hsp, hc⟩ := hc;rw [zTY] at hc;have h1 : off = 0 := zTZ hc.1;have h2 : w = l.length := zTZ hc.2;subst h1 h2;split at e
   case h_2 => cases e
   rename_i y zI4 h2 hd;cases e;have hd0 := sH (k := k) ho;obtain ⟨a1, a2, a3, ys, a4, a5⟩ := qF8 hd0.2 (qL hd0.1 (ho.cells _ _ _ _ hk)) hd;refine ⟨hd0.1.trans a2, a3, fun Z H m u hp hv => ?_⟩;have hkp := yL hk;have zIR : real (SO.cells el w0 l).enc := fun q => by cases q.1
   obtain ⟨w1, w2, w3, vs, q1, q2, q3⟩ := hp.real hkp zIR hsp;have hcut := Fz.del hp hkp zIR;have hfz := a4 [] (qI h'.l) (by simp [qB, qIQ]);rw [zVL] at hfz;rw [show qI (h.del k).l = qGT k (qI h.l) from nL k _] at hfz;obtain ⟨Z2, c2, r2⟩ := qIL (fun a b c => qQR 4 a b c) hcut.hp (hcut.vrl q2) hfz;refine ⟨Z2, hcut.trans c2, ?_⟩;simp only [SV.enc] at hv
   cases hv with
   | ref g1 g2 =>
     obtain ⟨_, g3⟩ := g2 _ _ (qQ hkp);obtain ⟨rfl, _⟩ := g3 (by simp [SO.enc, zH]);have hrt := qEQ (P := P) (M := fun _ => none) (f := rt0 P) (ts := tX P 8 el) (fun t x v h => qZ6 h) (r2.map (P := P) (M := fun _ => none));have h5 := a5 [];rw [zVL] at h5;rw [h5] at hrt
     have hrt : VRL P Z2 H (fun _ => none) ((t.cells x).map .f) vs := by
      cases zI4 <;> simpa [rtL] using hrt
     have hlen : (t.cells x).length = vs.length := by have := hrt.len; simpa using this
     refine .lp (o := 0) (vs := vs) (c2.zle _ (.inr rfl)) w1 ?_ ?_
     ·rw [hlen];exact jQ q1 (by omega) (by simp)
     ·intro i y v hy hvv;have := hrt.val i (.f y) v (by rw [zT9, hy]; rfl) hvv
      cases this with
      | f h => exact h
def zAR (P : Program) (G : Nat -> Bool) (f : FuncId) (ent : zIV) : Prop := entered P f = true ∧ ∀ (x : TyL ent.as) (γ : Type) (stp : γ -> TyL ent.ys -> Option (γ × Bool)) (g0 g1 : γ), ent.F x γ stp g0 = some g1 -> ∀ (w : Wld γ) (l : Nat),
 (∀ g y g' b, stp g y = some (g', b) -> qQB P G w l g (pvL ent.ys y) g' b) -> ∀ (Z : Nat -> Prop) (H : IH) (D : Nat -> Prop) (us : List Value), (∀ b, Z b -> b < H.size) -> H.base <= H.size -> q45 Z H -> w.W g0 Z H D -> VRL P Z H (fun _ => none) (zFH ent.as x) us ->
 rX P G f (.func (.yield l) #[] #[] :: us) H fun r => ∃ Z' D', (∀ b, Z' b -> b < r.2.size) ∧ w.W g1 Z' r.2 D' ∧ StW Z H D Z' r.2 D'
def q9G (P : Program) (G : Nat -> Bool) (IT : List (FuncId × zIV)) : Prop := ∀ f ent, slI f IT = some ent -> zAR P G f ent
end
end Go.Sv
namespace Go.Sv
open Go.Idl
variable {e : zIX} {env : List SV} {h : SH} {id : Nat} {pe : List PV} {ph : PHp} {w : List Nat}
noncomputable section
variable [Gc]
variable [Yl]
variable {P : Program} {Γ : Option Type} {R : Type} {r : R} {nm : Nm} {G : Nat -> Bool} {N : Nat} {rs : List Ty} {tab : gY} {nat : xI} {good : FuncId -> Bool} {wd : Wld (GV Γ)}
def zFY (an : An) (id : Nat) : List (Nat × TypeId) := match lkA id an.fz with
 | some l => l
 | none => []
def wr (an : An) : Code -> List Nat
 | .region id ops _ => (zFY an id).map (·.1) ++ ops.toList.filterMap (·.dst)
 | .seq a b => wr an a ++ wr an b
 | .cond _ a b => wr an a ++ wr an b
 | .block id x => match lkA id an.lp with
   | some sh => lpW (wr an x) sh
   | none => wr an x
 | .loop x => wr an x
 | .scope x => wr an x
 | _ => []
def nx2 : List Oper -> Option (Operand × Nat × Nat)
 | [⟨some d1, .next x false, _, _, _, none⟩, ⟨some d2, .extract (.tmp e1) 0, _, _, _, none⟩] => cond (Nat.beq d1 e1) (some (x, d1, d2)) none
 | _ => none
theorem q6W {l : List Oper} {x : Operand} {d1 d2 : Nat} (h : nx2 l = some (x, d1, d2)) : ∃ o1 o2, l = [o1, o2] ∧ o1.op = .next x false ∧ o1.dst = some d1 ∧ o1.guard = none ∧ o2.op = .extract (.tmp d1) 0 ∧ o2.dst = some d2 ∧ o2.guard = none := by
 unfold nx2 at h;split at h
 case h_2 => cases h
 rename_i d1' x' t1 p1 a1 d2' e1 t2 p2 a2
 cases hc : Nat.beq d1' e1 with
 | false => rw [hc] at h; cases h
 | true =>
   rw [hc] at h;cases h;have := zTZ hc;subst this;exact ⟨_, _, rfl, rfl, rfl, rfl, rfl, rfl, rfl⟩
structure MB (Γ : Option Type) where
 ops : Array Oper
 t : Nat
 j : Nat
 body : ∀ (R' : Type), GV Γ -> List SV -> SH -> wP Γ R' -> zHP R'
def zAZ (P : Program) (G : Nat -> Bool) (nm : Nm) (w : List Nat) (rdv : List SV -> SH -> Option (TyL rs)) (en : TyL rs -> List SV) (hb : SH) (sh : Sh) (ab : Ab) (id : Nat) (body : ∀ {R' : Type}, GV Γ -> List SV -> SH -> wP Γ R' -> zHP R') (m : Option (MB Γ)) (g : GV Γ) (env : List SV) (h : SH) (K : wP Γ R) : zHP R :=
 match m with
 | some mb => (match nx2 mb.ops.toList with
   | some (x, d1, d2) => cond (Nat.beq mb.t d2 && Nat.beq mb.j id) (q5D P G nm w sh ab mb.ops x d1 d2 (fun {_} => mb.body _) g env h K) .fail
   | none => qO6 P nm w rdv en hb sh ab id (fun {_} => body) g env h K)
 | none => qO6 P nm w rdv en hb sh ab id (fun {_} => body) g env h K
def zGV (y : GV Γ -> List SV -> SH -> wP Γ R -> zHP R) (K : wP Γ R) : wP Γ R := fun e g env h => match e with
 | .normal => y g env h K
 | e => K e g env h
def zHB (K : wP Γ R) : wP Γ R := fun e g env h => match e with
 | .goto _ => .fail
 | e => K e g env h
section
variable (P : Program) (G : Nat -> Bool) (T : zU) (IT : List (FuncId × zIV)) (CI : CIT) (Y : YI (GV Γ)) (an : An) (rdv : List SV -> SH -> Option (TyL rs)) (en : TyL rs -> List SV) (hb : SH)
def ev : Code -> {R : Type} -> Bool -> Nm -> GV Γ -> List SV -> SH -> wP Γ R -> zHP R
 | .skip, _, _, _, g, env, h, K => K .normal g env h
 | .label _, _, _, _, g, env, h, K => K .normal g env h
 | .ret, _, _, _, g, env, h, K => K .ret g env h
 | .exit id, _, _, _, g, env, h, K => K (.exit id) g env h
 | .seq a b, _, rd, nm, g, env, h, K => ev a rd nm g env h (zGV (ev b rd nm) K)
 | .cond v a b, _, rd, nm, g, env, h, K => cond (gD G v) (match asB (xQ env v) with
   | some t => .ite t (ev a rd nm g env h K) (ev b rd nm g env h K)
   | none => .fail) .fail
 | .region id ops d, _, rd, nm, g, env, h, K => fzv P nm (zFY an id) env h fun env h => zES P G T CI Y nm ops d g env h fun g env h => K .normal g env h
 | .block id (.loop y), _, rd, nm, g, env, h, K => (match lkA id an.lp with
   | some sh => (match lkA id an.ab with
     | none => zA4 P nm (lpW (wr an y) sh) rdv en hb sh id (fun {_} => ev y rd nm) g env h K
     | some ab => zAZ P G nm (lpW (wr an y) sh) rdv en hb sh ab id (fun {_} => ev y rd nm) (match y with
       | .seq (.region _ ops false) (.seq (.cond (.tmp t) .skip (.exit j)) z) => some ⟨ops, t, j, fun _ => ev z rd nm⟩
       | _ => none) g env h K)
   | none => .fail)
 | .block id x, _, rd, nm, g, env, h, K => (match lkA id an.lp with
   | some _ => .fail
   | none => ev x rd nm g env h (zF1 id K))
 | .scope x, _, rd, nm, g, env, h, K => ev x rd nm g env h (zHB K)
 | .rangeFunc _ _ _ _, _, _, _, _, _, _, _ => cond IT.isEmpty .fail .fail
 | _, _, _, _, _, _, _, _ => .fail
end
theorem EQ.go {w2 : List Nat} {zHT : List SV} {h1 : SH} {K : wP Γ R} {g : GV Γ} (a : kW P w env h zHT h1) (b : EQ P N w2 zHT h1 K r e g pe ph) : EQ P N (w ++ w2) env h K r e g pe ph := by
 obtain ⟨env', h', b1, b2, b3, b4, b5, b0, b6, b7⟩ := b;exact ⟨env', h', b1, b2, b3, b4, b5, a.2.2.1.trans b0, fun hne => a.trans (b6 hne), b7⟩
theorem EQ.up {w w2 : List Nat} {env : List SV} {h : SH} {K : wP Γ R} {e : zIX} {g : GV Γ} {pe : List PV} {ph : PHp} (hw : ∀ i ∈ w, i ∈ w2) (b : EQ P N w env h K r e g pe ph) : EQ P N w2 env h K r e g pe ph := by
 obtain ⟨env', h', b1, b2, b3, b4, b5, b0, b6, b7⟩ := b;exact ⟨env', h', b1, b2, b3, b4, b5, b0, fun hne => (b6 hne).up hw, b7⟩
theorem EQ.now {K : wP Γ R} {g : GV Γ} (ho : OkH P h) (he : okL h env) (hl : env.length = N) (hk : (K e g env h).run = some r) : EQ P N w env h K r e g (qB env) (qI h.l) :=
 ⟨env, h, rfl, rfl, he, ho, hl, .refl _, fun _ => (kW.refl ho he).up fun i hi => by (cases hi), hk⟩
theorem zDO {K : wP Γ R} {g : GV Γ} (b : EQ P N w env h (zF1 id K) r e g pe ph) : BQY id (EQ P N w env h K r) e g pe ph := by
 obtain ⟨env', h', b1, b2, b3, b4, b5, b0, b6, b7⟩ := b
 cases e with
 | normal => exact BQY.go ⟨env', h', b1, b2, b3, b4, b5, b0, b6, b7⟩
 | ret => exact BQY.rt ⟨env', h', b1, b2, b3, b4, b5, b0, b6, b7⟩
 | goto l => exact ⟨env', h', b1, b2, b3, b4, b5, b0, b6, b7⟩
 | exit i =>
   have b8 : (cond (Nat.beq i id) (K .normal g env' h') (K (.exit i) g env' h')).run = some r := b7
   cases hi : Nat.beq i id with
   | true =>
     rw [hi] at b8;have := zTZ hi;subst this;exact BQY.on ⟨env', h', b1, b2, b3, b4, b5, b0, fun _ => b6 fun h => by (cases h), b8⟩
   | false =>
     rw [hi] at b8;exact BQY.ex (fun h => by rw [h, nP] at hi; cases hi) ⟨env', h', b1, b2, b3, b4, b5, b0, b6, b8⟩
omit [Yl] in
theorem q4B {ops : List Oper} {i : Nat} (h : i ∉ ops.filterMap (·.dst)) : some i ∉ ops.map (·.dst) := fun hm => by
 obtain ⟨o, h1, h2⟩ := zUN.1 hm;exact h (zW7.2 ⟨o, h1, h2⟩)
def zA2 (P : Program) (G : Nat -> Bool) (T : zU) (IT : List (FuncId × zIV)) (CI : CIT) (Y : YI (GV Γ)) (an : An) (rdv : List SV -> SH -> Option (TyL rs)) (en : TyL rs -> List SV) (hb : SH) (N : Nat) (wd : Wld (GV Γ)) (rd : Bool) (nm : Nm) (c : Code) : Prop :=
 ∀ {R : Type} {g : GV Γ} {env : List SV} {h : SH} {K : wP Γ R} {r : R}, OkH P h -> okL h env -> env.length = N -> Keep hb h -> (ev P G T IT CI Y an rdv en hb c rd nm g env h K).run = some r -> qU P G rd nm wd c g (qB env) (qI h.l) (EQ P N (wr an c) env h K r)
theorem qXH {T : zU} {IT : List (FuncId × zIV)} {CI : CIT} {Y : YI (GV Γ)} {an : An} {rdv : List SV -> SH -> Option (TyL rs)} {en : TyL rs -> List SV} {hb : SH} {rd : Bool} {y : Code} (s : zIN P good nat G tab) (hrd : zJ8 P nm N hb rdv en)
 (hY : zA2 P G T IT CI Y an rdv en hb N wd rd nm y) (hZ : ∀ rid ops t j z, y = .seq (.region rid ops false) (.seq (.cond (.tmp t) .skip (.exit j)) z) -> zA2 P G T IT CI Y an rdv en hb N wd rd nm z)
 {g : GV Γ} {K : wP Γ R} (ho : OkH P h) (he : okL h env) (hl : env.length = N) (hbh : Keep hb h) (e : (ev P G T IT CI Y an rdv en hb (.block id (.loop y)) rd nm g env h K).run = some r) :
 qU P G rd nm wd (.block id (.loop y)) g (qB env) (qI h.l) (EQ P N (wr an (.block id (.loop y))) env h K r) := by
 have e1 := e;unfold ev at e1;split at e1
 ·rename_i sh hsh;have hw : wr an (.block id (.loop y)) = lpW (wr an y) sh := by simp only [wr, hsh]
  rw [hw];split at e1
  ·exact q0M hrd rfl hY ho he hl hbh e1
  ·rename_i ab hab
   have hplain : (qO6 P nm (lpW (wr an y) sh) rdv en hb sh ab id (fun {_} => ev P G T IT CI Y an rdv en hb y rd nm) g env h K).run = some r -> qU P G rd nm wd (.block id (.loop y)) g (qB env) (qI h.l) (EQ P N (lpW (wr an y) sh) env h K r) := fun e1 =>
    qWI hrd rfl hY ho he hl hbh e1
   unfold zAZ at e1;split at e1
   ·rename_i mb hmb;split at hmb
    case h_2 => cases hmb
    rename_i _ rid ops t j z;cases hmb;split at e1
    ·rename_i x d1 d2 hnx;obtain ⟨hc, e2⟩ := qH e1;rw [zTY] at hc;have ht2 : t = d2 := zTZ (show Nat.beq t d2 = true from hc.1);have hj2 : j = id := zTZ (show Nat.beq j id = true from hc.2);subst ht2 hj2;obtain ⟨o1, o2, n1, n2, n3, n4, n5, n6, n7⟩ := q6W hnx;refine qYR s rfl n1 n2 n3 n4 n5 n6 n7 (fun ho he hl hbh e => (hZ _ _ _ _ _ rfl ho he hl hbh e).mono fun x g pe ph hq => hq.up fun i hi => ?_) ho he hl hbh e2;simp only [wr, zUQ];exact .inr (.inr hi)
    ·exact hplain e1
   ·exact hplain e1
 ·cases e1
theorem bF {T : zU} {IT : List (FuncId × zIV)} {CI : CIT} {Y : YI (GV Γ)} {an : An} {rdv : List SV -> SH -> Option (TyL rs)} {en : TyL rs -> List SV} {hb : SH} (s : zIN P good nat G tab) (ht : qY6 tab T) (hit : q9G P G IT) (hci : q72 P G CI) (hy : YOk P G wd Y) (hrd : ∀ nm, zJ8 P nm N hb rdv en) :
 ∀ (c : Code), (∀ rd nm, zA2 P G T IT CI Y an rdv en hb N wd rd nm c) ∧ ∀ a b, c = .seq a b -> (∀ rd nm, zA2 P G T IT CI Y an rdv en hb N wd rd nm b) ∧ ∀ a' b', b = .seq a' b' -> ∀ rd nm, zA2 P G T IT CI Y an rdv en hb N wd rd nm b'
 | .skip => ⟨fun rd nm {_ g env h K r} ho he hl hbh e => .skip (.now ho he hl e), fun a b h => by cases h⟩
 | .label _ => ⟨fun rd nm {_ g env h K r} ho he hl hbh e => .label (.now ho he hl e), fun a b h => by cases h⟩
 | .ret => ⟨fun rd nm {_ g env h K r} ho he hl hbh e => .ret (.now ho he hl e), fun a b h => by cases h⟩
 | .exit id => ⟨fun rd nm {_ g env h K r} ho he hl hbh e => .exit (.now ho he hl e), fun a b h => by cases h⟩
 | .seq a b => by
   refine ⟨fun rd nm {_ g env h K r} ho he hl hbh e => ?_, fun a' b' hh => by
    cases hh
    exact ⟨(bF s ht hit hci hy hrd b).1, fun a2 b2 h2 => ((bF s ht hit hci hy hrd b).2 a2 b2 h2).1⟩⟩
   refine .seq (((bF s ht hit hci hy hrd a).1 _ _ ho he hl hbh e).mono fun x g' pe ph hq => ?_);obtain ⟨env', h', b1, b2, b3, b4, b5, b0, b6, b7⟩ := hq
   cases x with
   | normal =>
     have b7 : (ev P G T IT CI Y an rdv en hb b rd nm g' env' h' K).run = some r := b7;subst b1 b2;show qU P G rd nm wd b g' _ _ _;refine ((bF s ht hit hci hy hrd b).1 _ _ b4 b3 b5 (hbh.trans b0) b7).mono fun x g' pe ph hq => ?_
     exact EQ.go (b6 fun h => by (cases h)) hq
   | exit i => exact ⟨env', h', b1, b2, b3, b4, b5, b0, fun hne => (b6 hne).up fun i hi => zV8 _ hi, b7⟩
   | ret => exact ⟨env', h', b1, b2, b3, b4, b5, b0, fun hne => absurd rfl hne, b7⟩
   | goto l => exact ⟨env', h', b1, b2, b3, b4, b5, b0, fun hne => (b6 hne).up fun i hi => zV8 _ hi, b7⟩
 | .cond v a b => by
   refine ⟨fun rd nm {_ g env h K r} ho he hl hbh e => ?_, fun a b h => by cases h⟩;obtain ⟨c1, e1⟩ := qH e;split at e1
   ·rename_i t hv;have hpv : qN (qB env) v = fvv (.bool t) := by rw [qP]; exact rC hv
    rcases run_ite e1 with ⟨z, e2⟩ | ⟨z, e2⟩
    ·exact .cond c1 hpv (fun _ => ((bF s ht hit hci hy hrd a).1 _ _ ho he hl hbh e2).mono fun x g pe ph hq => hq.up fun i hi => zV8 _ hi) (fun hf => by rw [z] at hf; cases hf)
    ·exact .cond c1 hpv (fun hf => by rw [z] at hf; cases hf) (fun _ => ((bF s ht hit hci hy hrd b).1 _ _ ho he hl hbh e2).mono fun x g pe ph hq => hq.up fun i hi => zXB _ hi)
   ·cases e1
 | .region id ops d => by
   refine ⟨fun rd nm {_ g env h K r} ho he hl hbh e => ?_, fun a b h => by cases h⟩;obtain ⟨zHT, h1, w1, q1, e1⟩ := q4M (nm := nm) ho he e;refine qU.pre' w1 ((q7T s ht hci hy q1.2.1 q1.1 e1).mono ?_);rintro x g' pe ph ⟨rfl, env', h', b1, b2, b3, b4⟩;refine EQ.go q1 ⟨env', h', b1, b2, b3.1, b3.2.1, by rw [b3.2.2.2.2, q1.2.2.2.2, hl], b3.2.2.1, fun _ => ⟨b3.1, b3.2.1, b3.2.2.1, fun i hi => b3.2.2.2.1 i (q4B hi), b3.2.2.2.2⟩, b4⟩
 | .block id x => by
   refine ⟨fun rd nm {_ g env h K r} ho he hl hbh e => ?_, fun a b h => by cases h⟩
   cases x with
   | loop y =>
     exact qXH s (hrd nm) ((bF s ht hit hci hy hrd y).1 _ _) (fun rid ops t j z hz => ((bF s ht hit hci hy hrd y).2 _ _ hz).2 _ _ rfl _ _) ho he hl hbh e
   | _ =>
     all_goals
      have e1 := e;unfold ev at e1;split at e1
      ·cases e1
      ·rename_i hn;simp only [wr, hn];exact .block (((bF s ht hit hci hy hrd _).1 _ _ ho he hl hbh e1).mono fun x g pe ph hq => zDO hq)
 | .loop _ => ⟨fun rd nm {_ _ _ _ _ _} _ _ _ _ e => (by cases e), fun a b h => by cases h⟩
 | .rangeFunc _ _ _ _ => ⟨fun rd nm {_ _ _ _ _ _} _ _ _ _ e => (by unfold ev at e; cases hq : IT.isEmpty <;> rw [hq] at e <;> cases e), fun a b h => by cases h⟩
 | .scope x => by
   refine ⟨fun rd nm {_ g env h K r} ho he hl hbh e => ?_, fun a b h => by cases h⟩;refine .scope (((bF s ht hit hci hy hrd x).1 _ _ ho he hl hbh e).mono fun ex g' pe ph hq => ?_);obtain ⟨env', h', b1, b2, b3, b4, b5, b0, b6, b7⟩ := hq
   cases ex with
   | goto l => cases b7
   | normal => exact ⟨fun _ h => by (cases h), env', h', b1, b2, b3, b4, b5, b0, b6, b7⟩
   | ret => exact ⟨fun _ h => by (cases h), env', h', b1, b2, b3, b4, b5, b0, b6, b7⟩
   | exit i => exact ⟨fun _ h => by (cases h), env', h', b1, b2, b3, b4, b5, b0, b6, b7⟩
 | .goto _ => ⟨fun rd nm {_ _ _ _ _ _} _ _ _ _ e => (by cases e), fun a b h => by cases h⟩
 | .refuse _ => ⟨fun rd nm {_ _ _ _ _ _} _ _ _ _ e => (by cases e), fun a b h => by cases h⟩
theorem q9I {T : zU} {IT : List (FuncId × zIV)} {CI : CIT} {Y : YI (GV Γ)} {an : An} {rdv : List SV -> SH -> Option (TyL rs)} {en : TyL rs -> List SV} {hb : SH} (s : zIN P good nat G tab) (ht : qY6 tab T) (hit : q9G P G IT) (hci : q72 P G CI) (hy : YOk P G wd Y) (hrd : ∀ nm, zJ8 P nm N hb rdv en) :
 ∀ (c : Code) {R : Type} {rd : Bool} {nm : Nm} {g : GV Γ} {env : List SV} {h : SH} {K : wP Γ R} {r : R}, OkH P h -> okL h env -> env.length = N -> Keep hb h -> (ev P G T IT CI Y an rdv en hb c rd nm g env h K).run = some r -> qU P G rd nm wd c g (qB env) (qI h.l) (EQ P N (wr an c) env h K r) :=
 fun c {R rd nm g env h K r} ho he hl hbh e => (bF s ht hit hci hy hrd c).1 rd nm ho he hl hbh e
end
end Go.Sv
namespace Go.Sv
open Go.Idl
variable {c : Option TypeId} {env : List PV} {h hb : SH} {ph : PHp} {rs : List Ty} {t : Ty} {zJ9 : List TypeId} {ty : TypeId}
noncomputable section
variable [Gc]
variable [Yl]
variable {P : Program} {R : Type} {r : R} {nm : Nm} {G : Nat -> Bool} {N : Nat} {tab : gY} {good : FuncId -> Bool}
def sG (P : Program) (ty : TypeId) (t : Ty) : Bool := match qS0 P ty with
 | some true => !t.one && (match szT P ty with
   | some n => Nat.beq n t.w
   | none => false)
 | some false => t.one
 | none => false
omit [Yl] in
theorem qR4 {x : t.sem} (e : sG P ty t = true) : eG P ty (q9E t x) ph = some (t.pv x) := by
 unfold sG at e;show qOJ P ty (t.cells x) 0 = _;unfold qOJ Ty.pv;split at e
 ·rename_i h1;rw [h1];simp only;split at e
  ·rename_i n hn;rw [hn];rw [zTY] at e;have h2 : n = t.w := zTZ e.2;have h3 : t.one = false := by simpa using e.1
   subst h2;have h4 : Nat.ble (0 + t.w) (t.cells x).length = true := zUG (by rw [t.zH1]; omega);simp only [h4, cond_true, h3, cond_false, zVU];rw [zU6 (by rw [t.zH1]; exact zT0 _)]
  ·rw [zTY] at e; cases e.2
 ·rename_i h1;rw [h1];simp only [e, cond_true];rw [Ty.cells_one e];rfl
 ·cases e
def q0A : ResultVar -> Nat
 | .tmp t => t
 | .cell a _ => a
def qTS : ResultVar -> Option TypeId
 | .tmp _ => none
 | .cell _ ty => some ty
def q1B (P : Program) (c : Option TypeId) (ty : TypeId) (t : Ty) (v : SV) (h : SH) : Option (t.sem × SH) := match c with
 | none => q8X P ty t v h
 | some ty2 => cond (sG P ty2 t) (qYF P t v h) none
def qKL (c : Option TypeId) (t : Ty) (x : t.sem) : SV := match c with
 | none => t.sv x
 | some _ => .lp t [x] 0 0
def qJW (P : Program) : List (Option TypeId) -> List TypeId -> (ts : List Ty) -> List SV -> SH -> Option (TyL ts × SH)
 | [], _, [], [], h => some ((), h)
 | c :: cs, ty :: _, [t], v :: vs, h => (match cs, vs with
   | [], [] => q1B P c ty t v h
   | _, _ => none)
 | c :: cs, ty :: tys, t :: u :: ts, v :: vs, h => match q1B P c ty t v h with
   | some (x, h1) => (match qJW P cs tys (u :: ts) vs h1 with
     | some (y, h2) => some ((x, y), h2)
     | none => none)
   | none => none
 | _, _, _, _, _ => none
def svM : List (Option TypeId) -> (ts : List Ty) -> TyL ts -> List SV
 | _, [], _ => []
 | c :: _, [t], x => [qKL c t x]
 | [], [t], x => [t.sv x]
 | c :: cs, t :: u :: ts, x => qKL c t x.1 :: svM cs (u :: ts) x.2
 | [], t :: u :: ts, x => t.sv x.1 :: svM [] (u :: ts) x.2
omit [Yl] in
theorem qYD (c : Option TypeId) (t : Ty) (x : t.sem) : (qKL c t x).ok h := by
 cases c with
 | none => exact qLT t x
 | some _ => simp [qKL, SV.ok]
omit [Yl] in
theorem qYZ {h : SH} : ∀ (cs : List (Option TypeId)) (ts : List Ty) (x : TyL ts), okL h (svM cs ts x)
 | _, [], _ => by simp [svM, okL]
 | c :: _, [t], x => by simp only [svM, okL]; exact ⟨qYD c t x, trivial⟩
 | [], [t], x => by simp only [svM, okL]; exact ⟨qLT t x, trivial⟩
 | c :: cs, t :: u :: ts, x => by
   show okL h (qKL c t x.1 :: svM cs (u :: ts) x.2);simp only [okL];exact ⟨qYD c t x.1, qYZ cs (u :: ts) x.2⟩
 | [], t :: u :: ts, x => by
   show okL h (t.sv x.1 :: svM [] (u :: ts) x.2);simp only [okL];exact ⟨qLT t x.1, qYZ [] (u :: ts) x.2⟩
omit [Yl] in
theorem qNV : ∀ (cs : List (Option TypeId)) (ts : List Ty) (x : TyL ts), (svM cs ts x).length = ts.length
 | _, [], _ => by simp [svM]
 | c :: _, [t], x => rfl
 | [], [t], x => rfl
 | c :: cs, t :: u :: ts, x => by
   show (qKL c t x.1 :: svM cs (u :: ts) x.2).length = _;simp only [zUI, qNV cs (u :: ts)]
 | [], t :: u :: ts, x => by
   show (t.sv x.1 :: svM [] (u :: ts) x.2).length = _;simp only [zUI, qNV [] (u :: ts)]
theorem qQH (c : Option TypeId) (t : Ty) (x : t.sem) (Z : Nat -> Prop) (H : IH) (M M' : Nat -> Option (Nat × PO)) (v : Value) (h : VR P Z H M (qKL c t x).enc v) : VR P Z H M' (qKL c t x).enc v := by
 cases c with
 | none =>
   simp only [qKL, oW] at h ⊢;exact nN h (q5A t x)
 | some _ =>
   simp only [qKL, SV.enc] at h ⊢
   cases h with
   | lp a b c d => exact .lp a b c d
theorem qQW {v : SV} {x : t.sem} {h' : SH} (ho : OkH P h) (hv : v.ok h) (e : q1B P c ty t v h = some (x, h')) :
 Keep h h' ∧ OkH P h' ∧ (∀ ty2, c = some ty2 -> sG P ty2 t = true) ∧ ∀ (Z : Nat -> Prop) (H : IH) (m : Nat -> Nat) (u : Value), Hp P Z H (own m (qI h.l)) -> VR P Z H (own m (qI h.l)) v.enc u -> ∃ Z', Fz P Z H m (qI h.l) Z' (qI h'.l) ∧ VR P Z' H (fun _ => none) (qKL c t x).enc u := by
 unfold q1B at e
 cases c with
 | none =>
   obtain ⟨y, a1, a2, a3, a4⟩ := qCZ ho hv e;refine ⟨a3, a4, fun _ h => by (cases h), fun Z H m u hp hu => ?_⟩;obtain ⟨Z', c1, c2⟩ := qLR hp hu a1;refine ⟨Z', c1, ?_⟩;simp only [qKL, oW];rw [<- a2];exact qEB c2
 | some ty2 =>
   simp only at e
   cases hc : sG P ty2 t with
   | false => rw [hc] at e; cases e
   | true =>
     rw [hc] at e;obtain ⟨a1, a2, a3⟩ := qU9 ho e;refine ⟨a1, a2, fun _ h => by cases h; exact hc, fun Z H m u hp hu => ?_⟩;obtain ⟨Z', c1, c2⟩ := a3 Z H m u hp hu;refine ⟨Z', c1, ?_⟩;simp only [qKL, SV.enc];simpa [q9E] using c2
structure zP1 (P : Program) (cs : List (Option TypeId)) (ts : List Ty) (vs : List SV) (h : SH) (x : TyL ts) (h' : SH) : Prop where
 keep : Keep h h'
 ok : OkH P h'
 fz : ∀ (Z : Nat -> Prop) (H : IH) (m : Nat -> Nat) (us : List Value), Hp P Z H (own m (qI h.l)) -> VRL P Z H (own m (qI h.l)) (qB vs) us -> ∃ Z', Fz P Z H m (qI h.l) Z' (qI h'.l) ∧ VRL P Z' H (fun _ => none) (qB (svM cs ts x)) us
 any : ∀ (Z : Nat -> Prop) (H : IH) (M M' : Nat -> Option (Nat × PO)) (us : List Value), VRL P Z H M (qB (svM cs ts x)) us -> VRL P Z H M' (qB (svM cs ts x)) us
 load : ∀ (ph : PHp) (rv : List ResultVar) (env : List PV), rv.map qTS = cs -> (rv.map fun r => (zL env (q0A r)).getD .unk) = qB (svM cs ts x) -> qH2 P env ph rv = some (pvL ts x)
theorem zBO {x : t.sem} (hc : ∀ ty2, c = some ty2 -> sG P ty2 t = true) {r : ResultVar} (h1 : qTS r = c) (h2 : (zL env (q0A r)).getD .unk = (qKL c t x).enc) : q4J P env ph r = some (t.pv x) := by
 subst h1
 cases r with
 | tmp i =>
   show some ((zL env i).getD .unk) = _;rw [show (zL env i).getD .unk = _ from h2];simp [qTS, qKL, oW]
 | cell a ty =>
   show eG P ty ((zL env a).getD .unk) ph = _;rw [show (zL env a).getD .unk = _ from h2];have := qR4 (x := x) (ph := ph) (hc ty rfl);simpa [qTS, qKL, SV.enc, q9E] using this
theorem qWL : ∀ {cs : List (Option TypeId)} {tys : List TypeId} {ts : List Ty} {vs : List SV} {h : SH} {x : TyL ts} {h' : SH}, OkH P h -> okL h vs -> qJW P cs tys ts vs h = some (x, h') -> zP1 P cs ts vs h x h'
 | [], tys, [], [], h, x, h', ho, hv, e => by
   unfold qJW at e;cases e;refine ⟨.refl _, ho, fun Z H m us hp hu => ⟨Z, .refl hp, ?_⟩, fun Z H M M' us hu => ?_, fun ph rv env h1 h2 => ?_⟩
   ·simp only [qB] at hu;rw [hu.zHV];simp only [svM, qB];exact .nil
   ·simp only [svM, qB] at hu ⊢;rw [hu.zHV];exact .nil
   ·cases rv with
    | nil => rfl
    | cons _ _ => cases h1
 | c :: cs, ty :: tys, [t], v :: vs, h, x, h', ho, hv, e => by
   unfold qJW at e;split at e
   case h_2 => cases e
   simp only [okL] at hv;obtain ⟨a1, a2, a3, a4⟩ := qQW ho hv.1 e;refine ⟨a1, a2, fun Z H m us hp hu => ?_, fun Z H M M' us hu => ?_, fun ph rv env h1 h2 => ?_⟩
   ·simp only [qB] at hu;obtain ⟨u, us', rfl, b1, b2⟩ := hu.zHU;obtain ⟨Z', c1, c2⟩ := a4 Z H m u hp b1;rw [b2.zHV];simp only [svM, qB];exact ⟨Z', c1, .cons c2 .nil⟩
   ·simp only [svM, qB] at hu ⊢;obtain ⟨u, us', rfl, b1, b2⟩ := hu.zHU;rw [b2.zHV];exact .cons (qQH c t x _ _ _ _ _ b1) .nil
   ·match rv, h1, h2 with
    | [r], h1, h2 =>
      simp only [zUB, zWE, zU4, and_true] at h1;simp only [zUB, zWE, svM, qB, zU4, and_true] at h2;unfold qH2;rw [zBO a3 h1 h2];rfl
 | c :: cs, ty :: tys, t :: u :: ts, v :: vs, h, x, h', ho, hv, e => by
   unfold qJW at e;simp only [okL] at hv;split at e
   case h_2 => cases e
   rename_i x1 h1 hd;split at e
   case h_2 => cases e
   rename_i y h2 hd2;cases e;obtain ⟨a1, a2, a3, a4⟩ := qQW ho hv.1 hd;have ih := qWL a2 (qL a1 hv.2) hd2;have hsv : svM (c :: cs) (t :: u :: ts) (x1, y) = qKL c t x1 :: svM cs (u :: ts) y := rfl;refine ⟨a1.trans ih.keep, ih.ok, fun Z H m us hp hu => ?_, fun Z H M M' us hu => ?_, fun ph rv env g1 g2 => ?_⟩
   ·simp only [qB] at hu;obtain ⟨w, us', rfl, b1, b2⟩ := hu.zHU;obtain ⟨Z1, d1, d2⟩ := a4 Z H m w hp b1;obtain ⟨Z2, f1, f2⟩ := ih.fz Z1 H m us' d1.hp (d1.vrl b2);rw [hsv];simp only [qB];exact ⟨Z2, d1.trans f1, .cons (d2.mono (p := fun _ => false) f1.zle (zT0 _) (fun _ _ _ => rfl) (.refl _ _) fun j hj => by cases hj) f2⟩
   ·rw [hsv] at hu ⊢;simp only [qB] at hu ⊢;obtain ⟨w, us', rfl, b1, b2⟩ := hu.zHU;exact .cons (qQH c t x1 _ _ _ _ _ b1) (ih.any _ _ _ _ _ b2)
   ·cases rv with
    | nil => cases g1
    | cons r rv =>
      rw [hsv] at g2;simp only [zUB, zU4] at g1;simp only [zUB, qB, zU4] at g2;unfold qH2;rw [zBO a3 g1.1 g2.1, ih.load ph rv env g1.2 g2.2];rfl
 | [], _, [], _ :: _, _, _, _, _, _, e => by unfold qJW at e; cases e
 | [], [], [_], _, _, _, _, _, _, e => by unfold qJW at e; cases e
 | [], [], _ :: _ :: _, _, _, _, _, _, _, e => by unfold qJW at e; cases e
 | [], _ :: _, [_], _, _, _, _, _, _, e => by unfold qJW at e; cases e
 | [], _ :: _, _ :: _ :: _, _, _, _, _, _, _, e => by unfold qJW at e; cases e
 | _ :: _, [], [], _, _, _, _, _, _, e => by unfold qJW at e; cases e
 | _ :: _, _ :: _, [], _, _, _, _, _, _, e => by unfold qJW at e; cases e
 | _ :: _, [], [_], _, _, _, _, _, _, e => by unfold qJW at e; cases e
 | _ :: _, [], _ :: _ :: _, _, _, _, _, _, _, e => by unfold qJW at e; cases e
 | _ :: _, _ :: _, [_], [], _, _, _, _, _, e => by unfold qJW at e; cases e
 | _ :: _, _ :: _, _ :: _ :: _, [], _, _, _, _, _, e => by unfold qJW at e; cases e
def rdR (P : Program) (hb : SH) (zJ9 : List TypeId) (rs : List Ty) (rv : List ResultVar) (env : List SV) (h : SH) : Option (TyL rs) := match qHU (rv.map q0A) env with
 | some vs => (match qJW P (rv.map qTS) zJ9 rs vs h with
   | some p => cond (eX [] hb p.2) (some p.1) none
   | none => none)
 | none => none
def enR (N : Nat) (rv : List ResultVar) (rs : List Ty) (v : TyL rs) : List SV := (mH (rv.map q0A) (svM (rv.map qTS) rs v) (List.replicate N .unk)).1
omit [Yl] in
theorem qP2 (h : SH) : ∀ (n : Nat), okL h (List.replicate n .unk)
 | 0 => by simp [okL]
 | n + 1 => by rw [zVM]; simp only [okL]; exact ⟨by simp [SV.ok], qP2 h n⟩
theorem qG5 : ∀ (n : Nat), qB (List.replicate n .unk) = List.replicate n .unk
 | 0 => by simp [qB]
 | n + 1 => by rw [zVM, zVM]; simp only [qB, qG5 n, SV.enc]
theorem qO8 {Z : Nat -> Prop} {H : IH} {M : Nat -> Option (Nat × PO)} {vals : List Value} : ∀ {rl : List Nat} {l base : List SV} {ws : List Value}, (∀ (j i : Nat), rl[j]? = some i -> vals[i]? = ws[j]?) -> VRL P Z H M (qB l) ws -> VRL P Z H M (qB base) vals -> VRL P Z H M (qB (mH rl l base).1) vals
 | [], l, base, ws, _, _, hb => hb
 | i :: is, [], base, ws, _, _, hb => hb
 | i :: is, c :: l, base, ws, hc, hl, hb => by
   simp only [qB] at hl;obtain ⟨w, ws', rfl, h1, h2⟩ := hl.zHU;show VRL P Z H M (qB (mH is l (yT base i c)).1) vals;refine qO8 (ws := ws') (fun j k hj => by simpa using hc (j + 1) k (by simpa using hj)) h2 ?_;rw [vH];exact hb.slot (v := w) (by simpa using hc 0 i rfl) h1
theorem qPN {Z : Nat -> Prop} {H : IH} {M : Nat -> Option (Nat × PO)} {env : List SV} {vals : List Value} (hv : VRL P Z H M (qB env) vals) : ∀ {rl : List Nat} {vs : List SV}, qHU rl env = some vs -> ∃ ws, VRL P Z H M (qB vs) ws ∧ ∀ (j i : Nat), rl[j]? = some i -> vals[i]? = ws[j]?
 | [], vs, e => by cases e; exact ⟨[], by simp only [qB]; exact .nil, fun j i h => by simp at h⟩
 | i :: is, vs, e => by
   unfold qHU at e;split at e
   ·rename_i v l hx hl;cases e;obtain ⟨ws, h1, h2⟩ := qPN hv hl;have hx2 : (qB env)[i]? = some v.enc := by rw [<- qF, zF, hx]; rfl
    obtain ⟨w, hw, hr⟩ := hv.get hx2;refine ⟨w :: ws, by simp only [qB]; exact .cons hr h1, fun j k hj => ?_⟩
    cases j with
    | zero => simp at hj; subst hj; simpa using hw
    | succ j => simpa using h2 j k (by simpa using hj)
   ·cases e
omit [Yl] in
theorem q8F {Z : Nat -> Prop} {H : IH} {M : Nat -> Option (Nat × PO)} {vals : List Value} : VRL P Z H M (List.replicate vals.length .unk) vals := ⟨by simp, fun i z v h1 h2 => by
 rw [zX2] at h1;split at h1
 ·cases h1; exact .unk
 ·cases h1⟩
omit [Yl] in
theorem qF3 {env : List SV} : ∀ {rl : List Nat} {vs : List SV}, qHU rl env = some vs -> ∀ z ∈ vs, z ∈ env
 | [], vs, e, z, hz => by cases e; cases hz
 | i :: is, vs, e, z, hz => by
   unfold qHU at e;split at e
   ·rename_i v l hx hl;cases e;rcases zUD.1 hz with q | q
    ·subst q; rw [qF] at hx; exact zUP hx
    ·exact qF3 hl z q
   ·cases e
theorem qNX {rv : List ResultVar} {env : List SV} {v : TyL rs} (ho : OkH P h) (he : okL h env) (e : rdR P hb zJ9 rs rv env h = some v) :
 ∃ vs h', qHU (rv.map q0A) env = some vs ∧ zP1 P (rv.map qTS) rs vs h v h' ∧ eX [] hb h' = true := by
 unfold rdR at e;split at e
 case h_2 => cases e
 rename_i vs hvs;split at e
 case h_2 => cases e
 rename_i p hp;obtain ⟨x, h'⟩ := p
 cases hc : eX [] hb h' with
 | false => rw [hc] at e; cases e
 | true =>
   rw [hc] at e;cases e;exact ⟨vs, h', hvs, qWL ho (yY.2 fun z hz => yY.1 he z (qF3 hvs z hz)) hp, hc⟩
theorem q43 (hob : OkH P hb) {rv : List ResultVar} : zJ8 P nm N hb (rdR P hb zJ9 rs rv) (enR N rv rs) := by
 refine ⟨hob, fun env h v ho he hl hbh e => ?_, fun env h v ho he hbh e k o hk => ?_, fun v => by unfold enR; rw [qH1, zV1], fun v h => qME (qYZ _ rs v) (qP2 h N)⟩
 ·obtain ⟨vs, h', hvs, hd, hkp⟩ := qNX ho he e;intro Z H m vals hh hv;obtain ⟨ws, h1, h2⟩ := qPN hv hvs;obtain ⟨Z', c1, r2⟩ := hd.fz Z H m ws hh h1;have hdr := Fz.drop c1.hp (ph' := qI hb.l) (qVF fun k o hk => oQ hob (hbh.trans hd.keep) hkp (by simp) hk);have hlen : vals.length = N := by rw [<- hv.len, zH, hl]
  refine ⟨Z', m, hdr.hp, ?_, c1.step.trans hdr.step, (c1.kr _).trans (hdr.kr _)⟩;unfold enR;refine qO8 h2 (hd.any _ _ _ _ _ r2) ?_;rw [qG5, <- hlen];exact q8F
 ·obtain ⟨vs, h', hvs, hd, hkp⟩ := qNX ho he e;have := qRN hob (hbh.trans hd.keep) hkp (by simp) hk;exact hd.keep.same k o this (zUA (hob.ver k o hk) hbh.next)
omit [Yl] in
theorem qF5 {ty : TypeId} : ∀ (t : Ty) (x : t.sem) (c : FV), c ∈ t.cells x -> rt0 P ty (.f c) = .f c
 | .int _, x, c, h => by simp only [Ty.cells, zVC] at h; subst h; rfl
 | .bool, x, c, h => by simp only [Ty.cells, zVC] at h; subst h; rfl
 | .str, x, c, h => by simp only [Ty.cells, zVC] at h; subst h; rfl
 | .raw, x, c, h => by simp only [Ty.cells, zVC] at h; subst h; rfl
 | .list _ _, x, c, h => by simp only [Ty.cells, zVC] at h; subst h; rfl
 | .unit, x, c, h => by cases h
 | .pair a b, x, c, h => by
   have h : c ∈ a.cells x.1 ++ b.cells x.2 := h;rcases zUQ.1 h with q | q
   ·exact qF5 a _ _ q
   ·exact qF5 b _ _ q
omit [Yl] in
theorem qXX {f : TypeId -> PV -> PV} : ∀ {ts : List TypeId} {xs : List PV}, (∀ t x, x ∈ xs -> f t x = x) -> rtL f ts xs = xs
 | [], xs, _ => by cases xs <;> rfl
 | t :: ts, [], _ => rfl
 | t :: ts, x :: xs, h => by
   show f t x :: rtL f ts xs = _;rw [h t x zT8, qXX fun t y hy => h t y (zT4 _ hy)]
omit [Yl] in
theorem q92 (t : Ty) (x : t.sem) : rt1 P ty (t.pv x) = t.pv x := by
 unfold Ty.pv
 cases ht : t.one with
 | true => exact qKP ht
 | false =>
   show PV.agg (rtL (rt0 P) (tX P 8 ty) ((t.cells x).map .f)) = _;rw [qXX]
   ·rfl
   ·intro ty2 y hy;obtain ⟨c, hc, rfl⟩ := zUN.1 hy;exact qF5 t x c hc
omit [Yl] in
theorem zAH (t : Ty) (x : t.sem) (ph : PHp) : fzP P ph (t.pv x) = some (t.pv x, ph) := by
 unfold Ty.pv
 cases t.one with
 | true => rfl
 | false => simp only [cond_false, fzP, qHD]
omit [Yl] in
theorem q4X {ph : PHp} : ∀ {xs : List PV}, (∀ y ∈ xs, fzP P ph y = some (y, ph)) -> fzA P xs ph = some (xs, ph)
 | [], _ => rfl
 | x :: xs, h => by
   simp only [fzA, h x zT8, q4X fun y hy => h y (zT4 _ hy)]
omit [Yl] in
theorem q57 (rs : List Ty) (x : TyL rs) (ph : PHp) : fzR P ph (wH rs x) = some (wH rs x) := by
 have hm : ∀ y ∈ pvL rs x, ∃ (t : Ty) (z : t.sem), y = t.pv z := fun y hy => qCE hy
 unfold wH;generalize pvL rs x = l at hm
 have hz : ∀ y ∈ l, fzP P ph y = some (y, ph) := fun y hy => by
  obtain ⟨t, z, rfl⟩ := hm y hy;exact zAH t z ph
 match l, hm, hz with
 | [], _, hz => rfl
 | [v], hm, hz =>
   obtain ⟨t, z, rfl⟩ := hm v zT8;have := hz _ zT8;show fzR P ph (t.pv z) = some (t.pv z);unfold fzR;unfold Ty.pv at this ⊢
   cases ht : t.one with
   | true => rw [ht] at this; simp only [cond_true] at this ⊢; rw [this]
   | false => rw [ht] at this; simp only [cond_false] at this ⊢; rw [this]
 | a :: b :: l, _, hz =>
   show (match fzA P (a :: b :: l) ph with
    | some (ys, _) => some (PV.tup ys)
    | none => none) = _
   rw [q4X hz]; rfl
omit [Yl] in
theorem qU8 (rs : List Ty) (x : TyL rs) : q6L (wH rs x) = true := by
 have hm : ∀ y ∈ pvL rs x, qT1 y = true := fun y hy => by
  obtain ⟨t, z, rfl⟩ := qCE hy;exact q5A t z
 have hm2 : ∀ y ∈ pvL rs x, ∃ (t : Ty) (z : t.sem), y = t.pv z := fun y hy => qCE hy
 unfold wH;generalize pvL rs x = l at hm hm2
 match l, hm, hm2 with
 | [], _, _ => rfl
 | [v], hm, hm2 =>
   have h1 := hm v zT8;obtain ⟨t, z, rfl⟩ := hm2 v zT8;show q6L (t.pv z) = true;unfold Ty.pv at h1 ⊢
   cases ht : t.one with
   | true => rfl
   | false => rw [ht] at h1; exact h1
 | a :: b :: l, hm, _ => exact zT3.2 hm
def qQ7 : List Nat -> Bool
 | [] => true
 | i :: l => !qFL i l && qQ7 l
omit [Yl] in
theorem qRU : ∀ {rl : List Nat} {l base : List SV}, qQ7 rl = true -> rl.length = l.length -> (∀ i ∈ rl, i < base.length) -> ∀ (j i : Nat), rl[j]? = some i -> zL (mH rl l base).1 i = l[j]?
 | [], l, base, _, _, _, j, i, h => by simp at h
 | k :: is, [], base, _, hl, _, j, i, h => by simp at hl
 | k :: is, c :: l, base, hn, hl, hb, j, i, h => by
   unfold qQ7 at hn;rw [zTY] at hn
   have hk : k ∉ is := fun hm => by
    have := gW.2 hm;rw [this] at hn;exact absurd hn.1 (by simp)
   show zL (mH is l (yT base k c)).1 i = _
   cases j with
   | zero =>
     simp at h;subst h;rw [qHA hk, qV, qF, zUM, if_pos rfl, if_pos (hb k zT8)];rfl
   | succ j =>
     have h2 : is[j]? = some i := by simpa using h
     rw [qRU (rl := is) (l := l) hn.2 (by simpa using hl) (fun i hi => by rw [gV]; exact hb i (zT4 _ hi)) j i h2];rfl
def zFX {rs : List Ty} (rdv : List SV -> SH -> Option (TyL rs)) : wP none (TyL rs) := fun e _ env h => match e with
 | .normal => rdv env h
 | .ret => rdv env h
 | _ => none
def nm0 : Nm := ⟨0, fun _ => true⟩
def fnS (P : Program) (G : Nat -> Bool) (T : zU) (IT : List (FuncId × zIV)) (CI : CIT) (an : An) (as rs : List Ty) (fn : Func) (x : TyL as) : Option (TyL rs) := match fn.body with
 | some c => (ev (Γ := none) P G T IT CI yi0 an (rdR P ⟨0, []⟩ fn.resultTypes.toList rs fn.results.toList) (enR fn.ntmps fn.results.toList rs) ⟨0, []⟩ c false nm0 () (svL as x ++ List.replicate (fn.ntmps - as.length) .unk) ⟨0, []⟩ (zFX (rdR P ⟨0, []⟩ fn.resultTypes.toList rs fn.results.toList))).run
 | none => none
def qU4 (as rs : List Ty) (fn : Func) : Bool := match fn.body with
 | some _ => qQ7 (fn.results.toList.map q0A) && (Nat.beq fn.results.toList.length rs.length && (Nat.ble as.length fn.ntmps && (fn.results.toList.map q0A).all fun i => Nat.blt i fn.ntmps))
 | none => false
omit [Yl] in
theorem Runs.zP2 {rd : Bool} {c : Code} {Q : PQ} (h : Runs P G rd nm c env ph fun e pe p => ∃ pe' p', Wk P nm pe p pe' p' ∧ Q e pe' p') : Runs P G rd nm c env ph Q := by
 intro Z H m zHR hp hb he;refine (h Z H m zHR hp hb he).mono ?_;rintro o ⟨Z', m', env', ph', a, b, c, d, pe', p', hw, e⟩;obtain ⟨Z1, m1, a1, a2, a3, a4⟩ := hw Z' o.H m' o.env a b;exact ⟨Z1, m1, pe', p', a1, a2, c.trans a3, d.trans a4, e⟩
theorem zFW : YOk P G (Γ := GV none) zCV yi0 := fun g y g' b h => by cases h
theorem zEK {nat : xI} {T : zU} {IT : List (FuncId × zIV)} {CI : CIT} {an : An} {as : List Ty} {g : FuncId} {fn : Func} (s : zIN P good nat G tab) (ht : qY6 tab T) (hit : q9G P G IT) (hci : q72 P G CI) (hfn : P.funcs[g]? = some fn) (hc : qU4 as rs fn = true) :
 zFO P G g nm0 (enL as) (fnS P G T IT CI an as rs fn) (wH rs) := by
 unfold qU4 at hc;split at hc
 case h_2 => cases hc
 rename_i c hbody;simp only [zTY] at hc;obtain ⟨c1, c2, c3, c4⟩ := hc;refine ⟨fn, c, hfn, hbody, fun x y hF => ⟨fn.ntmps, rfl, ?_⟩⟩;unfold fnS at hF;rw [hbody] at hF;have hF : (ev (Γ := none) P G T IT CI yi0 an (rdR P ⟨0, []⟩ fn.resultTypes.toList rs fn.results.toList) (enR fn.ntmps fn.results.toList rs) ⟨0, []⟩ c false nm0 () (svL as x ++ List.replicate (fn.ntmps - as.length) .unk) ⟨0, []⟩ (zFX (rdR P ⟨0, []⟩ fn.resultTypes.toList rs fn.results.toList))).run = some y := hF;have hal : as.length <= fn.ntmps := zUH c3
 have hlen : (svL as x ++ List.replicate (fn.ntmps - as.length) SV.unk).length = fn.ntmps := by
  rw [zUK, qMI, zV1]; omega
 have hrd : ∀ nm, zJ8 P nm fn.ntmps ⟨0, []⟩ (rdR P ⟨0, []⟩ fn.resultTypes.toList rs fn.results.toList) (enR fn.ntmps fn.results.toList rs) := fun nm => q43 qZW
 have zHX : (enL as).p x ++ List.replicate (fn.ntmps - ((enL as).p x).length) PV.unk = qB (svL as x ++ List.replicate (fn.ntmps - as.length) .unk) := by
  have : (enL as).p x = qB (svL as x) := (qOP as x).symm;rw [qAU, qG5, this, zH, qMI]
 rw [zHX];have hrun := qU.runs (q9I (Γ := none) (wd := zCV) s ht hit hci zFW hrd c qZW (nA (qEZ as x) (qP2 _ _)) hlen (.refl _) hF);refine Runs.zP2 (hrun.mono ?_);rintro e pe ph ⟨env', h', rfl, rfl, k1, k2, k3, k0, k4, k5⟩
 obtain ⟨he, hr⟩ : (e = .normal ∨ e = .ret) ∧ rdR P ⟨0, []⟩ fn.resultTypes.toList rs fn.results.toList env' h' = some y := by
  cases e with
  | normal => exact ⟨.inl rfl, k5⟩
  | ret => exact ⟨.inr rfl, k5⟩
  | exit _ => cases k5
  | goto _ => cases k5
 obtain ⟨_, _, _, hd, _⟩ := qNX k2 k1 hr;refine ⟨_, _, (hrd nm0).wk _ _ _ k2 k1 k3 k0 hr, he, wH rs y, ?_, q57 rs y _⟩;unfold gU;have hll : (fn.results.toList.map q0A).length = (svM (fn.results.toList.map qTS) rs y).length := by rw [qNV, zUO]; exact zTZ c2
 have hl2 : (fn.results.toList.map fun r => (zL (qB (enR fn.ntmps fn.results.toList rs y)) (q0A r)).getD PV.unk) = qB (svM (fn.results.toList.map qTS) rs y) := by
  apply zUX;intro j;rw [zT9, zD (svM _ rs y), zT9]
  cases hj : fn.results.toList[j]? with
  | none =>
    have : (svM (fn.results.toList.map qTS) rs y)[j]? = none := by
     rw [zXP] at hj ⊢;rw [zUO] at hll;omega
    rw [this]; rfl
  | some rr =>
    have hg := qRU (l := svM (fn.results.toList.map qTS) rs y) (base := List.replicate fn.ntmps .unk) c1 hll (fun i hi => by
     have := zT3.1 c4 i hi;rw [zV1]
     exact zUH this) j (q0A rr) (by rw [zT9, hj]; rfl)
    simp only [zT7];rw [zF];unfold enR;rw [hg]
    have hlt : j < (svM (fn.results.toList.map qTS) rs y).length := by
     rw [<- hll, zUO]; exact (zT2.1 hj).1
    rw [zT1 hlt];rfl
 rw [hd.load _ fn.results.toList _ rfl hl2];show some (qD4 (rtL (rt1 P) fn.resultTypes.toList (pvL rs y))) = some (wH rs y)
 rw [qXX fun t z hz => by
  obtain ⟨t', z', rfl⟩ := qCE hz
  exact q92 t' z']
 rfl
end
end Go.Sv
namespace Go.Sv
open Go.Idl
variable {P : Program}
noncomputable section
variable [Gc]
class Hnd where
 ci : CIT
class zJS (P : Program) (G : Nat -> Bool) [Hnd] : Prop where
 ok : ∀ [Yl], q72 P G Hnd.ci
instance (priority := low) zP3 : Hnd := ⟨fun _ _ _ _ _ _ => .fail⟩
instance (priority := low) hndOk0 {G : Nat -> Bool} : @zJS _ P G zP3 := by
 letI : Hnd := zP3
 refine ⟨fun {_} => ?_⟩;intro R nm f as h K r ho ha e;cases e
variable [Yl] {R : Type} {r : R} {G : Nat -> Bool}
end
end Go.Sv
namespace Go.Sv
open Go.Idl
noncomputable section
variable [Gc]
variable [Yl]
variable {P : Program} {G : Nat -> Bool} {nm : Nm} {tab : gY} {nat : xI} {good : FuncId -> Bool} {T : zU} {IT : List (FuncId × zIV)}
omit [Yl] in
theorem q1Z {g : FuncId} {fn : Func} {c : Code} {N : Nat} {args : List PV} {ph : PHp} {R : PV -> PHp -> Prop} (hent : enters P g = true) (hfn : P.funcs[g]? = some fn) (hb : fn.body = some c) (hN : fn.ntmps = N)
 (h : Runs P G false nm c (args ++ List.replicate (N - args.length) .unk) ph fun e pe p => (e = .normal ∨ e = .ret) ∧ ∃ v, gU P fn pe p = some v ∧ R v p) :
 qZC P G nm g args ph R := by
 refine .inr ⟨hent, fun Z H m zIK hp hbs hv => ?_⟩;refine rX.of hfn hb hN ?_
 have zHX : VRL P Z H (own m ph) (args ++ List.replicate (N - args.length) .unk) (zIK ++ List.replicate (N - zIK.length) undef) := by
  rw [hv.len];refine VRL.append hv ⟨by simp, fun i z v h1 h2 => ?_⟩;rw [zX2] at h1;split at h1
  ·cases h1; exact .unk
  ·cases h1
 refine (h Z H m _ hp hbs zHX).mono ?_;rintro o ⟨Z', m', env', ph', a1, b1, c1, d1, he, v, hr, hR⟩;refine ⟨he, ?_⟩;obtain ⟨u, v1, v2⟩ := qB2 a1 b1 hr;exact ⟨u, v1, Z', m', v, ph', a1, v2, c1, d1, hR⟩
def rtS (P : Program) (ty : TypeId) : SV -> Option SV
 | .d t x => cond t.one (some (.d t x)) none
 | .c (.slice none 0 0) => match xD P ty with
   | some el => (match qIR P 8 el with
     | some t => some (.d (.list el t) [])
     | none => none)
   | none => none
 | .c (.int k x) => some (.c (.int k x))
 | .c .nilIface => some (.c .nilIface)
 | .c (.bool b) => some (.c (.bool b))
 | .c (.string b) => some (.c (.string b))
 | .own k g n => some (.own k g n)
 | .sl k g n o m => some (.sl k g n o m)
 | .ref k o w => some (.ref k o w)
 | .elt k g n w j o => some (.elt k g n w j o)
 | .lp t xs j o => some (.lp t xs j o)
 | .fn f a b => some (.fn f a b)
 | _ => none
theorem q96 {ty : TypeId} {v v' : SV} (e : rtS P ty v = some v') : rt1 P ty v.enc = v'.enc ∧ ∀ h, v.ok h -> v'.ok h := by
 unfold rtS at e;split at e
 ·rename_i t x
  cases ht : t.one with
  | true =>
    rw [ht] at e;cases e;refine ⟨?_, fun h hv => hv⟩;simp only [SV.enc];exact qKP ht
  | false => rw [ht] at e; cases e
 ·split at e
  ·rename_i el hel;split at e
   ·rename_i t ht;cases e;refine ⟨?_, fun h _ => by simp [SV.ok]⟩;simp only [SV.enc, fvv]
    show (match xD P ty with
     | some el => PV.f (.l el 0 [])
     | none => fvv (.slice none 0 0)) = _
    rw [hel];rfl
   ·cases e
  ·cases e
 all_goals first
  | (cases e; exact ⟨by simp only [SV.enc]; rfl, fun h hv => hv⟩)
  | cases e
def q88 (P : Program) : List TypeId -> List SV -> Option (List SV)
 | _, [] => some []
 | ty :: tys, v :: l => (match rtS P ty v, q88 P tys l with
   | some x, some y => some (x :: y)
   | _, _ => none)
 | [], _ :: _ => none
theorem qZ3 : ∀ {tys : List TypeId} {l l' : List SV}, q88 P tys l = some l' -> rtL (rt1 P) tys (qB l) = qB l' ∧ ∀ h, okL h l -> okL h l'
 | tys, [], l', e => by
   have : some [] = some l' := by cases tys <;> exact e
   cases this;exact ⟨by cases tys <;> simp [qB, rtL], fun h hl => hl⟩
 | ty :: tys, v :: l, l', e => by
   unfold q88 at e;split at e
   ·rename_i x y hx hy;cases e;obtain ⟨a1, a2⟩ := q96 hx;obtain ⟨b1, b2⟩ := qZ3 hy;refine ⟨?_, fun h hl => ?_⟩
    ·simp only [qB, rtL, a1, b1]
    ·simp only [okL] at hl ⊢;exact ⟨a2 h hl.1, b2 h hl.2⟩
   ·cases e
 | [], _ :: _, _, e => by cases e
def qTX : List SV -> SV
 | [v] => v
 | vs => .tup vs
def zDK {R : Type} (P : Program) (zJ9 : List TypeId) (rl : List Nat) (K : SV -> SH -> zHP R) : wP none R := fun e _ env h => match e with
 | .normal => (match qHU rl env with
   | some vs => (match q88 P zJ9 vs with
     | some ws => K (qTX ws) h
     | none => .fail)
   | none => .fail)
 | .ret => (match qHU rl env with
   | some vs => (match q88 P zJ9 vs with
     | some ws => K (qTX ws) h
     | none => .fail)
   | none => .fail)
 | _ => .fail
def q7H : List ResultVar -> Option (List Nat)
 | [] => some []
 | .tmp t :: l => (q7H l).map (t :: ·)
 | .cell _ _ :: _ => none
omit [Yl] in
theorem qK5 {env : List PV} {ph : PHp} : ∀ {l : List ResultVar} {rl : List Nat}, q7H l = some rl -> qH2 P env ph l = some (rl.map fun t => (zL env t).getD .unk)
 | [], rl, e => by cases e; rfl
 | .tmp t :: l, rl, e => by
   obtain ⟨rl', h1, rfl⟩ := zT6.1 e;simp only [qH2, q4J, qK5 h1, zUB]
 | .cell _ _ :: _, rl, e => by cases e
abbrev Ans := List (FuncId × (An × List Ty))
def ciN [Hnd] (P : Program) (G : Nat -> Bool) (T : zU) (IT : List (FuncId × zIV)) (ans : Ans) : Nat -> CIT
 | 0 => fun R nm f as h K => Hnd.ci R nm f as h K
 | n + 1 => fun R nm f as h K => match P.funcs[f]?, lkA f ans with
   | some fn, some (an, rs) => (match fn.body, q7H fn.results.toList with
     | some c, some rl => cond (enters P f && Nat.ble as.length fn.ntmps) (ev (Γ := none) P G T IT (ciN P G T IT ans n) yi0 an (rdR P h fn.resultTypes.toList rs fn.results.toList) (enR fn.ntmps fn.results.toList rs) h c false nm () (as ++ List.replicate (fn.ntmps - as.length) .unk) h (zDK P fn.resultTypes.toList rl K)) .fail
     | _, _ => .fail)
   | _, _ => Hnd.ci R nm f as h K
theorem qO5 {env : List SV} : ∀ {rl : List Nat} {vs : List SV}, qHU rl env = some vs -> (rl.map fun t => (zL (qB env) t).getD PV.unk) = qB vs
 | [], vs, e => by cases e; simp [qB]
 | i :: is, vs, e => by
   unfold qHU at e;split at e
   ·rename_i v l hx hl;cases e;rw [zUB, qO5 hl, zF, hx];simp [qB]
   ·cases e
theorem q1I (l : List SV) : (qTX l).enc = qD4 (qB l) := by
 match l with
 | [] => simp [qTX, qD4, SV.enc, qB]
 | [v] => simp [qTX, qD4, qB]
 | a :: b :: l => simp [qTX, qD4, SV.enc, qB]
omit [Yl] in
theorem q6V {h : SH} {l : List SV} (hl : okL h l) : (qTX l).ok h := by
 match l, hl with
 | [], hl => simp [qTX, SV.ok, okL]
 | [v], hl => simp only [okL] at hl; exact hl.1
 | a :: b :: l, hl => simp only [qTX, SV.ok]; exact hl
theorem q5Q [Hnd] [zJS P G] (s : zIN P good nat G tab) (ht : qY6 tab T) (hit : q9G P G IT) (ans : Ans) : ∀ n, q72 P G (ciN P G T IT ans n)
 | 0 => by
   intro nm f as h K r ho ha e;unfold ciN at e;exact zJS.ok (P := P) (G := G) nm f as h K r ho ha e
 | n + 1 => by
   intro nm f as h K r ho ha e;unfold ciN at e;split at e
   case h_2 =>
    exact zJS.ok (P := P) (G := G) nm f as h K r ho ha e
   rename_i fn an rs hfn hans;split at e
   case h_2 => cases e
   rename_i c rl hbody hrl;obtain ⟨hc, e⟩ := qH e;rw [zTY] at hc;have hal : as.length <= fn.ntmps := zUH hc.2
   have hlen : (as ++ List.replicate (fn.ntmps - as.length) SV.unk).length = fn.ntmps := by
    rw [zUK, zV1]; omega
   refine q1Z hc.1 hfn hbody rfl ?_
   have zHX : qB as ++ List.replicate (fn.ntmps - (qB as).length) PV.unk = qB (as ++ List.replicate (fn.ntmps - as.length) .unk) := by
    rw [qAU, qG5, zH]
   rw [zHX];refine (qU.runs (q9I (Γ := none) (wd := zCV) s ht hit (q5Q s ht hit ans n) zFW (fun nm => q43 ho) c ho (nA ha (qP2 _ _)) hlen (.refl _) e)).mono ?_;rintro ex pe ph ⟨env', h', rfl, rfl, k1, k2, k3, k0, k4, k5⟩
   have key : ∀ {vs ws : List SV}, qHU rl env' = some vs -> q88 P fn.resultTypes.toList vs = some ws -> (K (qTX ws) h').run = some r -> ∃ v, gU P fn (qB env') (qI h'.l) = some v ∧ ∃ v' h2, v = v'.enc ∧ qI h'.l = qI h2.l ∧ Post P h h2 v' ∧ (K v' h2).run = some r := fun {vs ws} hvs hws hk => by
    obtain ⟨a1, a2⟩ := qZ3 hws;refine ⟨(qTX ws).enc, ?_, qTX ws, h', rfl, rfl, ⟨k0, k2, q6V (a2 _ (yY.2 fun z hz => yY.1 k1 z (qF3 hvs z hz)))⟩, hk⟩;unfold gU;rw [qK5 hrl, qO5 hvs, q1I, <- a1];rfl
   cases ex with
   | normal =>
     simp only [zDK] at k5;split at k5
     ·split at k5
      ·exact ⟨.inl rfl, key ‹_› ‹_› k5⟩
      ·cases k5
     ·cases k5
   | ret =>
     simp only [zDK] at k5;split at k5
     ·split at k5
      ·exact ⟨.inr rfl, key ‹_› ‹_› k5⟩
      ·cases k5
     ·cases k5
   | exit _ => cases k5
   | goto _ => cases k5
end
noncomputable section
variable [Gc]
variable {P : Program} {G : Nat -> Bool} {nm : Nm} {tab : gY} {nat : xI} {good : FuncId -> Bool} {T : zU} {IT : List (FuncId × zIV)}
def Lib (P : Program) (good : FuncId -> Bool) (G : Nat -> Bool) (T : zU) (IT : List (FuncId × zIV)) : Prop := ∃ nat tab, zIN P good nat G tab ∧ (∀ [Yl], qY6 tab T) ∧ ∀ [Yl], q9G P G IT
theorem Lib.zJE (L : Lib P good G T IT) (g : FuncId) (as rs : List Ty) (F : TyL as -> Option (TyL rs)) (hent : enters P g = true)
 (h : ∀ {nat : xI}, Setup P good nat G -> ∀ (x : TyL as) (y : TyL rs) (args : List Value) (H : IH), F x = some y -> (∃ Z : Nat -> Prop, VRL P Z H (fun _ => none) ((enL as).p x) args ∧ ∀ b, Z b -> b < H.size) -> H.base <= H.size -> GlH H -> rX P G g args H fun q => q0W P (enL as) F (wH rs) x args H q.1 q.2) : Lib P good G ((g, ⟨as, rs, F⟩) :: T) IT := by
 obtain ⟨nat, tab, s, ht, hit⟩ := L
 letI : Yl := ⟨0⟩
 refine ⟨_, _, s.zJE (enL as) F (wH rs) hent (qU8 rs) (h s.s), ?_, hit⟩;intro _ g' ent hg x;have hg : cond (Nat.beq g' g) (some (⟨as, rs, F⟩ : Ent)) (slT g' T) = some ent := hg;unfold zAU
 cases hb : Nat.beq g' g with
 | true =>
   rw [hb] at hg;cases hg;exact q5E (a := enL as) x
 | false =>
   rw [hb] at hg;exact ht g' ent hg x
theorem Lib.add [Hnd] [zJS P G] (L : Lib P good G T IT) (g : FuncId) (ans : Ans) (n : Nat) (an : An) (as rs : List Ty) (fn : Func) (F : TyL as -> Option (TyL rs)) (hent : enters P g = true) (hfn : P.funcs[g]? = some fn) (hc : qU4 as rs fn = true)
 (hF : ∀ (y : Yl) x, @fnS y P G T IT (ciN P G T IT ans n) an as rs fn x = F x) : Lib P good G ((g, ⟨as, rs, F⟩) :: T) IT := by
 obtain ⟨nat, tab, s, ht, hit⟩ := L
 letI : Yl := ⟨0⟩
 have hF2 : fnS P G T IT (ciN P G T IT ans n) an as rs fn = F := funext fun x => hF ⟨0⟩ x
 have zP4 := zEK (an := an) (as := as) (rs := rs) s ht hit (q5Q s ht hit ans n) hfn hc;rw [hF2] at zP4;refine ⟨_, _, s.add (enL as) F (wH rs) hent (qU8 rs) zP4, ?_, hit⟩;intro _ g' ent hg x;have hg : cond (Nat.beq g' g) (some (⟨as, rs, F⟩ : Ent)) (slT g' T) = some ent := hg;unfold zAU
 cases hb : Nat.beq g' g with
 | true =>
   rw [hb] at hg;cases hg;exact q5E (a := enL as) x
 | false =>
   rw [hb] at hg;exact ht g' ent hg x
theorem Lib.zSG [Hnd] [zJS P G] (L : Lib P good G T IT) (g : FuncId) (ans : Ans) (an : An) (as rs : List Ty) (fn : Func) (F : TyL as -> Option (TyL rs)) (hent : enters P g = true) (hfn : P.funcs[g]? = some fn) (hc : qU4 as rs fn = true)
 (hF : (fun (y : Yl) (x : TyL as) => @fnS y P G T IT (ciN P G T IT ans 3) an as rs fn x) = fun (_ : Yl) x => F x) : Lib P good G ((g, ⟨as, rs, F⟩) :: T) IT := L.add g ans 3 an as rs fn F hent hfn hc fun y x => congrFun (congrFun hF y) x
end
end Go.Sv
