/- A symbolic run, part two. Conditions: none. -/
import Derived.Test.YtjgfemghlhmlbaaGreatDoorSvA
import Derived.Test.YtjgfemghlhmlbaaGreatDoorPur20
set_option linter.all false
namespace Go.Sv
open Go.Idl
variable {env : List SV} {h : SH} {i s : Nat} {ob : PO} {ph ph' : PHp} {ty : TypeId} {v : SV} {x y : PV}
noncomputable section
variable [Gc]
variable [Yl]
variable {P : Program} {R : Type} {r : R} {G : Nat -> Bool} {nm : Nm} {rd : Bool}
def Wk (P : Program) (nm : Nm) (pe : List PV) (ph : PHp) (pe' : List PV) (ph' : PHp) : Prop :=
 ∀ (Z : Nat -> Prop) (H : IH) (m : Nat -> Nat) (vs : List Value), Hp P Z H (own m ph) -> VRL P Z H (own m ph) pe vs ->
  ∃ Z' m', Hp P Z' H (own m' ph') ∧ VRL P Z' H (own m' ph') pe' vs ∧ Step Z H (own m ph) Z' H (own m' ph') ∧ KR (inP nm) (own m ph) (own m' ph')
omit [Yl] in
theorem Wk.refl (pe : List PV) (ph : PHp) : Wk P nm pe ph pe ph := fun Z H m vs hp hv => ⟨Z, m, hp, hv, .refl _ _ _, .refl _ _⟩
omit [Yl] in
theorem Wk.trans {a b c : List PV} {p q s : PHp} (x : Wk P nm a p b q) (y : Wk P nm b q c s) : Wk P nm a p c s := fun Z H m vs hp hv => by
 obtain ⟨Z1, m1, a1, a2, a3, a4⟩ := x Z H m vs hp hv;obtain ⟨Z2, m2, b1, b2, b3, b4⟩ := y Z1 H m1 vs a1 a2;exact ⟨Z2, m2, b1, b2, a3.trans b3, a4.trans b4⟩
omit [Yl] in
theorem Wk.drop {a b : List PV} {p q : PHp} (hw : WkP a b) (hs : qA5 q p) : Wk P nm a p b q := fun Z H m vs hp hv => by
 have hf := Fz.drop hp hs;exact ⟨Z, m, hf.hp, hw.rel (hf.vrl hv), hf.step, hf.kr _⟩
omit [Yl] in
theorem qIV : ∀ {l m : List PV}, l.length = m.length -> (∀ i, zM m i = zM l i ∨ zM m i = some .unk) -> WkP l m
 | [], [], _, _ => .nil
 | [], _ :: _, h, _ => by cases h
 | _ :: _, [], h, _ => by cases h
 | x :: l, y :: m, h, hi => by
   have ih := qIV (l := l) (m := m) (by simpa using h) fun i => hi (i + 1)
   rcases hi 0 with q | q
   ·have q : some y = some x := q;cases q;exact .same ih
   ·have q : some y = some PV.unk := q;cases q;exact .any ih
def fzs (P : Program) : List (Nat × TypeId) -> List SV -> SH -> (List SV -> SH -> zIA R) -> zIA R
 | [], env, h, K => K env h
 | (i, ty) :: l, env, h, K => match zM env i, qIQ P 8 ty with
   | some v, some t => (match q9L P ty t v h with
     | some (x, h') => fzs P l (yQ env i (t.sv x)) h' K
     | none => .fail)
   | _, _ => .fail
def kZ (P : Program) (w : List Nat) (env : List SV) (h : SH) (env' : List SV) (h' : SH) : Prop :=
 okL h' env' ∧ OkH P h' ∧ Keep h h' ∧ (∀ i, i ∉ w -> zM (qA env') i = zM (qA env) i) ∧ env'.length = env.length
theorem kZ.trans {w w2 : List Nat} {env zIE zI5 : List SV} {h h1 h2 : SH} (a : kZ P w env h zIE h1) (b : kZ P w2 zIE h1 zI5 h2) : kZ P (w ++ w2) env h zI5 h2 :=
 ⟨b.1, b.2.1, a.2.2.1.trans b.2.2.1, fun i hi => by
   rw [zRA, not_or] at hi
   exact (b.2.2.2.1 i hi.2).trans (a.2.2.2.1 i hi.1), b.2.2.2.2.trans a.2.2.2.2⟩
theorem kZ.refl {env : List SV} {h : SH} (ho : OkH P h) (he : okL h env) : kZ P [] env h env h := ⟨he, ho, .refl _, fun _ _ => rfl, rfl⟩
theorem kZ.up {w w2 : List Nat} {zIE : List SV} {h1 : SH} (a : kZ P w env h zIE h1) (hw : ∀ i ∈ w, i ∈ w2) : kZ P w2 env h zIE h1 :=
 ⟨a.1, a.2.1, a.2.2.1, fun i hi => a.2.2.2.1 i fun q => hi (hw i q), a.2.2.2.2⟩
theorem qD7 {j : Nat} (h : i ≠ j) : zM (qA (yQ env i v)) j = zM (qA env) j := by
 rw [vK, qW, qD, qD, zRD, if_neg h]
theorem zC2 {h' : SH} (hv : zM env i = some v) (hf : fzP P (qH h.l) v.enc = some (y, qH h'.l)) : Wk P nm (qA env) (qH h.l) (yQ (qA env) i (rt1 P ty y)) (qH h'.l) := by
 intro Z H m vs hp hr
 have hi : (qA env)[i]? = some v.enc := by
  rw [qD] at hv;rw [zC, zQU, hv]; rfl
 obtain ⟨u, hu, hr2⟩ := hr.get hi;obtain ⟨Z', h1, h2⟩ := qJK hp hr2 hf;exact ⟨Z', m, h1.hp, (h1.vrl hr).slot hu (qD6 (oW h2 (qRP hf))), h1.step, h1.kr _⟩
theorem q4X : ∀ {l : List (Nat × TypeId)} {env : List SV} {h : SH} {K : List SV -> SH -> zIA R}, OkH P h -> okL h env -> (fzs P l env h K).run = some r ->
 ∃ env' h', Wk P nm (qA env) (qH h.l) (qA env') (qH h'.l) ∧ kZ P (l.map (·.1)) env h env' h' ∧ (K env' h').run = some r
 | [], env, h, K, ho, he, e => ⟨env, h, .refl _ _, .refl ho he, e⟩
 | (i, ty) :: l, env, h, K, ho, he, e => by
   unfold fzs at e;split at e
   ·rename_i v t hv ht;split at e
    ·rename_i x h' hd;obtain ⟨y, a1, a2, a3, a4⟩ := qDH ho (p8 he hv) hd;have hw := zC2 (nm := nm) (ty := ty) hv a1;have hs : yQ (qA env) i (rt1 P ty y) = qA (yQ env i (t.sv x)) := by rw [vK, o8, a2]
     rw [hs] at hw;obtain ⟨env', h2, b1, b2, b3⟩ := q4X (l := l) a4 (kY (t := i) (v := t.sv x) (qL a3 he) (qKY t x)) e;refine ⟨env', h2, hw.trans b1, ?_, b3⟩
     have h0 : kZ P [i] env h (yQ env i (t.sv x)) h' := ⟨kY (qL a3 he) (qKY t x), a4, a3, fun j hj => qD7 fun q => hj (by rw [q]; exact List.mem_singleton_self j), fF _ _ _⟩
     exact h0.trans b2
    ·cases e
   ·cases e
omit [Yl] in
theorem Wk.zPQ {env : List PV} (i k : Nat) (el : TypeId) (hi : zM env i = some (fvv (.slice none 0 0))) (hs : szT P el = some (s + 1)) (hf : fresh nm k env ph = true) : Wk P nm env ph (yQ env i (.own k 0 0 0)) ((k, ⟨el, true, []⟩) :: ph) := by
 intro Z H m zIC hp he;rw [qD] at hi;obtain ⟨v, hv, hr⟩ := he.get hi;have hvn : v = .slice none 0 0 := yP hr rfl;subst hvn;obtain ⟨f1, f2, f3⟩ := zCB nm hf;have hnew : own m ((k, ⟨el, true, []⟩) :: ph) k = some (m k, ⟨el, true, []⟩) := by simp [own, qB]
 have hold : ∀ j, j ≠ k -> own m ((k, ⟨el, true, []⟩) :: ph) j = own m ph j := fun j hj => by
  unfold own; rw [gX hj]
 have hkr : KR (fun j => j == k) (own m ph) (own m ((k, ⟨el, true, []⟩) :: ph)) := fun j b ob hk => by
  by_cases hj : j = k
  ·exact .inr (.inr (by simp [hj]))
  ·rw [hold j hj] at hk; exact .inl ⟨ob, hk, rfl, rfl, rfl⟩
 have mono : ∀ {xs : List PV} {vs : List Value}, VRL P Z H (own m ph) xs vs -> yD k xs = true -> VRL P Z H (own m ((k, ⟨el, true, []⟩) :: ph)) xs vs := fun h hn => h.mono (fun _ h => h) (zQO _) (fun _ _ _ => rfl) hkr fun j hj => by
  have : j = k := by simpa using hj
  subst this; exact hn
 have hp' : Hp P Z H (own m ((k, ⟨el, true, []⟩) :: ph)) := by
  refine ⟨hp.zlt, fun j b ob hk => ?_, fun j j' b b' ob ob' h1 h2 r1 r2 hne => ?_, hp.gl⟩
  ·by_cases hj : j = k
   ·subst hj; rw [hnew] at hk; cases hk; exact .inl ⟨rfl, rfl⟩
   ·rw [hold j hj] at hk
    rcases hp.obj j b ob hk with h | ⟨a1, a2, a3, a4⟩
    ·exact .inl h
    ·exact .inr ⟨a1, a2, a3, a4.mono rfl fun _ a5 => mono a5 (wT f3 (uV hk).1)⟩
  ·by_cases hj : j = k
   ·subst hj; rw [hnew] at h1; cases h1; exact absurd ⟨rfl, rfl⟩ r1
   ·by_cases hj' : j' = k
    ·subst hj'; rw [hnew] at h2; cases h2; exact absurd ⟨rfl, rfl⟩ r2
    ·rw [hold j hj] at h1; rw [hold j' hj'] at h2;exact hp.inj j j' b b' ob ob' h1 h2 r1 r2 hne
 have hown : VR P Z H (own m ((k, ⟨el, true, []⟩) :: ph)) (.own k 0 0 0) (.slice none 0 0) := .own rfl fun b ob hM => by
  rw [hnew] at hM; cases hM;exact ⟨s + 1, hs, by omega, by simp, fun _ => .inl ⟨rfl, rfl, rfl, rfl, rfl⟩⟩
 have hst : Step Z H (own m ph) Z H (own m ((k, ⟨el, true, []⟩) :: ph)) := ⟨zQO _, rfl, fun _ h => h, fun _ _ _ => rfl, fun b h _ => .inl h, fun b ⟨j, ob, h1, h2⟩ _ => by
  by_cases hj : j = k
  ·subst hj; rw [hnew] at h1; cases h1; exact absurd ⟨rfl, rfl⟩ h2
  ·rw [hold j hj] at h1; exact ⟨j, ob, h1, h2⟩⟩
 have hup : KR (inP nm) (own m ph) (own m ((k, ⟨el, true, []⟩) :: ph)) := hkr.up fun j hj => by
  have e : j = k := by simpa using hj
  rw [e]; exact f1
 exact ⟨Z, m, hp', (mono he f2).slot hv hown, hst, hup⟩
omit [Yl] in
theorem Wk.zOE {env : List PV} (kb i k : Nat) (el : TypeId) (hk : qB kb ph = some ob) (hsp : spec P ob.el = false) (hgr : ob.gr = false) (hi : zM ob.cs i = some (fvv (.slice none 0 0))) (hs : szT P el = some (s + 1)) (hf : fresh nm k env ph = true) (hne : k ≠ kb) :
 Wk P nm env ph env ((k, ⟨el, true, []⟩) :: xN kb ⟨ob.el, false, yQ ob.cs i (.own k 0 0 0)⟩ ph) := by
 intro Z H m zIC hp he;obtain ⟨f1, f2, f3⟩ := zCB nm hf;generalize zPR : (k, (⟨el, true, []⟩ : PO)) :: xN kb ⟨ob.el, false, yQ ob.cs i (.own k 0 0 0)⟩ ph = ph'
 have hM' : ∀ j, own m ph' j = if j = k then some (m k, ⟨el, true, []⟩) else if j = kb then some (m kb, ⟨ob.el, false, yQ ob.cs i (.own k 0 0 0)⟩) else own m ph j := fun j => by
  subst zPR;unfold own;by_cases h1 : j = k
  ·subst h1; simp [qB]
  ·rw [if_neg h1, gX h1, zZ];by_cases h2 : j = kb
   ·subst h2; rw [if_pos ⟨rfl, by rw [hk]; rfl⟩, if_pos rfl]; rfl
   ·rw [if_neg (fun h => h2 h.1), if_neg h2]
 have hnew : own m ph' k = some (m k, ⟨el, true, []⟩) := by rw [hM', if_pos rfl]
 have zJO : own m ph' kb = some (m kb, ⟨ob.el, false, yQ ob.cs i (.own k 0 0 0)⟩) := by rw [hM', if_neg hne.symm, if_pos rfl]
 have hold : ∀ j, j ≠ k -> j ≠ kb -> own m ph' j = own m ph j := fun j h1 h2 => by rw [hM', if_neg h1, if_neg h2]
 have hkM : own m ph kb = some (m kb, ob) := qP hk
 have hkr : KR (fun j => j == k) (own m ph) (own m ph') := fun j b o hj => by
  by_cases h1 : j = k
  ·exact .inr (.inr (by simp [h1]))
  ·by_cases h2 : j = kb
   ·subst h2;rw [zJO] at hj;cases hj;exact .inl ⟨ob, hkM, by simp [qW], rfl, hgr⟩
   ·rw [hold j h1 h2] at hj; exact .inl ⟨o, hj, rfl, rfl, rfl⟩
 have mono : ∀ {xs : List PV} {vs : List Value}, VRL P Z H (own m ph) xs vs -> yD k xs = true -> VRL P Z H (own m ph') xs vs := fun h hn => h.mono (fun _ h => h) (zQO _) (fun _ _ _ => rfl) hkr fun j hj => by
  have : j = k := by simpa using hj
  subst this; exact hn
 have hown : VR P Z H (own m ph') (.own k 0 0 0) (.slice none 0 0) := .own rfl fun b o hM => by
  rw [hnew] at hM; cases hM;exact ⟨s + 1, hs, by omega, by simp, fun _ => .inl ⟨rfl, rfl, rfl, rfl, rfl⟩⟩
 have zJA : ¬ (ob.gr = true ∧ ob.cs = []) := fun h => by rw [hgr] at h; cases h.1
 have hp' : Hp P Z H (own m ph') := by
  refine ⟨hp.zlt, fun j b o hj => ?_, fun j j' b b' o o' h1 h2 r1 r2 hn => ?_, hp.gl⟩
  ·by_cases h1 : j = k
   ·subst h1; rw [hnew] at hj; cases hj; exact .inl ⟨rfl, rfl⟩
   ·by_cases h2 : j = kb
    ·subst h2;rw [zJO] at hj; cases hj
     rcases hp.obj j _ ob hkM with h | ⟨a1, a2, a3, ⟨_, vs, a4, a5, a6⟩ | ⟨hs2, _⟩⟩
     rotate_right 1
     ·rw [hsp] at hs2; cases hs2
     ·exact absurd h zJA
     ·have hv := mono a5 (wT f3 hk);obtain ⟨v, hv1, hv2⟩ := a5.get (i := i) (by rw [<- qD]; exact hi);have : v = .slice none 0 0 := yP hv2 rfl;subst this;refine .inr ⟨a1, a2, a3, .inl ⟨hsp, vs, ?_, hv.slot hv1 hown, a6⟩⟩;rw [a4, hgr]
    ·rw [hold j h1 h2] at hj
     rcases hp.obj j b o hj with h | ⟨a1, a2, a3, a4⟩
     ·exact .inl h
     ·exact .inr ⟨a1, a2, a3, a4.mono rfl fun _ a5 => mono a5 (wT f3 (uV hj).1)⟩
  ·have tr : ∀ {j b o}, own m ph' j = some (b, o) -> ¬ (o.gr = true ∧ o.cs = []) -> ∃ o2, own m ph j = some (b, o2) ∧ ¬ (o2.gr = true ∧ o2.cs = []) := fun {j b o} hj hr => by
    by_cases h1 : j = k
    ·subst h1; rw [hnew] at hj; cases hj; exact absurd ⟨rfl, rfl⟩ hr
    ·by_cases h2 : j = kb
     ·subst h2; rw [zJO] at hj; cases hj; exact ⟨ob, hkM, zJA⟩
     ·rw [hold j h1 h2] at hj; exact ⟨o, hj, hr⟩
   obtain ⟨o2, q1, q2⟩ := tr h1 r1;obtain ⟨o3, q3, q4⟩ := tr h2 r2;exact hp.inj j j' b b' o2 o3 q1 q3 q2 q4 hn
 have hst : Step Z H (own m ph) Z H (own m ph') := ⟨zQO _, rfl, fun _ h => h, fun _ _ _ => rfl, fun b h _ => .inl h, fun b ⟨j, o, h1, h2⟩ _ => by
  by_cases e1 : j = k
  ·subst e1; rw [hnew] at h1; cases h1; exact absurd ⟨rfl, rfl⟩ h2
  ·by_cases e2 : j = kb
   ·subst e2; rw [zJO] at h1; cases h1; exact ⟨j, ob, hkM, zJA⟩
   ·rw [hold j e1 e2] at h1; exact ⟨j, o, h1, h2⟩⟩
 exact ⟨Z, m, hp', mono he f2, hst, hkr.up fun j hj => by
  have e : j = k := by simpa using hj
  rw [e]; exact f1⟩
def qEB : SV -> Bool
 | .c (.slice none 0 0) => true
 | _ => false
theorem qFG (e : qEB v = true) : v.enc = fvv (.slice none 0 0) := by
 unfold qEB at e;split at e
 ·simp [SV.enc]
 ·cases e
def qI7 (P : Program) (nm : Nm) : List (Nat × TypeId) -> List SV -> SH -> (List SV -> SH -> zIA R) -> zIA R
 | [], env, h, K => K env h
 | (i, el) :: l, env, h, K => match zM env i with
   | some v => cond (qEB v) (match szT P el, qIQ P 8 el with
     | some (s + 1), some t => cond (Nat.beq t.w (s + 1) && qEL nm (nm.b + i) env h) (qI7 P nm l (yQ env i (.own (nm.b + i) h.next 0)) (h.new (nm.b + i) fun v => .list el true v v t []) K) .fail
     | _, _ => .fail) (qI7 P nm l env h K)
   | none => .fail
theorem dH : ∀ {l : List (Nat × TypeId)} {env : List SV} {h : SH} {K : List SV -> SH -> zIA R}, OkH P h -> okL h env -> (qI7 P nm l env h K).run = some r ->
 ∃ env' h', Wk P nm (qA env) (qH h.l) (qA env') (qH h'.l) ∧ kZ P (l.map (·.1)) env h env' h' ∧ (K env' h').run = some r
 | [], env, h, K, ho, he, e => ⟨env, h, .refl _ _, .refl ho he, e⟩
 | (i, el) :: l, env, h, K, ho, he, e => by
   unfold qI7 at e;split at e
   ·rename_i v hv
    cases hn : qEB v with
    | false =>
      rw [hn] at e;obtain ⟨env', h2, b1, b2, b3⟩ := dH (l := l) ho he e;exact ⟨env', h2, b1, b2.up fun j hj => zQS _ hj, b3⟩
    | true =>
      rw [hn] at e;simp only [cond_true] at e;split at e
      ·rename_i s t hs ht;obtain ⟨c, e1⟩ := qG e;rw [zQM] at c;have hw : t.w = s + 1 := zQN c.1;have hn2 := kX (k := nm.b + i) (f := fun v => .list el true v v t []) ho ⟨rfl, rfl, by rw [hs, hw], by omega⟩
       have hfr : fresh nm (nm.b + i) (qA env) (qH h.l) = true := by
        have c2 := c.2;unfold qEL at c2;simp only [zQM] at c2;unfold fresh;rw [c2.1, c2.2.1, uS c2.2.2]; rfl
       have hwk : Wk P nm (qA env) (qH h.l) (qA (yQ env i (.own (nm.b + i) h.next 0))) (qH (h.new (nm.b + i) fun v => .list el true v v t []).l) := by
        have := Wk.zPQ (P := P) (nm := nm) (ph := qH h.l) i (nm.b + i) el (by rw [zF, hv, zQW, qFG hn]) hs hfr;rw [vK];simpa [SV.enc, SH.new, qH, SO.enc] using this
       have hok : (SV.own (nm.b + i) h.next 0).ok (h.new (nm.b + i) fun v => .list el true v v t []) := wH (xs := ([] : List t.sem)) rfl;obtain ⟨env', h2, b1, b2, b3⟩ := dH (l := l) hn2.2 (kY (t := i) (qL hn2.1 he) hok) e1;refine ⟨env', h2, hwk.trans b1, ?_, b3⟩
       have h0 : kZ P [i] env h (yQ env i (.own (nm.b + i) h.next 0)) (h.new (nm.b + i) fun v => .list el true v v t []) := ⟨kY (qL hn2.1 he) hok, hn2.2, hn2.1, fun j hj => qD7 fun q => hj (by rw [q]; exact List.mem_singleton_self j), fF _ _ _⟩
       exact h0.trans b2
      ·cases e
   ·cases e
theorem Hp.rel {Z : Nat -> Prop} {H : IH} {m : Nat -> Nat} {k L : Nat} (hp : Hp P Z H (own m ph)) (hk : qB k ph = some ob) (h1 : ob.el = 1000000001) (h2 : ob.gr = false) (h3 : spec P 1000000001 = true) (hL : qB L ph' = some ob)
 (hs : ∀ j o, j ≠ L -> qB j ph' = some o -> j ≠ k ∧ qB j ph = some o ∧ yD L o.cs = true) :
 Hp P Z H (own (fun j => if j = L then m k else m j) ph') ∧ Step Z H (own m ph) Z H (own (fun j => if j = L then m k else m j) ph') ∧ KR (fun j => j == L) (own m ph) (own (fun j => if j = L then m k else m j) ph') := by
 have zJA : Go.Idl.real ob := fun h => by rw [h2] at h; cases h.1
 have hnew : own (fun j => if j = L then m k else m j) ph' L = some (m k, ob) := by unfold own; rw [hL]; simp
 have hold : ∀ {j b o}, j ≠ L -> own (fun j => if j = L then m k else m j) ph' j = some (b, o) -> j ≠ k ∧ own m ph j = some (b, o) ∧ yD L o.cs = true := fun {j b o} hj h => by
  obtain ⟨a1, a2⟩ := uV h;obtain ⟨b1, b2, b3⟩ := hs j o hj a1;simp only [if_neg hj] at a2;exact ⟨b1, by rw [a2]; exact qP b2, b3⟩
 have hkr : KR (fun j => j == L) (own m ph) (own (fun j => if j = L then m k else m j) ph') := fun j b' ob' h => by
  by_cases hj : j = L
  ·exact .inr (.inr (by simp [hj]))
  ·exact .inl ⟨ob', (hold hj h).2.1, rfl, rfl, rfl⟩
 have hown : ∀ {j b o}, own (fun j => if j = L then m k else m j) ph' j = some (b, o) -> ∃ j', own m ph j' = some (b, o) ∧ ((j = L ∧ j' = k) ∨ (j ≠ L ∧ j' = j ∧ j ≠ k)) := fun {j b o} h => by
  by_cases hj : j = L
  ·subst hj;rw [hnew] at h; cases h;exact ⟨k, qP hk, .inl ⟨rfl, rfl⟩⟩
  ·exact ⟨j, (hold hj h).2.1, .inr ⟨hj, rfl, (hold hj h).1⟩⟩
 refine ⟨⟨hp.zlt, fun j b o hj => ?_, fun j j' b b' o o' e1 e2 r1 r2 hne => ?_, hp.gl⟩, ⟨zQO _, rfl, fun _ h => h, fun _ _ _ => rfl, fun _ h _ => .inl h, fun b ⟨j, o, hj, hr⟩ _ => ?_⟩, hkr⟩
 ·by_cases hjL : j = L
  ·subst hjL;rw [hnew] at hj; cases hj
   rcases hp.obj k (m k) ob (qP hk) with q | ⟨x1, x2, x3, x4⟩
   ·exact absurd q zJA
   ·refine .inr ⟨x1, x2, x3, ?_⟩
    rcases x4 with ⟨y, _⟩ | ⟨y1, y2 | ⟨q, _⟩⟩
    ·rw [h1, h3] at y; cases y
    ·exact .inr ⟨y1, .inl y2⟩
    ·rw [h1] at q; cases q
  ·obtain ⟨a1, a2, a3⟩ := hold hjL hj
   rcases hp.obj j b o a2 with q | ⟨x1, x2, x3, x4⟩
   ·exact .inl q
   ·exact .inr ⟨x1, x2, x3, x4.mono rfl fun vs hv => hv.mono (fun _ h => h) (zQO _) (fun _ _ _ => rfl) hkr fun i hi => by
     have : i = L := by simpa using hi
     rw [this]; exact a3⟩
 ·obtain ⟨i1, q1, c1⟩ := hown e1;obtain ⟨i2, q2, c2⟩ := hown e2;refine hp.inj i1 i2 b b' o o' q1 q2 r1 r2 fun e => ?_
  rcases c1 with ⟨rfl, rfl⟩ | ⟨c1, rfl, c1'⟩ <;> rcases c2 with ⟨rfl, rfl⟩ | ⟨c2, rfl, c2'⟩
  ·exact hne rfl
  ·exact c2' e.symm
  ·exact c1' e
  ·exact hne e
 ·obtain ⟨i, q, _⟩ := hown hj;exact ⟨i, o, q, hr⟩
omit [Yl] in
theorem qRO {j : Nat} {o : SO} : ∀ {l : List (Nat × SO)}, slk j l = some o -> (j, o) ∈ l
 | (i, p) :: l, h => by
   have h : cond (j == i) (some p) (slk j l) = some o := h
   cases hj : j == i with
   | true =>
     rw [hj] at h; cases h;have : j = i := by simpa using hj
     subst this;simp
   | false =>
     rw [hj] at h;exact zQS _ (qRO h)
def q1C (L : Nat) (l : List (Nat × SO)) : List Nat := (l.filter fun p => !qL8 L [p]).map (·.1)
def qUR : List Nat -> List (Nat × SO) -> List (Nat × SO)
 | [], l => l
 | k :: ks, l => sdl k (qUR ks l)
omit [Yl] in
theorem bM {k : Nat} : ∀ (l : List (Nat × SO)), slk k (sdl k l) = none
 | [] => rfl
 | (i, p) :: l => by
   show slk k (cond (k == i) (sdl k l) ((i, p) :: sdl k l)) = none
   cases h : k == i with
   | true => exact bM l
   | false =>
     show cond (k == i) (some p) (slk k (sdl k l)) = none;rw [h]; exact bM l
omit [Yl] in
theorem qQE {j : Nat} {o : SO} : ∀ {ls : List Nat} {l : List (Nat × SO)}, slk j (qUR ls l) = some o -> j ∉ ls ∧ slk j l = some o
 | [], l, h => ⟨by simp, h⟩
 | k :: ks, l, h => by
   have h : slk j (sdl k (qUR ks l)) = some o := h;by_cases hj : j = k
   ·subst hj;rw [bM] at h; cases h
   ·rw [yK hj] at h;obtain ⟨h1, h2⟩ := qQE h;exact ⟨by simp [hj, h1], h2⟩
def zDV (P : Program) (nm : Nm) (i : Nat) (env : List SV) (h : SH) (K : List SV -> SH -> zIA R) : zIA R := match zM env i with
 | some (.mp k) => (match slk k h.l with
   | some (.spc _ (.map es)) => cond (inP nm (nm.b + i) && (yD (nm.b + i) (qA (yQ env i .unk)) && spec P 1000000001))
      (K (yQ env i (.mp (nm.b + i))) ⟨h.next + 1, (nm.b + i, .spc h.next (.map es)) :: qUR (k :: (nm.b + i) :: q1C (nm.b + i) h.l) h.l⟩) .fail
   | _ => .fail)
 | _ => .fail
theorem q63 {K : List SV -> SH -> zIA R} (ho : OkH P h) (he : okL h env) (e : (zDV P nm i env h K).run = some r) :
 ∃ env' h', Wk P nm (qA env) (qH h.l) (qA env') (qH h'.l) ∧ kZ P [i] env h env' h' ∧ (K env' h').run = some r := by
 unfold zDV at e;split at e
 case h_2 => cases e
 rename_i k hi;split at e
 case h_2 => cases e
 rename_i v es hk;obtain ⟨hc, e1⟩ := qG e;simp only [zQM] at hc;obtain ⟨hin, hno, hsp⟩ := hc
 have hlk : ∀ {j : Nat} {o : SO}, j ≠ nm.b + i -> slk j ((nm.b + i, SO.spc h.next (.map es)) :: qUR (k :: (nm.b + i) :: q1C (nm.b + i) h.l) h.l) = some o -> j ≠ k ∧ slk j h.l = some o ∧ yD (nm.b + i) o.enc.cs = true := fun {j o} hj h1 => by
  rw [zK hj] at h1;obtain ⟨a1, a2⟩ := qQE h1;simp only [zQ2, not_or] at a1;refine ⟨a1.1, a2, ?_⟩;have hm := qRO a2
  have : qL8 (nm.b + i) [(j, o)] = true := by
   cases hb : qL8 (nm.b + i) [(j, o)] with
   | true => rfl
   | false =>
     refine absurd ?_ a1.2.2;unfold q1C;exact zQ9.2 ⟨(j, o), zSS.2 ⟨hm, by rw [hb]; rfl⟩, rfl⟩
  have h2 := uS this;have h2 : (yD (nm.b + i) o.enc.cs && dY (nm.b + i) []) = true := h2;rw [zQM] at h2;exact h2.1
 have hself : slk (nm.b + i) ((nm.b + i, SO.spc h.next (.map es)) :: qUR (k :: (nm.b + i) :: q1C (nm.b + i) h.l) h.l) = some (.spc h.next (.map es)) := by
  show cond (nm.b + i == nm.b + i) _ _ = _;simp
 have kp : Keep h ⟨h.next + 1, (nm.b + i, .spc h.next (.map es)) :: qUR (k :: (nm.b + i) :: q1C (nm.b + i) h.l) h.l⟩ := by
  refine ⟨Nat.le_succ _, fun j o hj hw => ?_, fun j el gr g w t xs hj hg => ?_⟩
  ·by_cases hjL : j = nm.b + i
   ·subst hjL;rw [hself] at hj; cases hj;exact absurd hw (Nat.lt_irrefl _)
   ·exact (hlk hjL hj).2.1
  ·by_cases hjL : j = nm.b + i
   ·subst hjL;rw [hself] at hj; cases hj
   ·exact ⟨w, xs, (hlk hjL hj).2.1, rfl⟩
 have ok : OkH P ⟨h.next + 1, (nm.b + i, .spc h.next (.map es)) :: qUR (k :: (nm.b + i) :: q1C (nm.b + i) h.l) h.l⟩ := by
  refine ⟨fun j o hj => ?_, fun j el w l hj => ?_, fun j el gr g w t xs hj => ?_⟩
  ·by_cases hjL : j = nm.b + i
   ·subst hjL;rw [hself] at hj; cases hj;exact zR5 _
   ·exact zTE (ho.ver j o (hlk hjL hj).2.1)
  ·by_cases hjL : j = nm.b + i
   ·subst hjL;rw [hself] at hj; cases hj
   ·exact qL kp (ho.cells j el w l (hlk hjL hj).2.1)
  ·by_cases hjL : j = nm.b + i
   ·subst hjL;rw [hself] at hj; cases hj
   ·have := ho.list j el gr g w t xs (hlk hjL hj).2.1;exact ⟨zTE this.1, this.2⟩
 refine ⟨_, _, fun Z H m vs hp hv => ?_, ⟨kY (qL kp he) (by simp [SV.ok]), ok, kp, fun j hj => ?_, by rw [qW, zRH]⟩, e1⟩
 ·obtain ⟨r1, r2, r3⟩ := Hp.rel (L := nm.b + i) (ph' := qH ((nm.b + i, SO.spc h.next (.map es)) :: qUR (k :: (nm.b + i) :: q1C (nm.b + i) h.l) h.l)) (ob := (SpO.map es).enc) hp (yI hk) rfl rfl hsp (yI hself) fun j o hj hl => by
   rw [pI] at hl
   cases hq : slk j ((nm.b + i, SO.spc h.next (.map es)) :: qUR (k :: (nm.b + i) :: q1C (nm.b + i) h.l) h.l) with
   | none => rw [hq] at hl; cases hl
   | some o' =>
     rw [hq] at hl;cases hl;obtain ⟨a1, a2, a3⟩ := hlk hj hq;exact ⟨a1, yI a2, a3⟩
  refine ⟨Z, _, r1, ⟨?_, fun j x u hx hu => ?_⟩, r2, r3.up fun j hj => by
   have : j = nm.b + i := by simpa using hj
   rw [this]; exact hin⟩
  ·rw [zI, qW, zRH, <- zI]; exact hv.len
  ·rw [<- qD, zF, qW, qD, zRD] at hx;by_cases hji : i = j
   ·subst hji
    have hlt : i < env.length := by
     rw [qD] at hi;exact (zQQ.1 hi).1
    simp only [if_true, hlt, zQW, zQV] at hx;subst hx;have hv1 := hv.val i _ u (by rw [<- qD, zF, hi]; rfl) hu;simp only [SV.enc] at hv1 ⊢
    cases hv1 with
    | mp g1 g2 =>
      obtain ⟨_, rfl⟩ := g2 _ _ (qP (yI hk));refine qXG fun b' ob' hM => ?_
      have : own (fun j => if j = nm.b + i then m k else m j) (qH ((nm.b + i, SO.spc h.next (.map es)) :: qUR (k :: (nm.b + i) :: q1C (nm.b + i) h.l) h.l)) (nm.b + i) = some (m k, (SpO.map es).enc) := by
       unfold own;rw [yI hself];simp [SO.enc]
      rw [this] at hM;cases hM;exact ⟨rfl, rfl⟩
   ·rw [if_neg hji] at hx;have hx1 : (qA env)[j]? = some x := by rw [<- qD, zF, qD]; exact hx
    refine (hv.val j x u hx1 hu).mono (fun _ h => h) (zQO _) (fun _ _ _ => rfl) r3 fun i' hi' => ?_
    have : i' = nm.b + i := by simpa using hi'
    rw [this];refine vO hno (i := j) ?_;rw [<- qD, zF, qW, qD, zRD, if_neg hji];exact hx
 ·have hji : ¬ i = j := fun h => hj (by simp [h])
  rw [zF, zF, qW, qD, qD, zRD, if_neg hji]
theorem qYW (ho : OkH P h) (he : okL h env) : Wk P nm (qA env) (qH h.l) (qA (yQ env i .unk)) (qH h.l) ∧ kZ P [i] env h (yQ env i .unk) h := by
 refine ⟨Wk.drop (qIV (by rw [zI, zI, qW, zRH]) fun j => ?_) (qA5.refl _), kY he (by simp [SV.ok]), ho, .refl _, fun j hj => ?_, by rw [qW, zRH]⟩
 ·rw [zF, zF, qW, qD, qD, zRD];by_cases hji : i = j
  ·subst hji;simp only [if_true];by_cases hlt : i < env.length
   ·simp only [hlt, if_true, zQW]
    right; simp [SV.enc]
   ·simp only [hlt, if_false]
    left
    rw [zQX (by omega)]
  ·rw [if_neg hji]; exact .inl rfl
 ·have hji : ¬ i = j := fun h => hj (by simp [h])
  rw [zF, zF, qW, qD, qD, zRD, if_neg hji]
omit [Yl] in
theorem qGN {f : PHp -> PV -> Option (FV × PHp)} (hf : ∀ ph x y ph', f ph x = some (y, ph') -> qA5 ph' ph) : ∀ {l : List PV} {ph ph' : PHp} {ys : List FV}, qIR f l ph = some (ys, ph') -> qA5 ph' ph
 | [], ph, ph', ys, h => by cases h; exact .refl _
 | x :: l, ph, ph', ys, h => by
   unfold qIR at h;split at h
   ·rename_i y ph1 h1;split at h
    ·rename_i zs ph2 h2;cases h;exact fun k ob q => hf _ _ _ _ h1 k ob (qGN hf h2 k ob q)
    ·cases h
   ·cases h
omit [Yl] in
theorem qMK : ∀ (n : Nat) (ph : PHp) (x : PV) (y : FV) (ph' : PHp), fz1 P n ph x = some (y, ph') -> qA5 ph' ph
 | 0, ph, x, y, ph', h => by
   cases x with
   | f x =>
     have h : some (x, ph) = some (y, ph') := h;cases h; exact .refl _
   | _ =>
     have h : (none : Option (FV × PHp)) = some (y, ph') := h;cases h
 | n + 1, ph, x, y, ph', h => by
   cases x with
   | f x =>
     have h : some (x, ph) = some (y, ph') := h;cases h; exact .refl _
   | own k t o c =>
     unfold fz1 at h;split at h
     case h_2 => cases h
     split at h
     case h_2 => cases h
     obtain ⟨_, h⟩ := kE h;split at h
     case h_2 => cases h
     rename_i hq;cases h
     exact fun j ob q => by
      have q1 := qGN (qMK n) hq j ob q;rw [wC] at q1;split at q1
      ·cases q1
      ·exact q1
   | _ =>
     have h : (none : Option (FV × PHp)) = some (y, ph') := h;cases h
omit [Yl] in
theorem q8S (h : fzP P ph x = some (y, ph')) : qA5 ph' ph := by
 unfold fzP at h;split at h
 ·split at h
  ·rename_i hq;cases h; exact qGN (qMK 4) hq
  ·cases h
 ·split at h
  ·rename_i hq;cases h; exact qMK 4 _ _ _ _ hq
  ·cases h
omit [Yl] in
theorem Wk.zPS {env : List PV} (kb i : Nat) (ty : TypeId) (hk' : qB kb ph' = some ob) (hsp : spec P ob.el = false) (hgr : ob.gr = false) (hi : zM ob.cs i = some x) (hf : fzP P ph x = some (y, ph')) (hk : qB kb ph = some ob) :
 Wk P nm env ph env (xN kb ⟨ob.el, false, yQ ob.cs i (rt1 P ty y)⟩ ph') := by
 intro Z H m zIC hp he;have hkM : own m ph kb = some (m kb, ob) := qP hk;have zJA : ¬ (ob.gr = true ∧ ob.cs = []) := fun h => by rw [hgr] at h; cases h.1
 rcases hp.obj kb _ ob hkM with h | ⟨_, _, _, ⟨_, vs0, a40, a50, _⟩ | ⟨hs2, _⟩⟩
 rotate_right 1
 ·rw [hsp] at hs2; cases hs2
 ·exact absurd h zJA
 obtain ⟨v, hv1, hv2⟩ := a50.get (i := i) (by rw [<- qD]; exact hi);obtain ⟨Z', fz, hy⟩ := qJK hp hv2 hf;have hyr : ∀ M, VR P Z' H M (rt1 P ty y) v := fun M => qD6 (oW hy (qRP hf))
 have hp1 := fz.hp;have zL3 : own m ph' kb = some (m kb, ob) := qP hk';generalize zPT : xN kb (⟨ob.el, false, yQ ob.cs i (rt1 P ty y)⟩ : PO) ph' = ph2
 have hM' : ∀ j, own m ph2 j = if j = kb then some (m kb, ⟨ob.el, false, yQ ob.cs i (rt1 P ty y)⟩) else own m ph' j := fun j => by
  subst zPT;unfold own;rw [zZ];by_cases h2 : j = kb
  ·subst h2; rw [if_pos ⟨rfl, by rw [hk']; rfl⟩, if_pos rfl]; rfl
  ·rw [if_neg (fun h => h2 h.1), if_neg h2]
 have zJO : own m ph2 kb = some (m kb, ⟨ob.el, false, yQ ob.cs i (rt1 P ty y)⟩) := by rw [hM', if_pos rfl]
 have hold : ∀ j, j ≠ kb -> own m ph2 j = own m ph' j := fun j h2 => by rw [hM', if_neg h2]
 have hkr : ∀ p, KR p (own m ph') (own m ph2) := fun p j b o hj => by
  by_cases h2 : j = kb
  ·subst h2;rw [zJO] at hj;cases hj;exact .inl ⟨ob, zL3, by simp [qW], rfl, hgr⟩
  ·rw [hold j h2] at hj; exact .inl ⟨o, hj, rfl, rfl, rfl⟩
 have mono : ∀ {xs : List PV} {vs : List Value}, VRL P Z' H (own m ph') xs vs -> VRL P Z' H (own m ph2) xs vs := fun h => h.mono (fun _ h => h) (zQO _) (fun _ _ _ => rfl) (hkr fun _ => false) fun j hj => by cases hj
 have hp' : Hp P Z' H (own m ph2) := by
  refine ⟨hp1.zlt, fun j b o hj => ?_, fun j j' b b' o o' h1 h2 r1 r2 hn => ?_, hp1.gl⟩
  ·by_cases h2 : j = kb
   ·subst h2;rw [zJO] at hj; cases hj
    rcases hp1.obj j _ ob zL3 with h | ⟨a1, a2, a3, ⟨_, vs, a4, a5, a6⟩ | ⟨hs2, _⟩⟩
    rotate_right 1
    ·rw [hsp] at hs2; cases hs2
    ·exact absurd h zJA
    ·have hv := mono a5
     have hvv : vs = vs0 := by
      rw [a40] at a4;injection a4 with e1;injection e1 with e2;injection e2 with e3;exact e3.symm
     subst hvv;refine .inr ⟨a1, a2, a3, .inl ⟨hsp, vs, ?_, hv.slot hv1 (hyr _), a6⟩⟩;rw [a4, hgr]
   ·rw [hold j h2] at hj
    rcases hp1.obj j b o hj with h | ⟨a1, a2, a3, a4⟩
    ·exact .inl h
    ·exact .inr ⟨a1, a2, a3, a4.mono rfl fun _ a5 => mono a5⟩
  ·have tr : ∀ {j b o}, own m ph2 j = some (b, o) -> ¬ (o.gr = true ∧ o.cs = []) -> ∃ o2, own m ph' j = some (b, o2) ∧ ¬ (o2.gr = true ∧ o2.cs = []) := fun {j b o} hj hr => by
    by_cases h2 : j = kb
    ·subst h2; rw [zJO] at hj; cases hj; exact ⟨ob, zL3, zJA⟩
    ·rw [hold j h2] at hj; exact ⟨o, hj, hr⟩
   obtain ⟨o2, q1, q2⟩ := tr h1 r1;obtain ⟨o3, q3, q4⟩ := tr h2 r2;exact hp1.inj j j' b b' o2 o3 q1 q3 q2 q4 hn
 have hst : Step Z' H (own m ph') Z' H (own m ph2) := ⟨zQO _, rfl, fun _ h => h, fun _ _ _ => rfl, fun b h _ => .inl h, fun b ⟨j, o, h1, h2⟩ _ => by
  by_cases e2 : j = kb
  ·subst e2; rw [zJO] at h1; cases h1; exact ⟨j, ob, zL3, zJA⟩
  ·rw [hold j e2] at h1; exact ⟨j, o, h1, h2⟩⟩
 exact ⟨Z', m, hp', mono (fz.vrl he), fz.step.trans hst, (fz.kr _).trans (hkr _)⟩
def zDT (P : Program) (i c : Nat) (ty : TypeId) (env : List SV) (h : SH) (K : List SV -> SH -> zIA R) : zIA R := match zM env i, qIQ P 8 ty with
 | some (.ref kb _ _), some t => (match slk kb h.l with
   | some (.cells _ _ cs) => (match zM cs c with
     | some v => (match q9L P ty t v h with
       | some (x, h') => (match slk kb h'.l with
         | some (.cells e _ cs') => cond (!spec P e) (K env (h'.put kb fun v => .cells e v (yQ cs' c (t.sv x)))) .fail
         | _ => .fail)
       | none => .fail)
     | none => .fail)
   | _ => .fail)
 | _, _ => .fail
theorem q6A {c : Nat} {K : List SV -> SH -> zIA R} (ho : OkH P h) (he : okL h env) (e : (zDT P i c ty env h K).run = some r) :
 ∃ env' h', Wk P nm (qA env) (qH h.l) (qA env') (qH h'.l) ∧ kZ P [i] env h env' h' ∧ (K env' h').run = some r := by
 unfold zDT at e;split at e
 case h_2 => cases e
 rename_i kb _ _ t hi ht;split at e
 case h_2 => cases e
 rename_i eb wb cs hkb;split at e
 case h_2 => cases e
 rename_i v hv;split at e
 case h_2 => cases e
 rename_i x h' hd;split at e
 case h_2 => cases e
 rename_i e2 w2 cs2 hkb2;obtain ⟨hc, e1⟩ := qG e;have hvk : v.ok h := p8 (ho.cells _ _ _ _ hkb) hv;obtain ⟨y, a1, a2, a3, a4⟩ := qDH ho hvk hd;have hsp : spec P e2 = false := by simpa using hc
 have hp2 := bD (k := kb) (f := fun v => .cells e2 v (yQ cs2 c (t.sv x))) a4 hkb2 ⟨rfl, kY (a4.cells _ _ _ _ hkb2) (qKY t x)⟩;have hk2 := yI hkb2;have hk1 := yI hkb;have hsub := q8S a1 kb _ hk2
 have hcs : qA cs2 = qA cs := by
  rw [hk1] at hsub;injection hsub with q;injection q with q1 q2 q3;exact q3.symm
 refine ⟨env, h'.put kb fun v => .cells e2 v (yQ cs2 c (t.sv x)), ?_, ⟨qL hp2.1 (qL a3 he), hp2.2, a3.trans hp2.1, fun _ _ => rfl, rfl⟩, e1⟩
 have := Wk.zPS (P := P) (nm := nm) (env := qA env) kb c ty hk2 hsp rfl (x := v.enc) (by
  show zM (qA cs2) c = _
  rw [hcs, zF, hv]; rfl) a1 hsub
 refine this.trans ?_
 have he2 : xN kb ⟨(SO.cells e2 w2 cs2).enc.el, false, yQ (SO.cells e2 w2 cs2).enc.cs c (rt1 P ty y)⟩ (qH h'.l) = qH ((h'.put kb fun v => .cells e2 v (yQ cs2 c (t.sv x))).l) := by
  show _ = qH (sst kb _ h'.l);rw [jD];simp [SO.enc, vK, o8, a2]
 rw [he2];exact .refl _ _
def fzv (P : Program) (nm : Nm) : List (Nat × TypeId) -> List SV -> SH -> (List SV -> SH -> zIA R) -> zIA R
 | [], env, h, K => K env h
 | (i, ty) :: l, env, h, K => cond (Nat.ble 2000000000 ty) (cond (Nat.ble 3000000000 ty) (cond (Nat.ble 4000000000 ty) (zDT P i ((ty - 4000000000) / 100000) ((ty - 4000000000) % 100000) env h fun env h => fzv P nm l env h K) (fzv P nm l (yQ env i .unk) h K)) (zDV P nm i env h fun env h => fzv P nm l env h K)) <| cond (Nat.ble 1000000000 ty) (qI7 P nm [(i, ty - 1000000000)] env h fun env h => fzv P nm l env h K) (fzs P [(i, ty)] env h fun env h => fzv P nm l env h K)
theorem q4W : ∀ {l : List (Nat × TypeId)} {env : List SV} {h : SH} {K : List SV -> SH -> zIA R}, OkH P h -> okL h env -> (fzv P nm l env h K).run = some r ->
 ∃ env' h', Wk P nm (qA env) (qH h.l) (qA env') (qH h'.l) ∧ kZ P (l.map (·.1)) env h env' h' ∧ (K env' h').run = some r
 | [], env, h, K, ho, he, e => ⟨env, h, .refl _ _, .refl ho he, e⟩
 | (i, ty) :: l, env, h, K, ho, he, e => by
   unfold fzv at e
   have go : ∀ {zIE h1}, Wk P nm (qA env) (qH h.l) (qA zIE) (qH h1.l) -> kZ P [i] env h zIE h1 -> (fzv P nm l zIE h1 K).run = some r -> ∃ env' h', Wk P nm (qA env) (qH h.l) (qA env') (qH h'.l) ∧ kZ P (((i, ty) :: l).map (·.1)) env h env' h' ∧ (K env' h').run = some r := fun a b e => by
    obtain ⟨env', h', c1, c2, c3⟩ := q4W (l := l) b.2.1 b.1 e;exact ⟨env', h', a.trans c1, b.trans c2, c3⟩
   cases hb2 : Nat.ble 2000000000 ty with
   | true =>
     rw [hb2] at e
     cases hb3 : Nat.ble 3000000000 ty with
     | true =>
       rw [hb3] at e
       cases hb4 : Nat.ble 4000000000 ty with
       | true =>
         rw [hb4] at e;have e : (zDT P i ((ty - 4000000000) / 100000) ((ty - 4000000000) % 100000) env h fun env h => fzv P nm l env h K).run = some r := e;obtain ⟨zIE, h1, a, b, e1⟩ := q6A (nm := nm) ho he e;exact go a b e1
       | false =>
         rw [hb4] at e;obtain ⟨a, b⟩ := qYW (nm := nm) (i := i) ho he;exact go a b e
     | false =>
       rw [hb3] at e;have e : (zDV P nm i env h fun env h => fzv P nm l env h K).run = some r := e;obtain ⟨zIE, h1, a, b, e1⟩ := q63 (nm := nm) ho he e;exact go a b e1
   | false =>
   rw [hb2] at e
   cases hb : Nat.ble 1000000000 ty with
   | true =>
     rw [hb] at e;obtain ⟨zIE, h1, a, b, e1⟩ := dH (nm := nm) ho he e;exact go a b e1
   | false =>
     rw [hb] at e;obtain ⟨zIE, h1, a, b, e1⟩ := q4X (nm := nm) ho he e;exact go a b e1
def qDE (P : Program) (nm : Nm) : List (Nat × Nat × TypeId × Nat) -> List SV -> SH -> (List SV -> SH -> zIA R) -> zIA R
 | [], env, h, K => K env h
 | (kb, i, el, k) :: l, env, h, K => match slk kb h.l with
   | some (.cells e _ cs) => (match zM cs i with
     | some v => cond (qEB v) (match szT P el, qIQ P 8 el with
       | some (s + 1), some t => cond (Nat.beq t.w (s + 1) && (qEL nm k env h && (!Nat.beq k kb && !spec P e))) (qDE P nm l env ((h.new k fun v => .list el true v v t []).put kb fun v => .cells e v (yQ cs i (.own k h.next 0))) K) .fail
       | _, _ => .fail) (qDE P nm l env h K)
     | none => .fail)
   | _ => .fail
theorem aI : ∀ {l : List (Nat × Nat × TypeId × Nat)} {env : List SV} {h : SH} {K : List SV -> SH -> zIA R}, OkH P h -> okL h env -> (qDE P nm l env h K).run = some r ->
 ∃ h', Wk P nm (qA env) (qH h.l) (qA env) (qH h'.l) ∧ Keep h h' ∧ OkH P h' ∧ (K env h').run = some r
 | [], env, h, K, ho, he, e => ⟨h, .refl _ _, .refl _, ho, e⟩
 | (kb, i, el, k) :: l, env, h, K, ho, he, e => by
   unfold qDE at e;split at e
   case h_2 => cases e
   rename_i eb wb cs hkb;split at e
   case h_2 => cases e
   rename_i v hv
   cases hn : qEB v with
   | false =>
     rw [hn] at e;exact aI (l := l) ho he e
   | true =>
     rw [hn] at e;simp only [cond_true] at e;split at e
     case h_2 => cases e
     rename_i s t hs ht;obtain ⟨c, e1⟩ := qG e;simp only [zQM] at c;have hw : t.w = s + 1 := zQN c.1
     have hne : k ≠ kb := fun q => by
      have := c.2.2.1;rw [q, nG] at this;cases this
     have hsp : spec P eb = false := by simpa using c.2.2.2
     have hn2 := kX (k := k) (f := fun v => .list el true v v t []) ho ⟨rfl, rfl, by rw [hs, hw], by omega⟩;have hok : (SV.own k h.next 0).ok (h.new k fun v => .list el true v v t []) := wH (xs := ([] : List t.sem)) rfl
     have zPU : slk kb (h.new k fun v => .list el true v v t []).l = some (.cells eb wb cs) := by
      rw [show slk kb (h.new k fun v => .list el true v v t []).l = slk kb h.l from zK hne.symm]; exact hkb
     have hcs : okL (h.new k fun v => .list el true v v t []) cs := qL hn2.1 (ho.cells _ _ _ _ hkb);have hp2 := bD (k := kb) (f := fun v => .cells eb v (yQ cs i (.own k h.next 0))) hn2.2 zPU ⟨rfl, kY hcs hok⟩
     have hfr : fresh nm k (qA env) (qH h.l) = true := by
      have c2 := c.2.1;unfold qEL at c2;simp only [zQM] at c2;unfold fresh;rw [c2.1, c2.2.1, uS c2.2.2]; rfl
     obtain ⟨h', b1, b2, b3, b4⟩ := aI (l := l) hp2.2 (qL hp2.1 (qL hn2.1 he)) e1;refine ⟨h', ?_, hn2.1.trans (hp2.1.trans b2), b3, b4⟩;have hk := yI hkb
     have := Wk.zOE (P := P) (nm := nm) (env := qA env) kb i k el hk hsp rfl (by
      show zM (qA cs) i = _
      rw [zF, hv, zQW, qFG hn]) hs hfr hne
     refine Wk.trans this ?_
     have he2 : (k, (⟨el, true, []⟩ : PO)) :: xN kb ⟨(SO.cells eb wb cs).enc.el, false, yQ (SO.cells eb wb cs).enc.cs i (.own k 0 0 0)⟩ (qH h.l) = qH (((h.new k fun v => .list el true v v t []).put kb fun v => .cells eb v (yQ cs i (.own k h.next 0))).l) := by
      show _ = qH (sst kb _ ((k, _) :: h.l));have : (kb == k) = false := by simpa using hne.symm
      show _ = qH (cond (kb == k) _ ((k, _) :: sst kb _ h.l));rw [this];show _ = (k, _) :: qH (sst kb _ h.l);rw [jD];simp [SO.enc, vK, SV.enc]
     rw [he2];exact b1
end
end Go.Sv
namespace Go.Sv
open Go.Idl
variable {c v : SV} {f : Nat -> SO} {gr : Bool} {h h2 : SH} {k w : Nat} {l : List SV}
noncomputable section
variable [Gc]
variable [Yl]
variable {P : Program} {R : Type} {r : R} {nm : Nm}
def zGC : SV -> Option Ty
 | .d t _ => cond t.one (some t) none
 | .c (.int k _) => some (.int k)
 | .c (.bool _) => some .bool
 | .c (.string _) => some .str
 | _ => none
def tyV : SV -> Option Ty
 | .agg l => tyL (l.map zGC)
 | v => zGC v
def zDX : List SV -> Option (List Ty)
 | [] => some []
 | v :: l => match tyV v, zDX l with
   | some t, some ts => some (t :: ts)
   | _, _ => none
def zDU (t : Ty) (v : SV) : Option t.sem := cond t.one (t.zL0 v) (match v with
 | .agg l => t.zK1 l
 | _ => none)
theorem qQJ {t : Ty} {x : t.sem} (e : zDU t v = some x) : v.enc = t.pv x := by
 unfold zDU at e;unfold Ty.pv
 cases ht : t.one with
 | true => rw [ht] at e; exact (qHP e).1
 | false =>
   rw [ht] at e;simp only [cond_false] at e ⊢;split at e
   ·simp only [SV.enc, qAK e]
   ·cases e
def qCF : (ts : List Ty) -> List SV -> Option (TyL ts)
 | [], [] => some ()
 | [t], [v] => zDU t v
 | t :: u :: ts, v :: vs => match zDU t v with
   | some x => (match qCF (u :: ts) vs with
     | some y => some (x, y)
     | none => none)
   | none => none
 | _, _ => none
theorem qJM : ∀ {ts : List Ty} {l : List SV} {s : TyL ts}, qCF ts l = some s -> qA l = qA (svL ts s)
 | [], [], s, e => by simp [svL]
 | [t], [v], s, e => by
   unfold qCF at e;simp only [svL, qA, o8, qQJ e]
 | t :: u :: ts, v :: vs, s, e => by
   unfold qCF at e;split at e
   ·rename_i x hx;split at e
    ·rename_i y hy;cases e;have ih := qJM hy;show qA (v :: vs) = qA (t.sv x :: svL (u :: ts) y);simp only [qA, o8, qQJ hx, ih]
    ·cases e
   ·cases e
 | [], _ :: _, _, e => by cases e
 | t :: ts, [], _, e => by cases ts <;> (unfold qCF at e; cases e)
 | [_], _ :: _ :: _, _, e => by unfold qCF at e; cases e
def qG1 : List Nat -> List SV -> Option (List SV)
 | [], _ => some []
 | i :: is, env => match zM env i, qG1 is env with
   | some v, some l => some (v :: l)
   | _, _ => none
def spD : SpO -> Option SV
 | .map es => some (.d .raw es)
 | .iter s pos => some (.agg [.d .str s, .d (.int .i64) (pos : Int)])
 | .mit _ _ _ _ _ => none
def obD : SO -> Option (SV × Bool)
 | .list el gr _ _ u xs => cond (Nat.beq el 1000000001) none (some (.d (.list el u) xs, gr))
 | .spc _ x => (spD x).map fun v => (v, false)
 | .cells _ _ _ => none
def qZZ : List Nat -> SH -> Option (List SV)
 | [], _ => some []
 | k :: ks, h => match slk k h.l, qZZ ks h with
   | some ob, some l => (match obD ob with
     | some p => some (p.1 :: l)
     | none => none)
   | _, _ => none
def q57 : List Nat -> SH -> Option (List (Nat × Bool))
 | [], _ => some []
 | k :: ks, h => match slk k h.l, q57 ks h with
   | some ob, some l => (match obD ob with
     | some p => some ((k, p.2) :: l)
     | none => none)
   | _, _ => none
def qEE (i : Nat) : List Nat -> Bool
 | [] => false
 | j :: l => cond (Nat.beq i j) true (qEE i l)
omit [Yl] in
theorem fJ {i : Nat} : ∀ {l : List Nat}, qEE i l = true ↔ i ∈ l
 | [] => by simp [qEE]
 | j :: l => by
   unfold qEE;rw [zQ2]
   cases h : Nat.beq i j with
   | true => simp [zQN h]
   | false =>
     have : i ≠ j := fun e => by subst e; rw [nG] at h; cases h
     simp only [cond_false, fJ (l := l), this, false_or]
def blank (W : List Nat) : Nat -> List SV -> List SV
 | _, [] => []
 | i, x :: l => cond (qEE i W) .unk x :: blank W (i + 1) l
omit [Yl] in
theorem qBR (W : List Nat) : ∀ (i : Nat) (l : List SV), (blank W i l).length = l.length
 | _, [] => rfl
 | i, x :: l => by simp [blank, qBR W (i + 1) l]
omit [Yl] in
theorem qCP (W : List Nat) : ∀ (i j : Nat) (l : List SV), zM (blank W i l) j = (zM l j).map fun x => cond (qEE (i + j) W) SV.unk x
 | _, _, [] => rfl
 | i, 0, x :: l => rfl
 | i, j + 1, x :: l => by
   show zM (blank W (i + 1) l) j = (zM l j).map _;rw [qCP W (i + 1) j l, zSM, zTA 1 j]
omit [Yl] in
theorem qR0 {h : SH} {W : List Nat} : ∀ {i : Nat} {l : List SV}, okL h l -> okL h (blank W i l)
 | _, [], _ => by simp [blank, okL]
 | i, x :: l, hl => by
   simp only [okL] at hl;show okL h (cond (qEE i W) .unk x :: blank W (i + 1) l);simp only [okL];refine ⟨?_, qR0 hl.2⟩;cases qEE i W
   ·exact hl.1
   ·simp [SV.ok]
def eU : List Nat -> List SV -> List SV -> List SV × List SV
 | [], l, env => (env, l)
 | i :: is, c :: l, env => eU is l (yQ env i c)
 | _ :: _, [], env => (env, [])
def q9E (P : Program) (gr : Bool) : SV -> Option (Nat -> SO)
 | .d (.list el u) xs => (match szT P el with
   | some n => cond (Nat.beq n u.w && (Nat.ble 1 n && !Nat.beq el 1000000001)) (some fun v => .list el gr v v u xs) none
   | none => none)
 | .d .raw es => some fun v => .spc v (.map es)
 | .agg [.d .str s, .d (.int .i64) p] => some fun v => .spc v (.iter s (Int.toNat p))
 | _ => none
def qUG (P : Program) : List (Nat × Bool) -> List SV -> SH -> Option SH
 | [], [] => fun h => some h
 | (k, gr) :: ks, c :: l => fun h => (match q9E P gr c with
   | some f => qUG P ks l ((h.del k).new k f)
   | none => none)
 | _, _ => fun _ => none
def mkM : Nat := 1000000000000000
def qUE : List (Nat × Nat) -> SH -> List SV -> Option (List SV)
 | [], _, env => some env
 | (i, k) :: l, h, env => cond (Nat.ble mkM k) (qUE l h (yQ env i (.mp (k - mkM)))) (match slk k h.l with
   | some (.list _ _ g _ _ xs) => qUE l h (yQ env i (.own k g (List.length xs)))
   | _ => none)
def q9U (j : Nat) : Bool := Nat.beq j 1000000000
def zD9 (k w : Nat) : SV -> Option Bool
 | .ref k' off w' => cond (Nat.beq k k' && (Nat.beq off 0 && Nat.beq w w')) (some true) none
 | .c (.pointer none) => some false
 | .opt b k' off w' => cond (Nat.beq k k' && (Nat.beq off 0 && Nat.beq w w')) (some b) none
 | _ => none
theorem q4Q {b : Bool} (e : zD9 k w v = some b) : v.enc = (SV.opt b k 0 w).enc := by
 have eqs : ∀ {k' off w' : Nat} {x y : Option Bool}, cond (Nat.beq k k' && (Nat.beq off 0 && Nat.beq w w')) x none = y -> y ≠ none -> k = k' ∧ off = 0 ∧ w = w' ∧ x = y := fun {k' off w' x y} h hy => by
  cases hc : (Nat.beq k k' && (Nat.beq off 0 && Nat.beq w w')) with
  | false => rw [hc] at h; exact absurd h.symm hy
  | true =>
    rw [hc] at h;simp only [zQM] at hc;exact ⟨zQN hc.1, zQN hc.2.1, zQN hc.2.2, h⟩
 unfold zD9 at e;split at e
 ·obtain ⟨rfl, rfl, rfl, h⟩ := eqs e (by simp);cases h; simp [SV.enc]
 ·cases e; simp [SV.enc]
 ·obtain ⟨rfl, rfl, rfl, h⟩ := eqs e (by simp);cases h; simp [SV.enc]
 ·cases e
def q4Z (k w : Nat) : List (Option Nat) -> List SV -> Option (List SV)
 | [], [] => some []
 | none :: ds, v :: l => (match q4Z k w ds l with
   | some r => some (v :: r)
   | none => none)
 | some j :: ds, v :: l => cond (q9U j) (match zD9 k w v, q4Z k w ds l with
   | some b, some r => some (.d .bool b :: r)
   | _, _ => none) (q4Z k w ds l)
 | _, _ => none
def q27 (k : Nat) (v : SV) (h : SH) : Bool := match v with
 | .own k' g _ => Nat.beq k' k && (match slk k' h.l with
   | some (.list _ _ g' _ _ _) => Nat.beq g g'
   | _ => false)
 | _ => false
def q7G : List (Option Nat) -> List SV -> SH -> Bool
 | some k :: ds, v :: l, h => cond (q9U k) true (q27 k v h) && q7G ds l h
 | none :: ds, _ :: l, h => q7G ds l h
 | _, _, _ => true
def mkB (kb w : Nat) : List (Option Nat) -> List SV -> SH -> Option (List SV × List SV)
 | [], l, _ => some ([], l)
 | none :: ds, c :: l, h => (match mkB kb w ds l h with
   | some p => some (c :: p.1, p.2)
   | none => none)
 | some k :: ds, l, h => cond (q9U k) (match l with
   | c :: l' => (match asB c, mkB kb w ds l' h with
     | some b, some p => some (.opt b kb 0 w :: p.1, p.2)
     | _, _ => none)
   | [] => none) (match slk k h.l with
   | some (.list _ _ g _ _ xs) => (match mkB kb w ds l h with
     | some p => some (.own k g (List.length xs) :: p.1, p.2)
     | none => none)
   | _ => none)
 | none :: _, [], _ => none
def qUF (h1 : SH) : List (Nat × List (Option Nat)) -> List SV -> SH -> Option SH
 | [], _, h => some h
 | (k, ds) :: bs, l, h => match slk k h1.l with
   | some (.cells el _ _) => (match mkB k (List.length ds) ds l h with
     | some p => qUF h1 bs p.2 ((h.del k).new k fun v => .cells el v p.1)
     | none => none)
   | _ => none
def qAF : List (Nat × List (Option Nat)) -> SH -> Option (List SV)
 | [], _ => some []
 | (k, ds) :: bs, h => match slk k h.l with
   | some (.cells _ _ l) => (match q4Z k (List.length ds) ds l, qAF bs h with
     | some a, some b => some (a ++ b)
     | _, _ => none)
   | _ => none
def qCG (L : List Nat) (bs : List (Nat × List (Option Nat))) (h1 h : SH) : Bool := bs.all fun p => qEE p.1 L && ((p.2.all fun x => match x with
 | some k => !qEE k L
 | none => true) && (match slk p.1 h1.l, slk p.1 h.l with
 | some (.cells e1 _ _), some (.cells e2 _ l) => Nat.beq e1 e2 && q7G p.2 l h
 | _, _ => false))
def mkS (P : Program) (W : List Nat) (sh : Sh) (ts : List Ty) (os : List (Nat × Bool)) (env : List SV) (h : SH) (s : TyL ts) : Option (List SV × SH) :=
 match qUG P os ((eU sh.d (svL ts s) (blank W 0 env)).2.take os.length) h with
 | some h2 => (match qUF h sh.b ((eU sh.d (svL ts s) (blank W 0 env)).2.drop os.length) h2 with
   | some h3 => (match qUE sh.s h3 (eU sh.d (svL ts s) (blank W 0 env)).1 with
     | some e2 => some (e2, h3)
     | none => none)
   | none => none)
 | none => none
omit [Yl] in
theorem qMB {l m : List PV} {i : Nat} {x : PV} (h : WkP l m) (hx : zM l i = some x) : WkP l (yQ m i x) := by
 rw [qW];rw [qD] at hx
 have hl : l.length = (m.set i x).length := by
  rw [zRH];clear hx
  induction h with
  | nil => rfl
  | same _ ih => simp [ih]
  | any _ ih => simp [ih]
 have hp : ∀ j : Nat, m[j]? = l[j]? ∨ m[j]? = some PV.unk := by
  clear hx hl
  induction h with
  | nil => intro j; exact .inl rfl
  | same _ ih => intro j; cases j with
    | zero => exact .inl rfl
    | succ j => exact ih j
  | any _ ih => intro j; cases j with
    | zero => exact .inr rfl
    | succ j => exact ih j
 refine qIV hl fun j => ?_
 rw [qD, qD, zRD];by_cases e : i = j
 ·subst e;rw [if_pos rfl];split
  ·exact .inl hx.symm
  ·rename_i hlt;have hlt' : i < l.length := (zQQ.1 hx).1;rw [hl, zRH] at hlt';exact absurd hlt' hlt
 ·rw [if_neg e];exact hp j
theorem qW5 : ∀ {is : List Nat} {env l b m rest : List SV}, qG1 is env = some l -> qA (l ++ b) = qA m -> WkP (qA env) (qA rest) -> WkP (qA env) (qA (eU is m rest).1) ∧ qA (eU is m rest).2 = qA b
 | [], env, l, b, m, rest, e, hm, hw => by
   cases e;exact ⟨hw, hm.symm⟩
 | i :: is, env, l, b, m, rest, e, hm, hw => by
   unfold qG1 at e;split at e
   ·rename_i v l' hv hl';cases e
    cases m with
    | nil => simp [qA] at hm
    | cons c m =>
      simp only [zTL, qA, zRP] at hm;show WkP (qA env) (qA (eU is m (yQ rest i c)).1) ∧ qA (eU is m (yQ rest i c)).2 = qA b;refine qW5 hl' hm.2 ?_;rw [vK, <- hm.1];exact qMB hw (by rw [zF, hv]; rfl)
   ·cases e
omit [Yl] in
theorem qG6 : ∀ (is : List Nat) (l env : List SV), (eU is l env).1.length = env.length
 | [], l, env => rfl
 | i :: is, [], env => rfl
 | i :: is, c :: l, env => by
   show (eU is l (yQ env i c)).1.length = _;rw [qG6 is l, fF]
omit [Yl] in
theorem qM4 {h : SH} : ∀ {is : List Nat} {l env : List SV}, okL h l -> okL h env -> okL h (eU is l env).1
 | [], l, env, _, he => he
 | i :: is, [], env, _, he => he
 | i :: is, c :: l, env, hl, he => by
   simp only [okL] at hl;show okL h (eU is l (yQ env i c)).1;exact qM4 hl.2 (kY he hl.1)
omit [Yl] in
theorem qH3 : ∀ {is : List Nat} {l env : List SV} {j : Nat}, j ∉ is -> zM (eU is l env).1 j = zM env j
 | [], l, env, j, _ => rfl
 | i :: is, [], env, j, _ => rfl
 | i :: is, c :: l, env, j, hj => by
   rw [zQ2, not_or] at hj;show zM (eU is l (yQ env i c)).1 j = _;rw [qH3 hj.2, qW, qD, qD, zRD, if_neg (fun e => hj.1 e.symm)]
omit [Yl] in
theorem qC1 {ks : List (Nat × Bool)} (e : qUG P ((k, gr) :: ks) (c :: l) h = some h2) :
 ∃ f, q9E P gr c = some f ∧ qUG P ks l ((h.del k).new k f) = some h2 := by
 unfold qUG at e;split at e
 ·rename_i f hf; exact ⟨f, hf, e⟩
 ·cases e
omit [Yl] in
theorem q4L (e : q9E P gr c = some f) (h : SH) (n : Nat) : zAN P h n (f n) := by
 unfold q9E at e;split at e
 ·rename_i el u xs;split at e
  ·rename_i m hm
   cases hc : (Nat.beq m u.w && (Nat.ble 1 m && !Nat.beq el 1000000001)) with
   | false => rw [hc] at e; cases e
   | true =>
     rw [hc] at e;cases e;simp only [zQM] at hc;have hw : m = u.w := zQN hc.1;have h1 := zQ4 hc.2.1;exact ⟨rfl, rfl, by rw [hm, hw], by omega⟩
  ·cases e
 ·cases e; rfl
 ·cases e; rfl
 ·cases e
omit [Yl] in
theorem qNV : ∀ {os : List (Nat × Bool)} {l : List SV} {h h2 : SH}, OkH P h -> qUG P os l h = some h2 -> Keep h h2 ∧ OkH P h2 ∧ ∀ k, k ∉ os.map (·.1) -> slk k h2.l = slk k h.l
 | [], [], h, h2, ho, e => by cases e; exact ⟨.refl _, ho, fun _ _ => rfl⟩
 | (k, gr) :: ks, c :: l, h, h2, ho, e => by
   obtain ⟨f, hf, e1⟩ := qC1 e;have hd := rE (k := k) ho;have hn2 := kX (h := h.del k) (k := k) (f := f) hd.2 (q4L hf _ _);obtain ⟨a1, a2, a3⟩ := qNV hn2.2 e1;refine ⟨hd.1.trans (hn2.1.trans a1), a2, fun j hj => ?_⟩;rw [zQ0, zQ2, not_or] at hj;rw [a3 j hj.2];show slk j ((k, _) :: (h.del k).l) = _;rw [zK hj.1];exact yK hj.1 _
 | [], _ :: _, _, _, _, e => by cases e
 | _ :: _, [], _, _, _, e => by cases e
def q2G : List FV -> List (Value × Value)
 | .v k :: .v x :: l => (k, x) :: q2G l
 | _ => []
omit [Yl] in
theorem qFZ : ∀ (es : List (Value × Value)), q2G (dU es) = es
 | [] => rfl
 | p :: es => by
   show (p.1, p.2) :: q2G (dU es) = _;rw [qFZ es]
def obE (gr : Bool) : PV -> Option PO
 | .f (.l el _ cs) => cond (Nat.beq el 1000000001) (some (SpO.map (q2G cs)).enc) (some ⟨el, gr, cs.map .f⟩)
 | .agg [.f (.v (.string s)), .f (.v (.int _ p))] => some (SpO.iter s p.toNat).enc
 | _ => none
theorem zCQ (e : q9E P gr c = some f) (n : Nat) : obE gr c.enc = some (f n).enc := by
 unfold q9E at e;split at e
 ·rename_i el u xs;split at e
  ·rename_i m hm
   cases hc : (Nat.beq m u.w && (Nat.ble 1 m && !Nat.beq el 1000000001)) with
   | false => rw [hc] at e; cases e
   | true =>
     rw [hc] at e;cases e;simp only [zQM, zRN] at hc;simp only [SV.enc, Ty.fv, obE, hc.2.2, cond_false];rfl
  ·cases e
 ·rename_i es;cases e;simp only [SV.enc, Ty.fv, obE];show cond (Nat.beq 1000000001 1000000001) _ _ = _;rw [qFZ]; rfl
 ·cases e;simp only [SV.enc, qA, Ty.fv, obE];rfl
 ·cases e
theorem zEW {ob : SO} {p : SV × Bool} (e : obD ob = some p) : obE p.2 p.1.enc = some ob.enc := by
 unfold obD at e;split at e
 ·rename_i el gr g w u xs
  cases hc : Nat.beq el 1000000001 with
  | true => rw [hc] at e; cases e
  | false =>
    rw [hc] at e;cases e;simp only [SV.enc, Ty.fv, obE, hc, cond_false];rfl
 ·rename_i w x
  cases x with
  | map es =>
    cases e;simp only [SV.enc, Ty.fv, obE];show cond (Nat.beq 1000000001 1000000001) _ _ = _;rw [qFZ]; rfl
  | iter s pos =>
    cases e;simp only [SV.enc, qA, Ty.fv, obE];rfl
  | mit t j si la seen => cases e
 ·cases e
theorem qPK {q : PHp} {B : Nat -> Prop} : ∀ {os : List (Nat × Bool)} {l : List SV} {h h2 : SH}, qUG P os l h = some h2 -> (∀ k o, ¬ B k -> k ∉ os.map (·.1) -> slk k h.l = some o -> qB k q = some o.enc) ->
 (∀ (i : Nat) k gr c, os[i]? = some (k, gr) -> l[i]? = some c -> qB k q = obE gr c.enc) -> ∀ k o, ¬ B k -> slk k h2.l = some o -> qB k q = some o.enc
 | [], [], h, h2, e, h0, _, k, o, hB, hk => by
   cases e;exact h0 k o hB (by simp) hk
 | (j, gr) :: ks, c :: l, h, h2, e, h0, h1, k, o, hB, hk => by
   obtain ⟨f, hf, e1⟩ := qC1 e;refine qPK (q := q) (B := B) e1 (fun k2 o2 hB2 hk2 ho2 => ?_) (fun i k2 gr2 c2 a1 a2 => h1 (i + 1) k2 gr2 c2 (by simpa using a1) (by simpa using a2)) k o hB hk;by_cases hj : k2 = j
   ·subst hj;rw [show slk k2 ((h.del k2).new k2 f).l = some (f (h.del k2).next) from wU] at ho2;cases ho2;rw [h1 0 k2 gr c rfl rfl];exact zCQ hf _
   ·rw [show slk k2 ((h.del j).new j f).l = slk k2 (h.del j).l from zK hj, show slk k2 (h.del j).l = slk k2 h.l from yK hj _] at ho2;exact h0 k2 o2 hB2 (by rw [zQ0, zQ2, not_or]; exact ⟨hj, hk2⟩) ho2
 | [], _ :: _, _, _, e, _, _, _, _, _, _ => by cases e
 | _ :: _, [], _, _, e, _, _, _, _, _, _ => by cases e
omit [Yl] in
theorem qBG {h : SH} : ∀ {is : List Nat} {l env : List SV}, okL h l -> okL h (eU is l env).2
 | [], l, env, hl => hl
 | i :: is, [], env, _ => by simp [eU, okL]
 | i :: is, c :: l, env, hl => by
   simp only [okL] at hl;show okL h (eU is l (yQ env i c)).2;exact qBG hl.2
omit [Yl] in
theorem qP3 (n : Nat) (hl : okL h l) : okL h (l.drop n) := yS.2 fun x hx => yS.1 hl x (zUB hx)
theorem qY8 (l : List SV) (n : Nat) : qA (l.take n) = (qA l).take n := by rw [zC, zC, zTG]
theorem qWC (l : List SV) (n : Nat) : qA (l.drop n) = (qA l).drop n := by rw [zC, zC, zTF]
omit [Yl] in
theorem qM2 {h : SH} (ho : OkH P h) : ∀ {l : List (Nat × Nat)} {env e2 : List SV}, okL h env -> qUE l h env = some e2 -> okL h e2 ∧ e2.length = env.length ∧ ∀ j, j ∉ l.map (·.1) -> zM e2 j = zM env j
 | [], env, e2, he, e => by cases e; exact ⟨he, rfl, fun _ _ => rfl⟩
 | (i, k) :: l, env, e2, he, e => by
   unfold qUE at e
   cases hmk : Nat.ble mkM k with
   | true =>
     rw [hmk] at e;simp only [cond_true] at e;obtain ⟨a1, a2, a3⟩ := qM2 ho (kY (t := i) he (v := .mp (k - mkM)) (by simp [SV.ok])) e;refine ⟨a1, a2.trans (fF _ _ _), fun j hj => ?_⟩;rw [zQ0, zQ2, not_or] at hj;rw [a3 j hj.2, qW, qD, qD, zRD, if_neg (fun e => hj.1 e.symm)]
   | false =>
   rw [hmk] at e;simp only [cond_false] at e;split at e
   ·rename_i el gr g w u xs hk;have hg := (ho.list _ _ _ _ _ _ _ hk).1
    have hok : (SV.own k g (List.length xs)).ok h := by
     simp only [SV.ok];exact ⟨hg, fun el2 gr2 w2 t2 xs2 hk2 => by rw [hk] at hk2; cases hk2; rfl⟩
    obtain ⟨a1, a2, a3⟩ := qM2 ho (kY (t := i) he hok) e;refine ⟨a1, a2.trans (fF _ _ _), fun j hj => ?_⟩;rw [zQ0, zQ2, not_or] at hj;rw [a3 j hj.2, qW, qD, qD, zRD, if_neg (fun e => hj.1 e.symm)]
   ·cases e
omit [Yl] in
theorem qJI {kb w : Nat} {h : SH} (ho : OkH P h) : ∀ {ds : List (Option Nat)} {l : List SV} {p : List SV × List SV}, okL h l -> mkB kb w ds l h = some p -> okL h p.1 ∧ okL h p.2
 | [], l, p, hl, e => by cases e; exact ⟨by simp [okL], hl⟩
 | none :: ds, c :: l, p, hl, e => by
   unfold mkB at e;simp only [okL] at hl;split at e
   ·rename_i q hq;cases e;have ih := qJI ho hl.2 hq;exact ⟨by simp only [okL]; exact ⟨hl.1, ih.1⟩, ih.2⟩
   ·cases e
 | some k :: ds, l, p, hl, e => by
   unfold mkB at e
   cases hm : q9U k with
   | true =>
     rw [hm] at e;simp only [cond_true] at e;split at e
     ·simp only [okL] at hl;split at e
      ·rename_i b q hb hq;cases e;have ih := qJI ho hl.2 hq;exact ⟨by simp only [okL]; exact ⟨by simp [SV.ok], ih.1⟩, ih.2⟩
      ·cases e
     ·cases e
   | false =>
   rw [hm] at e;simp only [cond_false] at e;split at e
   ·rename_i el gr g w u xs hk;split at e
    ·rename_i q hq;cases e;have ih := qJI ho hl hq;have hg := (ho.list _ _ _ _ _ _ _ hk).1;refine ⟨?_, ih.2⟩;simp only [okL, SV.ok];exact ⟨⟨hg, fun el2 gr2 w2 t2 xs2 hk2 => by rw [hk] at hk2; cases hk2; rfl⟩, ih.1⟩
    ·cases e
   ·cases e
 | none :: _, [], _, _, e => by cases e
omit [Yl] in
theorem qMP {h1 : SH} : ∀ {bs : List (Nat × List (Option Nat))} {l : List SV} {h h2 : SH}, OkH P h -> okL h l -> qUF h1 bs l h = some h2 -> Keep h h2 ∧ OkH P h2 ∧ ∀ k, k ∉ bs.map (·.1) -> slk k h2.l = slk k h.l
 | [], l, h, h2, ho, hl, e => by cases e; exact ⟨.refl _, ho, fun _ _ => rfl⟩
 | (k, ds) :: bs, l, h, h2, ho, hl, e => by
   unfold qUF at e;split at e
   ·rename_i el w0 l0 hk0;split at e
    ·rename_i p hp;obtain ⟨m1, m2⟩ := qJI ho hl hp;have hd := rE (k := k) ho;have hn2 := kX (h := h.del k) (k := k) (f := fun v => .cells el v p.1) hd.2 ⟨rfl, qL hd.1 m1⟩;obtain ⟨a1, a2, a3⟩ := qMP hn2.2 (qL hn2.1 (qL hd.1 m2)) e;refine ⟨hd.1.trans (hn2.1.trans a1), a2, fun j hj => ?_⟩;rw [zQ0, zQ2, not_or] at hj;rw [a3 j hj.2];show slk j ((k, _) :: (h.del k).l) = _;rw [zK hj.1];exact yK hj.1 _
    ·cases e
   ·cases e
theorem qVB (ho : OkH P h) (ho2 : OkH P h2) {el : TypeId} {g : Nat} {u : Ty} {xs : List u.sem} (hv : v.ok h) (c : q27 k v h = true) (hk : slk k h2.l = some (.list el gr g w u xs)) (h1 : qB k (qH h.l) = some (SO.list el gr g w u xs).enc) :
 v.enc = (SV.own k g xs.length).enc := by
 unfold q27 at c;split at c
 ·rename_i k' g' n';rw [zQM] at c;have hkk : k' = k := zQN c.1;subst hkk;have c2 := c.2;split at c2
  ·rename_i el3 gr3 g3 w3 u3 xs3 hk3;have hg : g' = g3 := zQN c2;subst hg;simp only [SV.ok] at hv;have hn := hv.2 _ _ _ _ _ hk3;rw [yI hk3] at h1;have h1 := zSJ h1;have e1 : el3 = el := congrArg PO.el h1
   have e2' : xs3.length * u3.w = xs.length * u.w := by
    have := congrArg (fun o : PO => o.cs.length) h1;simp only [qZ] at this;exact this
   have l1 := ho.list _ _ _ _ _ _ _ hk3;have l2 := ho2.list _ _ _ _ _ _ _ hk
   have hww : u3.w = u.w := by
    have a1 := l1.2.1;have a2 := l2.2.1;rw [e1, a2] at a1;exact (zSJ a1).symm
   have hlen : xs3.length = xs.length := by
    rw [hww] at e2';exact Nat.eq_of_mul_eq_mul_right l2.2.2 e2'
   simp only [SV.enc, hn, hlen]
  ·cases c2
 ·cases c
theorem qHM {kb w : Nat} {hn h : SH} (hon : OkH P hn) (ho : OkH P h) : ∀ {ds : List (Option Nat)} {l ln dl rest : List SV} {p : List SV × List SV}, mkB kb w ds l h = some p -> q4Z kb w ds ln = some dl -> q7G ds ln hn = true -> qA (dl ++ rest) = qA l -> okL hn ln ->
 (∀ k o, some k ∈ ds -> slk k h.l = some o -> qB k (qH hn.l) = some o.enc) -> qA p.1 = qA ln ∧ qA p.2 = qA rest
 | [], l, ln, dl, rest, p, e, ec, eo, hl, hok, hq => by
   cases e
   cases ln with
   | nil => cases ec; exact ⟨rfl, hl.symm⟩
   | cons _ _ => cases ec
 | none :: ds, c :: l, ln, dl, rest, p, e, ec, eo, hl, hok, hq => by
   unfold mkB at e;split at e
   ·rename_i q hm;cases e
    cases ln with
    | nil => cases ec
    | cons v ln =>
      unfold q4Z at ec;split at ec
      ·rename_i r hr;cases ec;simp only [zTL, qA, zRP] at hl;simp only [okL] at hok;obtain ⟨a1, a2⟩ := qHM hon ho hm hr (by unfold q7G at eo; exact eo) hl.2 hok.2 fun k o hk ho => hq k o (zQS _ hk) ho
       exact ⟨by simp only [qA, a1, hl.1], a2⟩
      ·cases ec
   ·cases e
 | some k :: ds, l, ln, dl, rest, p, e, ec, eo, hl, hok, hq => by
   unfold mkB at e
   cases hmk : q9U k with
   | true =>
     rw [hmk] at e;simp only [cond_true] at e;split at e
     case h_2 => cases e
     rename_i c l';split at e
     case h_2 => cases e
     rename_i b q hb hm;cases e
     cases ln with
     | nil => cases ec
     | cons v ln =>
       unfold q4Z at ec;rw [hmk] at ec;simp only [cond_true] at ec;split at ec
       case h_2 => cases ec
       rename_i b2 r hb2 hr;cases ec;simp only [okL] at hok;unfold q7G at eo;rw [zQM] at eo;simp only [zTL, qA, zRP] at hl;obtain ⟨a1, a2⟩ := qHM hon ho hm hr eo.2 hl.2 hok.2 fun k o hk ho => hq k o (zQS _ hk) ho
       refine ⟨?_, a2⟩
       have hbb : b2 = b := by
        have := hl.1;rw [rG hb] at this;simp only [SV.enc, Ty.fv, fvv] at this;injection this with this;injection this with this;injection this
       simp only [qA, a1, q4Q hb2, hbb]
   | false =>
   rw [hmk] at e;simp only [cond_false] at e;split at e
   ·rename_i el gr g w u xs hk;split at e
    ·rename_i q hm;cases e
     cases ln with
     | nil => cases ec
     | cons v ln =>
       unfold q4Z at ec;rw [hmk] at ec;simp only [cond_false] at ec;simp only [okL] at hok;unfold q7G at eo;rw [hmk, zQM] at eo;simp only [cond_false] at eo;obtain ⟨a1, a2⟩ := qHM hon ho hm ec eo.2 hl hok.2 fun k o hk ho => hq k o (zQS _ hk) ho
       refine ⟨?_, a2⟩;simp only [qA, a1];rw [qVB hon ho hok.1 eo.1 hk (hq k _ zQT hk)]
    ·cases e
   ·cases e
 | none :: _, [], _, _, _, _, e, _, _, _, _, _ => by cases e
theorem qP9 {hn h1 : SH} {L : List Nat} (hon : OkH P hn) : ∀ {bs : List (Nat × List (Option Nat))} {l c rest : List SV} {h h2 : SH}, OkH P h -> okL h l -> qUF h1 bs l h = some h2 -> qAF bs hn = some c -> qA (c ++ rest) = qA l -> qCG L bs h1 hn = true ->
 (∀ k o, slk k h.l = some o -> k ∉ bs.map (·.1) -> qB k (qH hn.l) = some o.enc) -> (∀ k o, slk k h.l = some o -> k ∉ L -> qB k (qH hn.l) = some o.enc) -> ∀ k o, slk k h2.l = some o -> qB k (qH hn.l) = some o.enc
 | [], l, c, rest, h, h2, ho, hl, e, ec, hc, hb, hq, _, k, o, hk => by
   cases e;exact hq k o hk (by simp)
 | (j, ds) :: bs, l, c, rest, h, h2, ho, hl, e, ec, hc, hb, hq, hqL, k, o, hk => by
   unfold qCG at hb;rw [zSY, zQM, zQM, zQM] at hb;obtain ⟨⟨b0, b1, b2⟩, b3⟩ := hb;unfold qUF at e;split at e
   case h_2 => cases e
   rename_i el w0 l0 hk0;split at e
   case h_2 => cases e
   rename_i p hp;rw [hk0] at b2;simp only at b2;unfold qAF at ec;split at ec
   case h_2 => cases ec
   rename_i el2 w2 ln hkn;rw [hkn] at b2;simp only [zQM] at b2;split at ec
   case h_2 => cases ec
   rename_i a b ha hb2;cases ec;have hel : el = el2 := zQN b2.1;subst hel;obtain ⟨m1, m2⟩ := qJI ho hl hp
   obtain ⟨q1, q2⟩ := qHM hon ho hp ha b2.2 (rest := b ++ rest) (by rw [<- zRW]; exact hc) (hon.cells _ _ _ _ hkn) (fun k o hk ho2 => hqL k o ho2 fun hm => by
    have := zQR.1 b1 (some k) hk;simp only [fJ.2 hm] at this
    cases this)
   have hd := rE (k := j) ho;have hn2 := kX (h := h.del j) (k := j) (f := fun v => .cells el v p.1) hd.2 ⟨rfl, qL hd.1 m1⟩
   have look : ∀ i, i ≠ j -> slk i ((h.del j).new j fun v => .cells el v p.1).l = slk i h.l := fun i hi => by
    show slk i ((j, _) :: (h.del j).l) = _;rw [zK hi];exact yK hi _
   have zMO : slk j ((h.del j).new j fun v => .cells el v p.1).l = some (.cells el (h.del j).next p.1) := wU
   have zJO : qB j (qH hn.l) = some (SO.cells el (h.del j).next p.1).enc := by
    rw [yI hkn];simp [SO.enc, q1]
   refine qP9 hon (bs := bs) (c := b) (rest := rest) hn2.2 (qL hn2.1 (qL hd.1 m2)) e hb2 q2.symm b3 (fun i o2 hi hni => ?_) (fun i o2 hi hni => ?_) k o hk
   ·by_cases hij : i = j
    ·subst hij;rw [zMO] at hi; cases hi; exact zJO
    ·rw [look i hij] at hi;exact hq i o2 hi (by rw [zQ0, zQ2, not_or]; exact ⟨hij, hni⟩)
   ·by_cases hij : i = j
    ·subst hij;rw [zMO] at hi; cases hi; exact zJO
    ·rw [look i hij] at hi;exact hqL i o2 hi hni
end
end Go.Sv
namespace Go.Sv
open Go.Idl
variable {W : List Nat} {b c e2 env zIE : List SV} {h h1 h2 : SH} {os : List (Nat × Bool)} {sh : Sh} {ts : List Ty}
noncomputable section
variable [Gc]
variable [Yl]
variable {P : Program} {R : Type} {r : R} {nm : Nm}
def q1B (os : List (Nat × Bool)) (h : SH) : Bool := os.all fun p => match slk p.1 h.l with
 | some ob => (match obD ob with
   | some q => q.2 == p.2
   | none => false)
 | none => false
def qDX (l : List (Nat × Nat)) (env : List SV) (h : SH) : Bool := l.all fun p => cond (Nat.ble mkM p.2) (match zM env p.1 with
 | some (.mp k) => Nat.beq k (p.2 - mkM)
 | _ => false) (match zM env p.1 with
 | some (.own k g _) => Nat.beq k p.2 && (match slk k h.l with
   | some (.list _ _ g' _ _ _) => Nat.beq g g'
   | _ => false)
 | _ => false)
def eZ (ls : List Nat) (hh h : SH) : Bool := hh.l.all fun p => qEE p.1 ls || (match slk p.1 h.l with
 | some o => Nat.beq o.w p.2.w
 | none => false)
omit [Yl] in
theorem qV8 {k : Nat} {o : SO} : ∀ {l : List (Nat × SO)}, slk k l = some o -> (k, o) ∈ l
 | (j, p) :: l, h => by
   have h1 : cond (k == j) (some p) (slk k l) = some o := h;clear h
   cases hj : k == j with
   | true =>
     rw [hj] at h1;have h2 : p = o := zSJ h1;have : k = j := by simpa using hj
     rw [this, h2];exact zQT
   | false =>
     rw [hj] at h1;exact zQS _ (qV8 (l := l) h1)
omit [Yl] in
theorem qA3 : ∀ {ks : List Nat} {h : SH} {os : List (Nat × Bool)}, q57 ks h = some os -> os.map (·.1) = ks
 | [], h, os, e => by cases e; rfl
 | k :: ks, h, os, e => by
   unfold q57 at e;split at e
   ·rename_i hk hl;split at e
    ·cases e;rw [zQ0, qA3 hl]
    ·cases e
   ·cases e
omit [Yl] in
theorem qGZ : ∀ {ks : List Nat} {h : SH} {os : List (Nat × Bool)}, q57 ks h = some os -> q1B os h = true
 | [], h, os, e => by cases e; rfl
 | k :: ks, h, os, e => by
   unfold q57 at e;split at e
   ·rename_i ob os' hk hl;split at e
    ·rename_i p hp;cases e;have ih := qGZ hl;unfold q1B at ih ⊢;rw [zSY, ih];simp only [hk, hp];simp
    ·cases e
   ·cases e
omit [Yl] in
theorem qXC : ∀ {ks : List Nat} {h : SH} {b : List SV}, qZZ ks h = some b -> ∀ (i : Nat) k, ks[i]? = some k -> ∃ ob p, slk k h.l = some ob ∧ obD ob = some p ∧ b[i]? = some p.1
 | [], h, b, e, i, k, hk => by simp at hk
 | j :: ks, h, b, e, i, k, hk => by
   unfold qZZ at e;split at e
   ·rename_i ob l hj hl;split at e
    ·rename_i p hp;cases e
     cases i with
     | zero =>
       simp at hk;subst hk;exact ⟨ob, p, hj, hp, rfl⟩
     | succ i => exact qXC hl i k (by simpa using hk)
    ·cases e
   ·cases e
omit [Yl] in
theorem qP0 : ∀ {ks : List Nat} {h : SH} {b : List SV}, qZZ ks h = some b -> b.length = ks.length
 | [], h, b, e => by cases e; rfl
 | k :: ks, h, b, e => by
   unfold qZZ at e;split at e
   ·rename_i hk hl;split at e
    ·cases e;simp only [zRB, qP0 hl]
    ·cases e
   ·cases e
theorem qO0 {h h2 : SH} {env : List SV} (ho : OkH P h) (ho2 : OkH P h2) (hs : ∀ k o, slk k h2.l = some o -> qB k (qH h.l) = some o.enc) (hen : okL h env) : ∀ {l : List (Nat × Nat)} {m e2 : List SV}, qDX l env h = true -> qUE l h2 m = some e2 -> WkP (qA env) (qA m) -> WkP (qA env) (qA e2)
 | [], m, e2, _, e, hw => by cases e; exact hw
 | (i, k) :: l, m, e2, hc, e, hw => by
   unfold qDX at hc;rw [zSY, zQM] at hc;unfold qUE at e;have c0 := hc.1;simp only at c0
   cases hmk : Nat.ble mkM k with
   | true =>
     rw [hmk] at e c0;simp only [cond_true] at e c0;refine qO0 ho ho2 hs hen hc.2 e ?_;split at c0
     ·rename_i k' hi;have hkk := zQN c0;rw [vK];refine qMB hw ?_;rw [zF, hi, hkk];rfl
     ·cases c0
   | false =>
   rw [hmk] at e c0;simp only [cond_false] at e c0;split at e
   ·rename_i el gr g w u xs hk;refine qO0 ho ho2 hs hen hc.2 e ?_;have c1 := c0;split at c1
    ·rename_i k' g' n' hi;have c3 : q27 k (.own k' g' n') h = true := c1;rw [vK];refine qMB hw ?_;rw [zF, hi];show some (SV.own k' g' n').enc = _;rw [qVB ho ho2 (p8 hen hi) c3 hk (hs k _ hk)]
    ·cases c1
   ·cases e
theorem zBV {s : TyL ts} (ho : OkH P h) (ho1 : OkH P h1)
 (hb : qZZ sh.o h = some b) (hcB : qAF sh.b h = some c) (w2 : qA (eU sh.d (svL ts s) (blank W 0 zIE)).2 = qA (b ++ c)) (hm : mkS P W sh ts os zIE h1 s = some (e2, h2)) (hos : os.map (·.1) = sh.o) (hgr : q1B os h = true) (hbx : qCG (sh.b.map (·.1)) sh.b h1 h = true)
 (hkept : ∀ k o, k ∉ sh.o -> k ∉ sh.b.map (·.1) -> slk k h1.l = some o -> qB k (qH h.l) = some o.enc) :
 OkH P h2 ∧ qUE sh.s h2 (eU sh.d (svL ts s) (blank W 0 zIE)).1 = some e2 ∧ ∀ k o, slk k h2.l = some o -> qB k (qH h.l) = some o.enc := by
 unfold mkS at hm;split at hm
 case h_2 => cases hm
 rename_i h3 hso;split at hm
 case h_2 => cases hm
 rename_i h4 hsb;split at hm
 case h_2 => cases hm
 rename_i e3 hss;cases hm;have hlen : os.length = b.length := by rw [qP0 hb, <- hos, zQ7]
 have t1 : qA ((eU sh.d (svL ts s) (blank W 0 zIE)).2.take os.length) = qA b := by
  rw [qY8, w2, zC, zC, zRI, hlen, <- zQ7 (as := b) (f := SV.enc), List.take_left]
 have t2 : qA ((eU sh.d (svL ts s) (blank W 0 zIE)).2.drop os.length) = qA c := by
  rw [qWC, w2, zC, zC, zRI, hlen, <- zQ7 (as := b) (f := SV.enc), List.drop_left]
 have zMP : ∀ k o, ¬ k ∈ sh.b.map (·.1) -> slk k h3.l = some o -> qB k (qH h.l) = some o.enc := by
  refine qPK (B := fun k => k ∈ sh.b.map (·.1)) hso (fun k o hB hk hk2 => hkept k o (by rw [<- hos]; exact hk) hB hk2) ?_;intro i k gr x hi hx;have hki : sh.o[i]? = some k := by rw [<- hos, zQU, hi]; rfl
  obtain ⟨ob, p, q1, q0, q2⟩ := qXC hb i k hki
  have hce : x.enc = p.1.enc := by
   have e1 : (qA b)[i]? = some p.1.enc := by rw [zC, zQU, q2]; rfl
   rw [<- t1, zC, zQU, hx] at e1;exact zSJ e1
  have hg : p.2 = gr := by
   unfold q1B at hgr;have := zQR.1 hgr (k, gr) (zRL hi);simp only [q1, q0] at this;simpa using this
  rw [hce, yI q1, <- hg, zEW q0]
 obtain ⟨k3, ho3, _⟩ := qNV ho1 hso;have hrest : okL h3 ((eU sh.d (svL ts s) (blank W 0 zIE)).2.drop os.length) := qP3 _ (qBG (qEX ts s));have hsub := qP9 (L := sh.b.map (·.1)) ho (c := c) (rest := []) ho3 hrest hsb hcB (by rw [zSK]; exact t2.symm) hbx (fun k o hk hn => zMP k o hn hk) (fun k o hk hn => zMP k o hn hk);obtain ⟨_, ho4, _⟩ := qMP ho3 hrest hsb;exact ⟨ho4, hss, hsub⟩
theorem qUV (hsub : ∀ k o, slk k h2.l = some o -> qB k (qH h.l) = some o.enc) : qA5 (qH h2.l) (qH h.l) := fun k ob hk => by
 rw [pI] at hk;obtain ⟨o, h1, h2⟩ := zQY.1 hk;rw [hsub k o h1, h2]
theorem qS0 {a : List SV} {s : TyL ts} (ho : OkH P h) (ho1 : OkH P h1) (hen : okL h env)
 (ha : qG1 sh.d env = some a) (hb : qZZ sh.o h = some b) (hcB : qAF sh.b h = some c) (hd : qCF ts (a ++ (b ++ c)) = some s) (hm : mkS P W sh ts os zIE h1 s = some (e2, h2)) (hos : os.map (·.1) = sh.o) (hgr : q1B os h = true) (hown : qDX sh.s env h = true) (hbx : qCG (sh.b.map (·.1)) sh.b h1 h = true)
 (hkept : ∀ k o, k ∉ sh.o -> k ∉ sh.b.map (·.1) -> slk k h1.l = some o -> qB k (qH h.l) = some o.enc) (hbl : WkP (qA env) (qA (blank W 0 zIE))) :
 WkP (qA env) (qA e2) ∧ qA5 (qH h2.l) (qH h.l) := by
 have hde := qJM hd;obtain ⟨w1, w2⟩ := qW5 (m := svL ts s) ha hde hbl;obtain ⟨ho4, hss, hsub⟩ := zBV ho ho1 hb hcB w2 hm hos hgr hbx hkept;exact ⟨qO0 ho ho4 hsub hen hown hss w1, qUV hsub⟩
theorem mM {s : TyL ts} (ho1 : OkH P h1) (he1 : okL h1 zIE) (hm : mkS P W sh ts os zIE h1 s = some (e2, h2)) :
 Keep h1 h2 ∧ OkH P h2 ∧ okL h2 e2 ∧ e2.length = zIE.length ∧ (∀ j, j ∉ W -> j ∉ sh.d -> j ∉ sh.s.map (·.1) -> zM (qA e2) j = zM (qA zIE) j) ∧ ∀ k, k ∉ os.map (·.1) -> k ∉ sh.b.map (·.1) -> slk k h2.l = slk k h1.l := by
 unfold mkS at hm;split at hm
 case h_2 => cases hm
 rename_i h3 hso;split at hm
 case h_2 => cases hm
 rename_i h4 hsb;split at hm
 case h_2 => cases hm
 rename_i e3 hss;cases hm;obtain ⟨a1, a2, a3⟩ := qNV ho1 hso;have hrest : okL h3 ((eU sh.d (svL ts s) (blank W 0 zIE)).2.drop os.length) := qP3 _ (qBG (qEX ts s));obtain ⟨c1, c2, c3⟩ := qMP a2 hrest hsb;have hok : okL h2 (eU sh.d (svL ts s) (blank W 0 zIE)).1 := qM4 (qEX ts s) (qR0 (qL c1 (qL a1 he1)));obtain ⟨b1, b2, b3⟩ := qM2 c2 hok hss;refine ⟨a1.trans c1, c2, b1, by rw [b2, qG6, qBR], fun j hj hjd hjs => ?_, fun k hk hk2 => (c3 k hk2).trans (a3 k hk)⟩;rw [zF, zF, b3 j hjs, qH3 hjd, qCP]
 have : qEE (0 + j) W = false := by
  cases hq : qEE (0 + j) W with
  | false => rfl
  | true => rw [zRK] at hq; exact absurd (fJ.1 hq) hj
 rw [this];cases zM zIE j <;> rfl
theorem dA (hl : env.length = zIE.length) (h : ∀ i, i ∉ W -> zM (qA env) i = zM (qA zIE) i) : WkP (qA env) (qA (blank W 0 zIE)) := by
 refine qIV (by rw [zI, zI, qBR, hl]) fun i => ?_
 rw [zF (blank W 0 zIE), qCP, zRK]
 cases hq : qEE i W with
 | true =>
   cases hx : zM zIE i with
   | none =>
     left
     have : zM env i = none := by
      rw [qD] at hx ⊢;rw [zUI] at hx ⊢;omega
     rw [zF, this]; rfl
   | some x => right; simp [SV.enc]
 | false =>
   left
   have hni : i ∉ W := fun hm => by
    rw [fJ.2 hm] at hq;cases hq
   rw [h i hni, zF zIE];cases zM zIE i <;> rfl
end
end Go.Sv
namespace Go.Sv
open Go.Idl
variable {h hh : SH} {k : Nat} {ls : List Nat} {o : SO}
noncomputable section
abbrev wO (Γ : Option Type) (R : Type) := zJG -> GV Γ -> List SV -> SH -> zIA R
def zIA.sum {R : Type} {α β : Type} (x : α ⊕ β) (f : α -> zIA R) (g : β -> zIA R) : zIA R := Sum.rec f g x
variable [Gc]
variable [Yl]
variable {P : Program} {Γ : Option Type} {R : Type} {r : R} {nm : Nm} {G : Nat -> Bool} {rd : Bool} {N : Nat} {rs : List Ty} {wd : Wld (GV Γ)}
def EQ (P : Program) (N : Nat) (w : List Nat) (env : List SV) (h : SH) (K : wO Γ R) (r : R) : YQ (GV Γ) := fun e g pe ph =>
 ∃ env' h', pe = qA env' ∧ ph = qH h'.l ∧ okL h' env' ∧ OkH P h' ∧ env'.length = N ∧ Keep h h' ∧ (e ≠ .ret -> kZ P w env h env' h') ∧ (K e g env' h').run = some r
def zGF (id : Nat) (K : wO Γ R) : wO Γ R := fun e g env h => match e with
 | .exit i => cond (Nat.beq i id) (K .normal g env h) (K (.exit i) g env h)
 | e => K e g env h
def q9K : List Nat -> Nat -> (Nat -> zIA R) -> zIA R
 | [], _, _ => .fail
 | a :: l, j, K => .ite (Nat.beq j a) (K a) (q9K l j K)
omit [Yl] in
theorem qR2 : ∀ {l : List Nat} {j : Nat} {K : Nat -> zIA R}, (q9K l j K).run = some r -> (K j).run = some r
 | [], j, K, e => by cases e
 | a :: l, j, K, e => by
   rcases run_ite e with ⟨z, e1⟩ | ⟨z, e1⟩
   ·rw [zQN z]; exact e1
   ·exact qR2 e1
def bk (sh : Sh) (os : List (Nat × Bool)) (ts : List Ty) (mk : TyL ts -> Option (List SV × SH)) (h1 hh : SH) (env : List SV) (h : SH) : Option (TyL ts) := match qG1 sh.d env, qZZ sh.o h, qAF sh.b h with
 | some a, some b, some c => (match qCF ts (a ++ (b ++ c)) with
   | some s => cond (q1B os h && (qDX sh.s env h && (qCG (sh.b.map (·.1)) sh.b h1 h && (eZ (sh.o ++ sh.b.map (·.1)) hh h && (mk s).isSome)))) (some s) none
   | none => none)
 | _, _, _ => none
def qWQ (rdv : List SV -> SH -> Option (TyL rs)) (id : Nat) (sh : Sh) (os : List (Nat × Bool)) (ts : List Ty) (mk : TyL ts -> Option (List SV × SH)) (h1 hh : SH) : wO Γ (GS Γ (TyL ts) ⊕ (GS Γ (TyL ts) ⊕ (GS Γ (TyL rs) ⊕ GS Γ (Nat × TyL ts)))) := fun e g env h => match e with
 | .normal => (match bk sh os ts mk h1 hh env h with
   | some s => .ret (.inl (gj g s))
   | none => .fail)
 | .exit j => (match bk sh os ts mk h1 hh env h with
   | some s => .ret (.inr (cond (Nat.beq j id) (.inl (gj g s)) (.inr (.inr (gj g (j, s))))))
   | none => .fail)
 | .ret => (match rdv env h with
   | some v => .ret (.inr (.inr (.inl (gj g v))))
   | none => .fail)
 | .goto _ => .fail
def goS {α : Type} (o : Option (α × SH)) (K : α -> SH -> zIA R) : zIA R := match o with
 | some p => K p.1 p.2
 | none => .fail
omit [Yl] in
theorem tV {α : Type} {o : Option (α × SH)} {K : α -> SH -> zIA R} (e : (goS o K).run = some r) : ∃ a h, o = some (a, h) ∧ (K a h).run = some r := by
 unfold goS at e;split at e
 ·exact ⟨_, _, rfl, e⟩
 ·cases e
def zAK (P : Program) (nm : Nm) (w : List Nat) (rdv : List SV -> SH -> Option (TyL rs)) (en : TyL rs -> List SV) (hb : SH) (sh : Sh) (id : Nat) (body : ∀ {R' : Type}, GV Γ -> List SV -> SH -> wO Γ R' -> zIA R') (g : GV Γ) (env : List SV) (h : SH) (K : wO Γ R) : zIA R :=
 qI7 P nm sh.v env h fun zIE h0 => qDE P nm sh.bv zIE h0 fun zIE h1 => match qG1 sh.d zIE, qZZ sh.o h1, qAF sh.b h1, q57 sh.o h1 with
  | some a, some b, some c, some os => (match zDX (a ++ (b ++ c)) with
    | some ts => (match qCF ts (a ++ (b ++ c)) with
      | some s0 => cond (qDX sh.s zIE h1 && qCG (sh.b.map (·.1)) sh.b h1 h1)
         (.loop (fun s => goS (mkS P w sh ts os zIE h1 (g2 s)) fun e hh => body (g1 s) e hh (qWQ rdv id sh os ts (mkS P w sh ts os zIE h1) h1 hh)) (gj g s0)
           fun q => zIA.sum q (fun s => goS (mkS P w sh ts os zIE h1 (g2 s)) fun e hh => K .normal (g1 s) e hh)
            fun q2 => zIA.sum q2 (fun v => K .ret (g1 v) (en (g2 v)) ⟨h.next, hb.l⟩)
             fun p => q9K sh.ex (g2 p).1 fun j => goS (mkS P w sh ts os zIE h1 (g2 p).2) fun e hh => K (.exit j) (g1 p) e hh) .fail
      | none => .fail)
    | none => .fail)
  | _, _, _, _ => .fail
def lpW (w : List Nat) (sh : Sh) : List Nat := sh.v.map (·.1) ++ (w ++ (sh.d ++ sh.s.map (·.1)))
structure zKK (P : Program) (nm : Nm) (N : Nat) (hb : SH) (rdv : List SV -> SH -> Option (TyL rs)) (en : TyL rs -> List SV) : Prop where
 ob : OkH P hb
 wk : ∀ env h v, OkH P h -> okL h env -> env.length = N -> Keep hb h -> rdv env h = some v -> Wk P nm (qA env) (qH h.l) (qA (en v)) (qH hb.l)
 kept : ∀ env h v, OkH P h -> okL h env -> Keep hb h -> rdv env h = some v -> ∀ k o, slk k hb.l = some o -> slk k h.l = some o
 len : ∀ v, (en v).length = N
 ok : ∀ v h, okL h (en v)
omit [Yl] in
theorem q41 (a : OkH P h) {n : Nat} (hn : h.next <= n) : OkH P ⟨n, h.l⟩ := by
 have hk : ∀ {x : SV}, x.ok h -> x.ok ⟨n, h.l⟩ := fun {x} hx => SV.ok.keep (h := h) (h' := ⟨n, h.l⟩) ⟨hn, fun k ob hh _ => hh, fun k el gr g w t xs hh _ => ⟨w, xs, hh, rfl⟩⟩ hx
 exact ⟨fun k ob hh => zQZ (a.ver k ob hh) hn, fun k el w l hh => yS.2 fun x hx => hk (yS.1 (a.cells k el w l hh) x hx), fun k el gr g w t xs hh => by
  have := a.list k el gr g w t xs hh
  exact ⟨zQZ this.1 hn, this.2⟩⟩
omit [Yl] in
theorem qYT : OkH P ⟨0, []⟩ := ⟨fun k ob h => (by cases h), fun k el w l h => (by cases h), fun k el gr g w t xs h => (by cases h)⟩
omit [Yl] in
theorem qS3 {σ ρ : Type} {f : σ -> Option (σ ⊕ ρ)} {s : σ} {q : ρ} (h : qQ f s = some q) : ∃ y, f s = some y := by
 rw [zB] at h
 cases hf : f s with
 | none => rw [hf] at h; cases h
 | some y => exact ⟨y, rfl⟩
omit [Yl] in
theorem qPV (ho : OkH P hh) (hk : Keep hh h) (e : eZ ls hh h = true) (h1 : k ∉ ls) (h2 : slk k hh.l = some o) : slk k h.l = some o := by
 unfold eZ at e;have := zQR.1 e (k, o) (qV8 h2);rw [zSQ] at this;rcases this with q | q
 ·exact absurd (fJ.1 q) h1
 ·simp only at q;split at q
  ·rename_i o' ho';have hw : o'.w = o.w := zQN q;have := hk.same k o' ho' (by rw [hw]; exact ho.ver k o h2);rw [this] at h2;cases h2;exact ho'
  ·cases q
theorem nL (ho : OkH P hh) (hk : Keep hh h) (e : eZ ls hh h = true) (h1 : k ∉ ls) (h2 : slk k hh.l = some o) : qB k (qH h.l) = some o.enc := yI (qPV ho hk e h1 h2)
theorem q2T {w : List Nat} {rdv : List SV -> SH -> Option (TyL rs)} {en : TyL rs -> List SV} {hb : SH} (hrd : zKK P nm N hb rdv en) {sh : Sh} {id : Nat} {y : Code} {body : ∀ {R' : Type}, GV Γ -> List SV -> SH -> wO Γ R' -> zIA R'} {wb : List Nat} (hwb : w = lpW wb sh)
 (hbody : ∀ {R' : Type} {g : GV Γ} {env : List SV} {h : SH} {K : wO Γ R'} {r : R'}, OkH P h -> okL h env -> env.length = N -> Keep hb h -> (body g env h K).run = some r -> qU P G rd nm wd y g (qA env) (qH h.l) (EQ P N wb env h K r))
 {g : GV Γ} {env : List SV} {h : SH} {K : wO Γ R} (ho : OkH P h) (he : okL h env) (hl : env.length = N) (hbh : Keep hb h) (e : (zAK P nm w rdv en hb sh id body g env h K).run = some r) :
 qU P G rd nm wd (.block id (.loop y)) g (qA env) (qH h.l) (EQ P N w env h K r) := by
 obtain ⟨zIE, h0, wk1, zI0, e⟩ := dH (nm := nm) ho he e;obtain ⟨h1, wk2, kp2, ho1, e⟩ := aI (nm := nm) zI0.2.1 zI0.1 e
 have zI1 : kZ P (sh.v.map (·.1)) env h zIE h1 := ⟨qL kp2 zI0.1, ho1, zI0.2.2.1.trans kp2, zI0.2.2.2.1, zI0.2.2.2.2⟩
 split at e
 case h_2 => cases e
 rename_i a b c os ha hb1 hc1 hos;split at e
 case h_2 => cases e
 rename_i ts hts;split at e
 case h_2 => cases e
 rename_i s0 hs0;obtain ⟨hown, e1⟩ := qG e;rw [zQM] at hown;obtain ⟨q, hq, hafter⟩ := q38 e1;have he1 := zI1.1;have zJQ := qA3 hos;have hl1 : zIE.length = N := zI1.2.2.2.2.trans hl;have zLJ : Keep hb h1 := hbh.trans zI1.2.2.1
 let E : GS Γ (TyL ts) -> List PV := fun s => match mkS P w sh ts os zIE h1 (g2 s) with
  | some p => qA p.1
  | none => []
 let Ph : GS Γ (TyL ts) -> PHp := fun s => match mkS P w sh ts os zIE h1 (g2 s) with
  | some p => qH p.2.l
  | none => []
 have hE : ∀ {s e2 h2}, mkS P w sh ts os zIE h1 (g2 s) = some (e2, h2) -> E s = qA e2 ∧ Ph s = qH h2.l := fun hm => by
  simp only [E, Ph, hm, and_self]
 obtain ⟨y0, hy0⟩ := qS3 hq;obtain ⟨e0, hh0, hm0, _⟩ := tV hy0;obtain ⟨wp0, sp0⟩ := qS0 ho1 ho1 he1 ha hb1 hc1 hs0 (by rw [qKC] at hm0; exact hm0) zJQ (qGZ hos) hown.1 hown.2 (fun k o _ _ hk => yI hk) (dA rfl fun _ _ => rfl)
 have fin : ∀ {s e2 h2}, mkS P w sh ts os zIE h1 s = some (e2, h2) -> okL h2 e2 ∧ OkH P h2 ∧ e2.length = N ∧ kZ P w env h e2 h2 ∧ Keep h1 h2 := fun {s e2 h2} hm => by
  obtain ⟨a1, a2, a3, a4, a5, _⟩ := mM ho1 he1 hm;refine ⟨a3, a2, a4.trans hl1, ⟨a3, a2, zI1.2.2.1.trans a1, fun i hi => ?_, a4.trans zI1.2.2.2.2⟩, a1⟩;have hi2 : i ∉ lpW wb sh := by rw [<- hwb]; exact hi
  unfold lpW at hi2;simp only [zRA, not_or] at hi2;rw [a5 i hi hi2.2.2.1 hi2.2.2.2, zI1.2.2.2.1 i hi2.1]
 refine qU.post (qU.pre' (wk1.trans wk2) ?_);refine qU.loop E Ph g1 hq (by rw [(hE hm0).1]; exact wp0) (by rw [(hE hm0).2]; exact sp0) qL6.symm ?_;intro s yy hstep;obtain ⟨e2, hh, hm, hb2⟩ := tV hstep;obtain ⟨f1, f2, f3, f4, f5⟩ := fin hm;rw [(hE hm).1, (hE hm).2];refine (hbody f2 f1 f3 (zLJ.trans f5) hb2).mono ?_;rintro ex g' pe ph ⟨env', h', rfl, rfl, k1, k2, k3, k0, k4, k5⟩;obtain ⟨_, _, _, m4, m5, m6⟩ := mM ho1 he1 hm
 have back : ∀ {s'}, ex ≠ .ret -> bk sh os ts (mkS P w sh ts os zIE h1) h1 hh env' h' = some s' -> ∃ e3 h3, mkS P w sh ts os zIE h1 s' = some (e3, h3) ∧ WkP (qA env') (qA e3) ∧ qA5 (qH h3.l) (qH h'.l) := by
  intro s' hne hbk;unfold bk at hbk;split at hbk
  case h_2 => cases hbk
  rename_i a' b' c' ha' hb' hc';split at hbk
  case h_2 => cases hbk
  rename_i s2 hs2
  cases hc : (q1B os h' && (qDX sh.s env' h' && (qCG (sh.b.map (·.1)) sh.b h1 h' && (eZ (sh.o ++ sh.b.map (·.1)) hh h' && (mkS P w sh ts os zIE h1 s2).isSome)))) with
  | false => rw [hc] at hbk; cases hbk
  | true =>
    rw [hc] at hbk;cases hbk;simp only [zQM] at hc;obtain ⟨⟨e3, h3⟩, hm3⟩ := zR0.1 hc.2.2.2.2;have zJS := k4 hne;refine ⟨e3, h3, hm3, qS0 k2 ho1 k1 ha' hb' hc' hs2 hm3 zJQ hc.1 hc.2.1 hc.2.2.1 (fun k o hk hkb hk2 => nL f2 zJS.2.2.1 hc.2.2.2.1 (by rw [zRA, not_or]; exact ⟨hk, hkb⟩) ?_) (dA ?_ ?_)⟩
    ·rw [m6 k (by rw [zJQ]; exact hk) hkb]; exact hk2
    ·rw [k3, hl1]
    ·intro i hi;have hi2 : i ∉ lpW wb sh := by rw [<- hwb]; exact hi
     unfold lpW at hi2;simp only [zRA, not_or] at hi2;rw [zJS.2.2.2.1 i hi2.2.1, m5 i hi hi2.2.2.1 hi2.2.2.2]
 have out : ∀ {x s' e3 h3}, mkS P w sh ts os zIE h1 s' = some (e3, h3) -> WkP (qA env') (qA e3) -> qA5 (qH h3.l) (qH h'.l) -> (K x g' e3 h3).run = some r -> ∃ pe' ph', Wk P nm (qA env') (qH h'.l) pe' ph' ∧ EQ P N w env h K r x g' pe' ph' := fun {x s' e3 h3} hm3 w1 w2 hk => by
  obtain ⟨g1, g2, g3, g4, g5⟩ := fin hm3;exact ⟨_, _, Wk.drop w1 w2, e3, h3, rfl, rfl, g1, g2, g3, g4.2.2.1, fun _ => g4, hk⟩
 cases ex with
 | normal =>
   simp only [qWQ] at k5;split at k5
   case h_2 => cases k5
   rename_i s' hs';cases k5;obtain ⟨e3, h3, hm3, w1, w2⟩ := back (fun h => by cases h) hs';have hm3 : mkS P w sh ts os zIE h1 (g2 (gj g' s')) = some (e3, h3) := by rw [qKC]; exact hm3
   show zJG.normal = .normal ∧ WkP (qA env') (E (gj g' s')) ∧ qA5 (Ph (gj g' s')) (qH h'.l) ∧ g' = g1 (gj g' s');rw [(hE hm3).1, (hE hm3).2, qL6];exact ⟨rfl, w1, w2, rfl⟩
 | exit j =>
   simp only [qWQ] at k5;split at k5
   case h_2 => cases k5
   rename_i s' hs';obtain ⟨e3, h3, hm3, w1, w2⟩ := back (fun h => by cases h) hs';cases k5;intro hqe;refine ⟨fun h => by (cases h), ?_⟩
   cases hj : Nat.beq j id with
   | true =>
     rw [hj] at hqe;subst hqe;have hjj : j = id := zQN hj;subst hjj;obtain ⟨e4, h4, hm4, hk⟩ := tV hafter;rw [qKC, hm3] at hm4;cases hm4;rw [qL6] at hk;exact BQY.on (out hm3 w1 w2 hk)
   | false =>
     rw [hj] at hqe;subst hqe;have hjj : j ≠ id := fun h => by rw [h, nG] at hj; cases hj
     obtain ⟨e4, h4, hm4, hk⟩ := tV (qR2 hafter);rw [qKC, hm3] at hm4;cases hm4;rw [qL6, qKC] at hk;exact BQY.ex hjj (out hm3 w1 w2 hk)
 | ret =>
   simp only [qWQ] at k5;split at k5
   case h_2 => cases k5
   rename_i v hv;cases k5;intro hqe;subst hqe;have hbr : Keep hb h' := (zLJ.trans f5).trans k0;have hkp := hrd.kept _ _ _ k2 k1 hbr hv
   have hkh : ∀ k o, slk k hb.l = some o -> slk k h.l = some o := fun k o hk => by
    have h2 := hkp k o hk;have hw : o.w < h.next := zQZ (hrd.ob.ver k o hk) hbh.next;have zM3 : Keep h h' := (zI1.2.2.1.trans f5).trans k0;exact zM3.same k o h2 hw
   have hkeep : Keep h ⟨h.next, hb.l⟩ := ⟨zQO _, fun k ob hk _ => hkh k ob hk, fun k el gr g w t xs hk _ => ⟨w, xs, hkh k _ hk, rfl⟩⟩
   have hafter : (K .ret (g1 (gj g' v)) (en (g2 (gj g' v))) ⟨h.next, hb.l⟩).run = some r := hafter;rw [qL6, qKC] at hafter;refine ⟨fun h => by (cases h), BQY.rt ⟨_, _, hrd.wk _ _ _ k2 k1 k3 hbr hv, en v, ⟨h.next, hb.l⟩, rfl, rfl, hrd.ok v _, q41 hrd.ob hbh.next, hrd.len v, hkeep, fun h => absurd rfl h, hafter⟩⟩
 | goto l => simp only [qWQ] at k5; cases k5
end
end Go.Sv
namespace Go.Sv
open Go.Idl
variable {d1 d2 id j k rid v : Nat} {e : List PV} {env zIE : List SV} {h h1 hb : SH} {o1 o2 : Oper} {ops : Array Oper} {ph : PHp} {sh : Sh} {t : TypeId} {w wb : List Nat} {x : Operand} {y : Code}
noncomputable section
variable [Gc]
variable [Yl]
variable {P : Program} {Γ : Option Type} {R : Type} {r : R} {nm : Nm} {G : Nat -> Bool} {rd : Bool} {N : Nat} {rs : List Ty} {tab : fM} {nat : xG} {good : FuncId -> Bool} {wd : Wld (GV Γ)}
def swp (k : Nat) (o : SO) (h : SH) : SH := ⟨h.next, sst k o h.l⟩
omit [Yl] in
theorem qXB {k j : Nat} {o : SO} (hj : j ≠ k) : ∀ (l : List (Nat × SO)), sdl j (sst k o l) = sst k o (sdl j l)
 | [] => rfl
 | (i, p) :: l => by
   have ih := qXB (o := o) hj l;by_cases h1 : k = i
   ·subst h1;have e1 : sst k o ((k, p) :: l) = (k, o) :: l := by show cond (k == k) _ _ = _; simp
    have hjk : (j == k) = false := by simpa using hj
    rw [e1];show cond (j == k) (sdl j l) ((k, o) :: sdl j l) = sst k o (cond (j == k) (sdl j l) ((k, p) :: sdl j l));rw [hjk];show _ = cond (k == k) ((k, o) :: sdl j l) _;simp
   ·have hki : (k == i) = false := by simpa using h1
    have e1 : sst k o ((i, p) :: l) = (i, p) :: sst k o l := by show cond (k == i) _ _ = _; rw [hki]; rfl
    rw [e1];show cond (j == i) (sdl j (sst k o l)) ((i, p) :: sdl j (sst k o l)) = sst k o (cond (j == i) (sdl j l) ((i, p) :: sdl j l));rw [ih]
    cases j == i with
    | true => rfl
    | false =>
      show _ = cond (k == i) _ ((i, p) :: sst k o (sdl j l));rw [hki]; rfl
omit [Yl] in
theorem qX1 {o : SO} {f : Nat -> SO} (hj : j ≠ k) : ((swp k o h).del j).new j f = swp k o ((h.del j).new j f) := by
 show (⟨h.next + 1, (j, f h.next) :: sdl j (sst k o h.l)⟩ : SH) = ⟨h.next + 1, sst k o ((j, f h.next) :: sdl j h.l)⟩;have hkj : (k == j) = false := by simpa using Ne.symm hj
 have : sst k o ((j, f h.next) :: sdl j h.l) = (j, f h.next) :: sst k o (sdl j h.l) := by show cond (k == j) _ _ = _; rw [hkj]; rfl
 rw [this, qXB hj]
omit [Yl] in
theorem qQA {k : Nat} {o : SO} : ∀ {os : List (Nat × Bool)} {l : List SV} {h : SH}, k ∉ os.map (·.1) -> qUG P os l (swp k o h) = (qUG P os l h).map (swp k o)
 | [], [], h, _ => rfl
 | [], _ :: _, h, _ => rfl
 | _ :: _, [], h, _ => rfl
 | (j, gr) :: ks, c :: l, h, hk => by
   simp only [zQ0, zQ2, not_or] at hk;unfold qUG
   cases q9E P gr c with
   | none => rfl
   | some f =>
     simp only;rw [qX1 (Ne.symm hk.1), qQA hk.2]
omit [Yl] in
theorem qGT {k kb w : Nat} {v v' : Nat} {x y : SpO} {h : SH} (hs : slk k h.l = some (.spc v x)) : ∀ (ds : List (Option Nat)) (l : List SV), mkB kb w ds l (swp k (.spc v' y) h) = mkB kb w ds l h
 | [], l => rfl
 | none :: ds, [] => rfl
 | none :: ds, c :: l => by
   unfold mkB;rw [qGT hs ds l]
 | some i :: ds, l => by
   unfold mkB
   cases q9U i with
   | true =>
     simp only [cond_true]
     cases l with
     | nil => rfl
     | cons c l' => simp only [qGT hs ds l']
   | false =>
     simp only [cond_false, qGT hs ds l];by_cases hi : i = k
     ·subst hi;rw [show (swp i (.spc v' y) h).l = sst i (.spc v' y) h.l from rfl, qBA hs, hs]
     ·rw [show (swp k (.spc v' y) h).l = sst k (.spc v' y) h.l from rfl, vS hi]
omit [Yl] in
theorem qR5 {k : Nat} {v v' : Nat} {x y : SpO} {h1 : SH} (hs1 : slk k h1.l = some (.spc v x)) : ∀ {bs : List (Nat × List (Option Nat))} {l : List SV} {h : SH} {u : Nat} {z : SpO}, slk k h.l = some (.spc u z) -> k ∉ bs.map (·.1) ->
 qUF (swp k (.spc v' y) h1) bs l (swp k (.spc v' y) h) = (qUF h1 bs l h).map (swp k (.spc v' y))
 | [], l, h, u, z, hs, _ => rfl
 | (j, ds) :: bs, l, h, u, z, hs, hk => by
   simp only [zQ0, zQ2, not_or] at hk;unfold qUF;rw [show (swp k (.spc v' y) h1).l = sst k (.spc v' y) h1.l from rfl, vS (Ne.symm hk.1)];split
   ·rename_i el w0 l0 _;rw [qGT hs]
    cases mkB j (List.length ds) ds l h with
    | none => rfl
    | some p =>
      simp only;rw [qX1 (Ne.symm hk.1)];refine qR5 hs1 (u := u) (z := z) ?_ hk.2;show slk k ((j, _) :: sdl j h.l) = _;rw [zK hk.1, yK hk.1];exact hs
   ·rfl
omit [Yl] in
theorem qIG {k : Nat} {v v' : Nat} {x y : SpO} {h : SH} (hs : slk k h.l = some (.spc v x)) : ∀ (l : List (Nat × Nat)) (env : List SV), qUE l (swp k (.spc v' y) h) env = qUE l h env
 | [], env => rfl
 | (i, j) :: l, env => by
   unfold qUE
   cases Nat.ble mkM j with
   | true => exact qIG hs l _
   | false =>
     simp only [cond_false];by_cases hi : j = k
     ·subst hi;rw [show (swp j (.spc v' y) h).l = sst j (.spc v' y) h.l from rfl, qBA hs, hs]
     ·rw [show (swp k (.spc v' y) h).l = sst k (.spc v' y) h.l from rfl, vS hi];split
      ·exact qIG hs l _
      ·rfl
theorem qYF {k : Nat} : ∀ {os : List (Nat × Bool)} {l : List SV} {h h2 : SH}, k ∉ os.map (·.1) -> qUG P os l h = some h2 -> slk k h2.l = slk k h.l
 | [], [], h, h2, _, e => by cases e; rfl
 | [], _ :: _, h, h2, _, e => by cases e
 | _ :: _, [], h, h2, _, e => by cases e
 | (j, gr) :: ks, c :: l, h, h2, hk, e => by
   simp only [zQ0, zQ2, not_or] at hk;obtain ⟨f, _, e1⟩ := qC1 e;rw [qYF hk.2 e1];show slk k ((j, _) :: sdl j h.l) = _;rw [zK hk.1, yK hk.1]
omit [Yl] in
theorem qUP {k : Nat} {h1 : SH} : ∀ {bs : List (Nat × List (Option Nat))} {l : List SV} {h h2 : SH}, k ∉ bs.map (·.1) -> qUF h1 bs l h = some h2 -> slk k h2.l = slk k h.l
 | [], l, h, h2, _, e => by cases e; rfl
 | (j, ds) :: bs, l, h, h2, hk, e => by
   simp only [zQ0, zQ2, not_or] at hk;unfold qUF at e;split at e
   ·split at e
    ·rw [qUP hk.2 e];show slk k ((j, _) :: sdl j h.l) = _;rw [zK hk.1, yK hk.1]
    ·cases e
   ·cases e
theorem q8L {W : List Nat} {ts : List Ty} {os : List (Nat × Bool)} {s : TyL ts} {v' : Nat} {x y : SpO} (hs : slk k h.l = some (.spc v x)) (hk : k ∉ os.map (·.1)) (hb : k ∉ sh.b.map (·.1)) :
 mkS P W sh ts os env (swp k (.spc v' y) h) s = (mkS P W sh ts os env h s).map fun p => (p.1, swp k (.spc v' y) p.2) := by
 unfold mkS;rw [qQA hk]
 cases h2 : qUG P os ((eU sh.d (svL ts s) (blank W 0 env)).2.take os.length) h with
 | none => rfl
 | some h2' =>
   have hs2 : slk k h2'.l = some (.spc v x) := (qYF hk h2).trans hs;simp only [zQW];rw [qR5 hs hs2 hb]
   cases h3 : qUF h sh.b ((eU sh.d (svL ts s) (blank W 0 env)).2.drop os.length) h2' with
   | none => rfl
   | some h3' =>
     have hs3 : slk k h3'.l = some (.spc v x) := (qUP hb h3).trans hs2;simp only [zQW];rw [qIG hs3];cases qUE sh.s h3' (eU sh.d (svL ts s) (blank W 0 env)).1 <;> rfl
def zIA.zM4 {α : Type} (p : α -> Prop) (t : α -> zIA R) : zIA R := .bind (aT p fun a => (t a).run) .ret
omit [Yl] in
theorem qPA {α : Type} {p : α -> Prop} {t : α -> zIA R} (h : (zIA.zM4 p t).run = some r) : ∀ a, p a -> (t a).run = some r := fun a ha => by
 obtain ⟨b, h1, h2⟩ := run_bind h;cases h2;exact nZ h1 a ha
def qIO (e : List SV) (d : Nat) : Bool := match zM e d with
 | some .unk => true
 | _ => false
def zBG (k : Nat) (x : Operand) (d1 d2 : Nat) (e : List SV) : Bool := (match xM e x with
 | .ref k' off w => Nat.beq k' k && (Nat.beq off 0 && Nat.beq w 4)
 | _ => false) && (qIO e d1 && qIO e d2)
def hI (h1 : SH) (k : Nat) (t : TypeId) (j since last : Nat) (seen : List Nat) : SH := h1.put k fun v => .spc v (.mit t j since last seen)
def qZL (ab : Ab) (k : Nat) (x : Operand) (d1 d2 : Nat) (sh : Sh) (os : List (Nat × Bool)) (ts : List Ty) (mk : TyL ts -> Option (List SV × SH)) (h1 hh : SH) : wO Γ (GS Γ (ab.A ts)) := fun e g env h => match e with
 | .normal => (match bk sh os ts mk h1 hh env h with
   | some s => (match mk s with
     | some p => cond (zBG k x d1 d2 p.1) (.ret (gj g (ab.f ts s))) .fail
     | none => .fail)
   | none => .fail)
 | _ => .fail
def mrT (P : Program) (G : Nat -> Bool) (w : List Nat) (sh : Sh) (ab : Ab) (ops : Array Oper) (x : Operand) (d1 d2 : Nat) (k : Nat) (t : TypeId) (j : Nat) (es : List (Value × Value)) (body : ∀ {R' : Type}, GV Γ -> List SV -> SH -> wO Γ R' -> zIA R') (g : GV Γ) (zIE : List SV) (h1 : SH) (K : wO Γ R) : zIA R :=
 match qG1 sh.d zIE, qZZ sh.o (hI h1 k t j (List.length es) 0 []), qAF sh.b (hI h1 k t j (List.length es) 0 []), q57 sh.o (hI h1 k t j (List.length es) 0 []) with
  | some a, some b, some c, some os => (match zDX (a ++ (b ++ c)) with
    | some ts => (match qCF ts (a ++ (b ++ c)) with
      | some s0 => (match mkS P w sh ts os zIE (hI h1 k t j (List.length es) 0 []) s0 with
        | some p0 => cond ((qDX sh.s zIE (hI h1 k t j (List.length es) 0 []) && qCG (sh.b.map (·.1)) sh.b (hI h1 k t j (List.length es) 0 []) (hI h1 k t j (List.length es) 0 [])) && (spec P 1000000001 && (spec P 1000000002 && (!(j == k) && (!qEE k sh.o && (!qEE k (sh.b.map (·.1)) && (!qEE j sh.o && (!qEE j (sh.b.map (·.1)) && (zBG k x d1 d2 p0.1 && fE G ops)))))))))
          (cond (es.all fun p => zG p.1) (.bind (w9 (List.length es) (fun i a => aT (fun p : List Nat × GS Γ (TyL ts) => gj (g1 p.2) (ab.f ts (g2 p.2)) = a) fun p => zIA.run (goS (mkS P w sh ts os zIE (hI h1 k t j (List.length es) (i + 1) p.1) (g2 p.2)) fun e hh =>
            body (g1 p.2) e hh (qZL ab k x d1 d2 sh os ts (mkS P w sh ts os zIE (hI h1 k t j (List.length es) (i + 1) p.1)) (hI h1 k t j (List.length es) (i + 1) p.1) hh))) (gj g (ab.f ts s0)))
            fun a => zIA.zM4 (fun p : List Nat × GS Γ (TyL ts) => gj (g1 p.2) (ab.f ts (g2 p.2)) = a) fun p => goS (mkS P w sh ts os zIE (hI h1 k t j (List.length es) 0 p.1) (g2 p.2)) fun e hh => K .normal (g1 p.2) e hh) .fail) .fail
        | none => .fail)
      | none => .fail)
    | none => .fail)
  | _, _, _, _ => .fail
def q5H (P : Program) (G : Nat -> Bool) (nm : Nm) (w : List Nat) (sh : Sh) (ab : Ab) (ops : Array Oper) (x : Operand) (d1 d2 : Nat) (body : ∀ {R' : Type}, GV Γ -> List SV -> SH -> wO Γ R' -> zIA R') (g : GV Γ) (env : List SV) (h : SH) (K : wO Γ R) : zIA R :=
 qI7 P nm sh.v env h fun zIE h0 => qDE P nm sh.bv zIE h0 fun zIE h1 => match xM zIE x with
  | .ref k _ _ => (match slk k h1.l with
    | some (.spc _ (.mit t j since 0 [])) => (match slk j h1.l with
      | some (.spc _ (.map es)) => cond (Nat.beq since (List.length es)) (mrT P G w sh ab ops x d1 d2 k t j es (fun {_} => body) g zIE h1 K) .fail
      | _ => .fail)
    | _ => .fail)
  | _ => .fail
omit [Yl] in
theorem qNF {k : Nat} {o o' : SO} : ∀ (l : List (Nat × SO)), sst k o (sst k o' l) = sst k o l
 | [] => rfl
 | (i, p) :: l => by
   show sst k o (cond (k == i) ((i, o') :: l) ((i, p) :: sst k o' l)) = cond (k == i) ((i, o) :: l) ((i, p) :: sst k o l)
   cases h : k == i with
   | true =>
     show cond (k == i) ((i, o) :: l) _ = _;rw [h]; rfl
   | false =>
     show cond (k == i) _ ((i, p) :: sst k o (sst k o' l)) = _;rw [h, qNF l]; rfl
omit [Yl] in
theorem zBF {since la : Nat} {seen : List Nat} : hI h1 k t j since la seen = swp k (.spc h1.next (.mit t j since la seen)) (hI h1 k t j since 0 []) := by
 show (⟨h1.next + 1, sst k (.spc h1.next (.mit t j since la seen)) h1.l⟩ : SH) = ⟨h1.next + 1, sst k (.spc h1.next (.mit t j since la seen)) (sst k (.spc h1.next (.mit t j since 0 [])) h1.l)⟩;rw [qNF]
omit [Yl] in
theorem bX : ∀ (n : Nat) (es : List (Value × Value)), ∀ e ∈ zP n es, e.born < n + es.length ∧ ∃ p ∈ es, e.key = p.1
 | n, [], e, h => by simp [zP] at h
 | n, p :: es, e, h => by
   have h : e ∈ (⟨p.1, p.2, n⟩ : MapEntry) :: zP (n + 1) es := h;rcases zQ2.1 h with rfl | h
   ·exact ⟨by simp, p, by simp, rfl⟩
   ·obtain ⟨h1, q, h2, h3⟩ := bX (n + 1) es e h;exact ⟨by rw [zRB]; omega, q, by simp [h2], h3⟩
omit [Yl] in
theorem q1M {e : List SV} (h : zBG k x d1 d2 e = true) : xM e x = .ref k 0 4 ∧ zM e d1 = some .unk ∧ zM e d2 = some .unk := by
 unfold zBG at h;simp only [zQM] at h;obtain ⟨h1, h2, h3⟩ := h;refine ⟨?_, ?_, ?_⟩
 ·split at h1
  ·rename_i k' off w hs;simp only [zQM] at h1;rw [hs, zQN h1.1, zQN h1.2.1, zQN h1.2.2]
  ·cases h1
 ·unfold qIO at h2;split at h2
  ·assumption
  ·cases h2
 ·unfold qIO at h3;split at h3
  ·assumption
  ·cases h3
omit [Yl] in
theorem qB2 {k : Nat} {o : PO} : ∀ {l : PHp}, qB k l = some o -> xN k o l = l
 | [], h => rfl
 | (i, p) :: l, h => by
   have h : cond (k == i) (some p) (qB k l) = some o := h;show cond (k == i) ((i, o) :: l) ((i, p) :: xN k o l) = _
   cases hk : k == i with
   | true => rw [hk] at h; cases h; rfl
   | false => rw [hk] at h; rw [cond_false, qB2 h]
omit [Yl] in
theorem qK6 {w : Wld (GV Γ)} {tab : fM} {ds : List (Option Tmp)} {b : Bool} {rest : List PV} {y : PV} {Q : GV Γ -> List PV -> PHp -> Prop} {g : GV Γ} (zKE : o2.op = .extract (.tmp d1) 0) (h2d : o2.dst = some d2) (h2g : o2.guard = none) (hn : zM e d1 = some y)
 (h : Q g (yQ (yQ e d1 (.tup (fvv (.bool b) :: rest))) d2 (fvv (.bool b))) ph) : (pops P tab (fun _ => false) nm ds [o2] (yN e (some d1) (.tup (fvv (.bool b) :: rest))) ph).zIV P G w Q g := by
 have hlt : d1 < e.length := by
  rw [qD] at hn;exact (zQQ.1 hn).1
 have hv : qN (yQ e d1 (.tup (fvv (.bool b) :: rest))) (.tmp d1) = .tup (fvv (.bool b) :: rest) := by
  show (zM (yQ e d1 _) d1).getD .unk = _;rw [qD, qW, List.getElem?_set_self hlt]; rfl
 have hx : gV P tab (fun _ => false) (zL nm o2.dst) o2 (yQ e d1 (.tup (fvv (.bool b) :: rest))) ph = .ok (fvv (.bool b)) ph := by
  unfold gV;simp only [zKE];unfold q1K;simp only [zKE];unfold qDM;simp only [zKE, hv];rfl
 have hpw : fK ds o2 (yQ e d1 (.tup (fvv (.bool b) :: rest))) = some true := by unfold fK; rw [h2g]
 unfold pops;rw [qTP, hpw, hx];simp only [vX];have zOF : needs o2.op = false := by rw [zKE]; rfl
 unfold q8A;rw [zOF];simp only [cond_false];unfold pops;rw [h2d];exact h
omit [Yl] in
theorem qO9 {u v : PV} (h1 : zM e d1 = some .unk) (h2 : zM e d2 = some .unk) : WkP (yQ (yQ e d1 u) d2 v) e := by
 refine qIV (by rw [qW, qW, zRH, zRH]) fun i => ?_
 by_cases hi2 : i = d2
 ·subst hi2; exact .inr h2
 ·by_cases hi1 : i = d1
  ·subst hi1; exact .inr h1
  ·left
   rw [qD, qD, qW, qW, zTU (fun h => hi2 h.symm), zTU (fun h => hi1 h.symm)]
theorem zBR {ab : Ab} {body : ∀ {R' : Type}, GV Γ -> List SV -> SH -> wO Γ R' -> zIA R'} (s : zI6 P good nat G tab) (hwb : w = lpW wb sh)
 (hops : ops.toList = [o1, o2]) (zM5 : o1.op = .next x false) (h1d : o1.dst = some d1) (h1g : o1.guard = none) (zKE : o2.op = .extract (.tmp d1) 0) (h2d : o2.dst = some d2) (h2g : o2.guard = none)
 (hbody : ∀ {R' : Type} {g : GV Γ} {env : List SV} {h : SH} {K : wO Γ R'} {r : R'}, OkH P h -> okL h env -> env.length = N -> Keep hb h -> (body g env h K).run = some r -> qU P G rd nm wd y g (qA env) (qH h.l) (EQ P N wb env h K r))
 {es : List (Value × Value)} {g : GV Γ} {K : wO Γ R} {v2 : Nat} (hk : slk k h1.l = some (.spc v (.mit t j es.length 0 []))) (hj : slk j h1.l = some (.spc v2 (.map es))) (ho : OkH P h1) (he : okL h1 zIE) (hl : zIE.length = N) (hbh : Keep hb h1)
 (e : (mrT P G w sh ab ops x d1 d2 k t j es body g zIE h1 K).run = some r) :
 qU P G rd nm wd (.block id (.loop (.seq (.region rid ops false) (.seq (.cond (.tmp d2) .skip (.exit id)) y)))) g (qA zIE) (qH h1.l) (EQ P N w zIE h1 K r) := by
 unfold mrT at e;split at e
 case h_2 => cases e
 rename_i a b c os ha hb1 hc1 hos;split at e
 case h_2 => cases e
 rename_i ts hts;split at e
 case h_2 => cases e
 rename_i s0 hs0;split at e
 case h_2 => cases e
 rename_i p0 hp0;obtain ⟨e00, zLK⟩ := p0;obtain ⟨hc, e1⟩ := qG e;simp only [zQM, zRN] at hc;obtain ⟨hplain, e1⟩ := qG e1;obtain ⟨⟨hown, zJO⟩, hsp1, hsp2, zPV, hko, hkb, hjo, hjb, zPW, hok⟩ := hc;have hjk : j ≠ k := by simpa using zPV
 have zL4 : ∀ {i : Nat} {l : List Nat}, qEE i l = false -> i ∉ l := fun h hm => by rw [fJ.2 hm] at h; cases h
 obtain ⟨q, hq, hafter⟩ := run_bind e1;have zJQ := qA3 hos;have zM6 : k ∉ os.map (·.1) := by rw [zJQ]; exact zL4 hko
 have zPX : j ∉ os.map (·.1) := by rw [zJQ]; exact zL4 hjo
 have zM7 := zL4 hkb;have zPY := zL4 hjb;have hput : ∀ la seen, Keep h1 (hI h1 k t j es.length la seen) ∧ OkH P (hI h1 k t j es.length la seen) := fun la seen => bD (f := fun v => .spc v (.mit t j es.length la seen)) ho hk rfl
 have zM8 : ∀ la seen, slk k (hI h1 k t j es.length la seen).l = some (.spc h1.next (.mit t j es.length la seen)) := fun la seen => qBA hk
 have zPZ : ∀ la seen, slk j (hI h1 k t j es.length la seen).l = some (.spc v2 (.map es)) := fun la seen => (vS hjk _).trans hj
 have hsw : ∀ la seen (st : TyL ts), mkS P w sh ts os zIE (hI h1 k t j es.length la seen) st = (mkS P w sh ts os zIE (hI h1 k t j es.length 0 []) st).map fun p => (p.1, swp k (.spc h1.next (.mit t j es.length la seen)) p.2) := fun la seen st => by
  rw [zBF]; exact q8L (zM8 0 []) zM6 zM7
 let E : GS Γ (TyL ts) -> List PV := fun st => match mkS P w sh ts os zIE (hI h1 k t j es.length 0 []) (g2 st) with
  | some p => qA p.1
  | none => []
 let Ph : Nat -> List Nat -> GS Γ (TyL ts) -> PHp := fun la seen st => match mkS P w sh ts os zIE (hI h1 k t j es.length 0 []) (g2 st) with
  | some p => qH (swp k (.spc h1.next (.mit t j es.length la seen)) p.2).l
  | none => []
 let Gd : GS Γ (TyL ts) -> Prop := fun st => ∃ e2 hh, mkS P w sh ts os zIE (hI h1 k t j es.length 0 []) (g2 st) = some (e2, hh) ∧ zBG k x d1 d2 e2 = true
 have hE : ∀ {st e2 hh}, mkS P w sh ts os zIE (hI h1 k t j es.length 0 []) (g2 st) = some (e2, hh) -> E st = qA e2 ∧ ∀ la seen, Ph la seen st = qH (swp k (.spc h1.next (.mit t j es.length la seen)) hh).l := fun hm => by
  simp only [E, Ph, hm, and_self, implies_true]
 have fin : ∀ {st e2 hh}, mkS P w sh ts os zIE (hI h1 k t j es.length 0 []) st = some (e2, hh) -> ∀ la seen, mkS P w sh ts os zIE (hI h1 k t j es.length la seen) st = some (e2, swp k (.spc h1.next (.mit t j es.length la seen)) hh) ∧ okL (swp k (.spc h1.next (.mit t j es.length la seen)) hh) e2 ∧ OkH P (swp k (.spc h1.next (.mit t j es.length la seen)) hh) ∧ e2.length = N ∧
  kZ P w zIE h1 e2 (swp k (.spc h1.next (.mit t j es.length la seen)) hh) ∧ Keep (hI h1 k t j es.length la seen) (swp k (.spc h1.next (.mit t j es.length la seen)) hh) ∧ slk k (swp k (.spc h1.next (.mit t j es.length la seen)) hh).l = some (.spc h1.next (.mit t j es.length la seen)) ∧ slk j (swp k (.spc h1.next (.mit t j es.length la seen)) hh).l = some (.spc v2 (.map es)) := fun {st e2 hh} hm la seen => by
  have hm2 : mkS P w sh ts os zIE (hI h1 k t j es.length la seen) st = some (e2, swp k (.spc h1.next (.mit t j es.length la seen)) hh) := by rw [hsw, hm]; rfl
  obtain ⟨a1, a2, a3, a4, a5, a6⟩ := mM (hput la seen).2 (qL (hput la seen).1 he) hm2;refine ⟨hm2, a3, a2, a4.trans hl, ⟨a3, a2, (hput la seen).1.trans a1, fun i hi => ?_, a4⟩, a1, (a6 k zM6 zM7).trans (zM8 la seen), (a6 j zPX zPY).trans (zPZ la seen)⟩;have hi2 : i ∉ lpW wb sh := by rw [<- hwb]; exact hi
  unfold lpW at hi2;simp only [zRA, not_or] at hi2;exact a5 i hi hi2.2.2.1 hi2.2.2.2
 have zP0 : qH (hI h1 k t j es.length 0 []).l = qH h1.l := by
  rw [show (hI h1 k t j es.length 0 []).l = sst k (.spc h1.next (.mit t j es.length 0 [])) h1.l from rfl, jD];have hk9 := yI hk;exact qB2 (show qB k (qH h1.l) = some (SO.enc (.spc h1.next (.mit t j es.length 0 []))) from hk9)
 obtain ⟨z1, z2, z3, z4, z5, z6, z7, z8⟩ := fin hp0 0 [];obtain ⟨_, _, _, _, y5, y6⟩ := mM (hput 0 []).2 (qL (hput 0 []).1 he) hp0;have hhk : slk k zLK.l = some (.spc h1.next (.mit t j es.length 0 [])) := (y6 k zM6 zM7).trans (zM8 0 []);obtain ⟨wp0, sp0⟩ := qS0 (hput 0 []).2 (hput 0 []).2 (qL (hput 0 []).1 he) ha hb1 hc1 hs0 hp0 zJQ (qGZ hos) hown zJO (fun k o _ _ hk => yI hk) (dA rfl fun _ _ => rfl);have hm0 : mkS P w sh ts os zIE (hI h1 k t j es.length 0 []) (g2 (gj g s0)) = some (e00, zLK) := by rw [qKC]; exact hp0
 refine qU.post (qU.zOG Gd E Ph g1 (fun st => gj (g1 st) (ab.f ts (g2 st))) es.length (s0 := gj g s0) (r := q) (by rw [qL6, qKC]; exact hq) (by rw [(hE hm0).1]; exact wp0) ?_ qL6.symm ⟨e00, zLK, hm0, zPW⟩ ?_)
 ·rw [(hE hm0).2, show (swp k (.spc h1.next (.mit t j es.length 0 [])) zLK).l = sst k (.spc h1.next (.mit t j es.length 0 [])) zLK.l from rfl, jD, qB2 (yI hhk), <- zP0];exact sp0
 ·rintro la seen st ⟨e2, hh, hm, hhd⟩ hnext;rw [(hE hm).1, (hE hm).2];obtain ⟨f1, f2, f3, f4, f5, f6, f7, f8⟩ := fin hm la seen;obtain ⟨q1, q2, q3⟩ := q1M hhd;have u1 : zM (qA e2) d1 = some .unk := by rw [zF, q2]; simp [SV.enc]
  have u2 : zM (qA e2) d2 = some .unk := by rw [zF, q3]; simp [SV.enc]
  have hpx : qN (qA e2) x = .ref k 4 0 := by rw [qO, q1]; simp [SV.enc]
  obtain ⟨hpm, _⟩ := qMY (x := .mp j) hsp1 (show smp (.mp j) (swp k (.spc h1.next (.mit t j es.length la seen)) hh) = some (j, es) by unfold smp; simp only [f8])
  have hpm : wJ P (.mp j) (qH (swp k (.spc h1.next (.mit t j es.length la seen)) hh).l) = some (j, (SpO.map es).enc, es.length, zP 0 es) := by
   have : (SV.mp j).enc = .mp j := by simp [SV.enc]
   rw [this] at hpm; exact hpm
  have hset : ∀ la' seen', xN k (qZI (.mp j) es.length la' seen') (qH (swp k (.spc h1.next (.mit t j es.length la seen)) hh).l) = qH (swp k (.spc h1.next (.mit t j es.length la' seen')) hh).l := fun la' seen' => by
   show xN k _ (qH (sst k (.spc h1.next (.mit t j es.length la seen)) hh.l)) = qH (sst k (.spc h1.next (.mit t j es.length la' seen')) hh.l);rw [<- qNF (o := .spc h1.next (.mit t j es.length la' seen')) (o' := .spc h1.next (.mit t j es.length la seen)) hh.l, jD (o := .spc h1.next (.mit t j es.length la' seen'))];rfl
  have hlast : ∀ (bb : Bool) (rest : List PV), (yQ (yQ (qA e2) d1 (.tup (fvv (.bool bb) :: rest))) d2 (fvv (.bool bb))).length = (qA e2).length ∧ qN (yQ (yQ (qA e2) d1 (.tup (fvv (.bool bb) :: rest))) d2 (fvv (.bool bb))) (.tmp d2) = fvv (.bool bb) := fun bb rest => by
   have hlt : d2 < (qA e2).length := by
    rw [qD] at u2;exact (zQQ.1 u2).1
   refine ⟨by rw [qW, qW, zRH, zRH], ?_⟩;show (zM (yQ (yQ (qA e2) d1 _) d2 _) d2).getD .unk = _;rw [qD, qW, List.getElem?_set_self (by rw [qW, zRH]; exact hlt)]; rfl
  refine qU.seq (s.zL5 (inl := fun _ => false) hok hops zM5 h1g hpx (yI f7) hsp2 hjk hpm (fun en hen => by have := (bX 0 es en hen).1; omega) (fun en hen => by
   obtain ⟨_, p, hp, hkey⟩ := bX 0 es en hen
   rw [hkey]; exact zQR.1 hplain p hp) ?_ ?_)
  ·intro hall;rw [h1d];refine qK6 zKE h2d h2g u1 ?_;show qU P G rd nm wd (.seq (.cond (.tmp d2) .skip (.exit id)) y) (g1 st) _ _ _;refine qU.seq (qU.cond (t := false) rfl (hlast false []).2 (fun h => by cases h) fun _ => qU.exit (.inl ⟨fun h => (by cases h), fun i hi => ?_, fun hα => ?_⟩))
   ·have hlt : i < es.length := hi;have hg : (zP 0 es)[i]? = some ⟨es[i].1, es[i].2, 0 + i⟩ := by rw [vB, zQP hlt]; rfl
    have := hall _ (zRL hg);simpa using this
   ·refine BQY.on ?_;have ha2 := qPA hafter (seen, st) hα;obtain ⟨e4, h4, hm4, hkk⟩ := tV ha2;obtain ⟨m1, m2, m3, m4, m5, m6, m7, m8⟩ := fin hm 0 seen;rw [m1] at hm4;cases hm4;rw [hset];exact ⟨_, _, Wk.drop (qO9 u1 u2) (qA5.refl _), e2, _, rfl, rfl, m2, m3, m4, m5.2.2.1, fun _ => m5, hkk⟩
  ·intro en hen hns;rw [h1d];refine qK6 zKE h2d h2g u1 ?_;show qU P G rd nm wd (.seq (.cond (.tmp d2) .skip (.exit id)) y) (g1 st) _ _ _;refine qU.seq (qU.cond (t := true) rfl (hlast true _).2 (fun _ => qU.skip ?_) (fun h => by cases h));show qU P G rd nm wd y (g1 st) _ _ _;have hb0 := (bX 0 es en hen).1;have hlt : en.born < es.length := by omega
   obtain ⟨m1, m2, m3, m4, m5, m6, m7, m8⟩ := fin hm (en.born + 1) (insertSorted en.born seen);obtain ⟨q', hq'⟩ := hnext en.born hlt hns;have hr2 := nZ hq' (insertSorted en.born seen, st) rfl;obtain ⟨e4, h4, hm4, hkk⟩ := tV hr2;rw [m1] at hm4;cases hm4;rw [hset];refine qU.pre' (Wk.drop (qO9 u1 u2) (qA5.refl _)) ((hbody m3 m2 m4 ((hbh.trans (hput _ _).1).trans m6) hkk).mono ?_);rintro ex g' pe ph ⟨env', h', rfl, rfl, k1, k2, k3, k0, k4, k5⟩
   cases ex with
   | normal =>
     simp only [qZL] at k5;split at k5
     case h_2 => cases k5
     rename_i s' hs';split at k5
     case h_2 => cases k5
     rename_i p3 hp3;obtain ⟨e3, h3⟩ := p3;obtain ⟨zP1, k6⟩ := qG k5;cases k6;have zJS := k4 (fun h => by cases h);unfold bk at hs';split at hs'
     case h_2 => cases hs'
     rename_i a' b' c' ha' hb' hc';split at hs'
     case h_2 => cases hs'
     rename_i s2 hs2
     cases hcc : (q1B os h' && (qDX sh.s env' h' && (qCG (sh.b.map (·.1)) sh.b (hI h1 k t j es.length (en.born + 1) (insertSorted en.born seen)) h' && (eZ (sh.o ++ sh.b.map (·.1)) (swp k (.spc h1.next (.mit t j es.length (en.born + 1) (insertSorted en.born seen))) hh) h' && (mkS P w sh ts os zIE (hI h1 k t j es.length (en.born + 1) (insertSorted en.born seen)) s2).isSome)))) with
     | false => rw [hcc] at hs'; cases hs'
     | true =>
       rw [hcc] at hs';cases hs';simp only [zQM] at hcc;obtain ⟨_, _, _, _, mm5, mm6⟩ := mM (hput (en.born + 1) (insertSorted en.born seen)).2 (qL (hput _ _).1 he) m1
       obtain ⟨w1, w2⟩ := qS0 k2 (hput (en.born + 1) (insertSorted en.born seen)).2 k1 ha' hb' hc' hs2 hp3 zJQ hcc.1 hcc.2.1 hcc.2.2.1 (fun i o hi hib hi2 => nL m3 zJS.2.2.1 hcc.2.2.2.1 (by rw [zRA, not_or]; exact ⟨hi, hib⟩) (by rw [mm6 i (by rw [zJQ]; exact hi) hib]; exact hi2)) (dA (by rw [k3, hl]) fun i hi => by
        have hi2 : i ∉ lpW wb sh := by rw [<- hwb]; exact hi
        unfold lpW at hi2;simp only [zRA, not_or] at hi2
        rw [zJS.2.2.2.1 i hi2.2.1, mm5 i hi hi2.2.2.1 hi2.2.2.2])
       cases hm5 : mkS P w sh ts os zIE (hI h1 k t j es.length 0 []) s' with
       | none => rw [hsw, hm5] at hp3; cases hp3
       | some p5 =>
         obtain ⟨e5, h5⟩ := p5;rw [hsw, hm5] at hp3;cases hp3;have hm6 : mkS P w sh ts os zIE (hI h1 k t j es.length 0 []) (g2 (gj g' s')) = some (e5, h5) := by rw [qKC]; exact hm5
         refine .inr ⟨rfl, en.born, gj g' s', hlt, hns, ?_, ?_, ?_, qL6.symm, ⟨e5, h5, hm6, zP1⟩⟩
         ·simp only [qL6, qKC]; exact hq'
         ·rw [(hE hm6).1]; exact w1
         ·rw [(hE hm6).2]; exact w2
   | exit i => simp only [qZL] at k5; cases k5
   | ret => simp only [qZL] at k5; cases k5
   | goto l => simp only [qZL] at k5; cases k5
theorem EQ.zOH (hwb : w = lpW wb sh) {K : wO Γ R} {e : zJG} {g : GV Γ} {pe : List PV} (a : kZ P (sh.v.map (·.1)) env h zIE h1) (b : EQ P N w zIE h1 K r e g pe ph) : EQ P N w env h K r e g pe ph := by
 obtain ⟨env', h', b1, b2, b3, b4, b5, b0, b6, b7⟩ := b;refine ⟨env', h', b1, b2, b3, b4, b5, a.2.2.1.trans b0, fun hne => (a.trans (b6 hne)).up fun i hi => ?_, b7⟩;rcases zRA.1 hi with h | h
 ·rw [hwb]; unfold lpW; exact zTB _ h
 ·exact h
theorem qXQ {ab : Ab} {body : ∀ {R' : Type}, GV Γ -> List SV -> SH -> wO Γ R' -> zIA R'} (s : zI6 P good nat G tab) (hwb : w = lpW wb sh)
 (hops : ops.toList = [o1, o2]) (zM5 : o1.op = .next x false) (h1d : o1.dst = some d1) (h1g : o1.guard = none) (zKE : o2.op = .extract (.tmp d1) 0) (h2d : o2.dst = some d2) (h2g : o2.guard = none)
 (hbody : ∀ {R' : Type} {g : GV Γ} {env : List SV} {h : SH} {K : wO Γ R'} {r : R'}, OkH P h -> okL h env -> env.length = N -> Keep hb h -> (body g env h K).run = some r -> qU P G rd nm wd y g (qA env) (qH h.l) (EQ P N wb env h K r))
 {g : GV Γ} {env : List SV} {h : SH} {K : wO Γ R} (ho : OkH P h) (he : okL h env) (hl : env.length = N) (hbh : Keep hb h) (e : (q5H P G nm w sh ab ops x d1 d2 body g env h K).run = some r) :
 qU P G rd nm wd (.block id (.loop (.seq (.region rid ops false) (.seq (.cond (.tmp d2) .skip (.exit id)) y)))) g (qA env) (qH h.l) (EQ P N w env h K r) := by
 obtain ⟨zIE, h0, wk1, zI0, e⟩ := dH (nm := nm) ho he e;obtain ⟨h1, wk2, kp2, ho1, e⟩ := aI (nm := nm) zI0.2.1 zI0.1 e
 have zI1 : kZ P (sh.v.map (·.1)) env h zIE h1 := ⟨qL kp2 zI0.1, ho1, zI0.2.2.1.trans kp2, zI0.2.2.2.1, zI0.2.2.2.2⟩
 split at e
 case h_2 => cases e
 rename_i k _ _ hx;split at e
 case h_2 => cases e
 rename_i v t j since hk;split at e
 case h_2 => cases e
 rename_i v2 es hj;obtain ⟨hc, e1⟩ := qG e;have hsi := zQN hc;subst hsi;exact qU.pre' (wk1.trans wk2) ((zBR s hwb hops zM5 h1d h1g zKE h2d h2g hbody hk hj ho1 zI1.1 (zI1.2.2.2.2.trans hl) (hbh.trans zI1.2.2.1) e1).mono fun _ _ _ _ hq => hq.zOH hwb zI1)
def qX0 (ab : Ab) (rdv : List SV -> SH -> Option (TyL rs)) (id : Nat) (sh : Sh) (os : List (Nat × Bool)) (ts : List Ty) (mk : TyL ts -> Option (List SV × SH)) (h1 hh : SH) : wO Γ (GS Γ (ab.A ts) ⊕ (GS Γ (ab.A ts) ⊕ GS Γ (TyL rs))) := fun e g env h => match e with
 | .normal => (match bk sh os ts mk h1 hh env h with
   | some s => .ret (.inl (gj g (ab.f ts s)))
   | none => .fail)
 | .exit j => (match bk sh os ts mk h1 hh env h with
   | some s => cond (Nat.beq j id) (.ret (.inr (.inl (gj g (ab.f ts s))))) .fail
   | none => .fail)
 | .ret => (match rdv env h with
   | some v => .ret (.inr (.inr (gj g v)))
   | none => .fail)
 | .goto _ => .fail
def qRT (P : Program) (nm : Nm) (w : List Nat) (rdv : List SV -> SH -> Option (TyL rs)) (en : TyL rs -> List SV) (hb : SH) (sh : Sh) (ab : Ab) (id : Nat) (body : ∀ {R' : Type}, GV Γ -> List SV -> SH -> wO Γ R' -> zIA R') (g : GV Γ) (env : List SV) (h : SH) (K : wO Γ R) : zIA R :=
 qI7 P nm sh.v env h fun zIE h0 => qDE P nm sh.bv zIE h0 fun zIE h1 => match qG1 sh.d zIE, qZZ sh.o h1, qAF sh.b h1, q57 sh.o h1 with
  | some a, some b, some c, some os => (match zDX (a ++ (b ++ c)) with
    | some ts => (match qCF ts (a ++ (b ++ c)) with
      | some s0 => cond ((qDX sh.s zIE h1 && qCG (sh.b.map (·.1)) sh.b h1 h1) && (mkS P w sh ts os zIE h1 s0).isSome)
         (.bind (qQ (fun a => aT (fun s : GS Γ (TyL ts) => gj (g1 s) (ab.f ts (g2 s)) = a) fun s => zIA.run (goS (mkS P w sh ts os zIE h1 (g2 s)) fun e hh => body (g1 s) e hh (qX0 ab rdv id sh os ts (mkS P w sh ts os zIE h1) h1 hh))) (gj g (ab.f ts s0)))
           fun q => zIA.sum q (fun a => zIA.zM4 (fun s : GS Γ (TyL ts) => gj (g1 s) (ab.f ts (g2 s)) = a) fun s => goS (mkS P w sh ts os zIE h1 (g2 s)) fun e hh => K .normal (g1 s) e hh)
            fun v => K .ret (g1 v) (en (g2 v)) ⟨h.next, hb.l⟩) .fail
      | none => .fail)
    | none => .fail)
  | _, _, _, _ => .fail
theorem qX3 {rdv : List SV -> SH -> Option (TyL rs)} {en : TyL rs -> List SV} (hrd : zKK P nm N hb rdv en) {ab : Ab} {body : ∀ {R' : Type}, GV Γ -> List SV -> SH -> wO Γ R' -> zIA R'} (hwb : w = lpW wb sh)
 (hbody : ∀ {R' : Type} {g : GV Γ} {env : List SV} {h : SH} {K : wO Γ R'} {r : R'}, OkH P h -> okL h env -> env.length = N -> Keep hb h -> (body g env h K).run = some r -> qU P G rd nm wd y g (qA env) (qH h.l) (EQ P N wb env h K r))
 {g : GV Γ} {env : List SV} {h : SH} {K : wO Γ R} (ho : OkH P h) (he : okL h env) (hl : env.length = N) (hbh : Keep hb h) (e : (qRT P nm w rdv en hb sh ab id body g env h K).run = some r) :
 qU P G rd nm wd (.block id (.loop y)) g (qA env) (qH h.l) (EQ P N w env h K r) := by
 obtain ⟨zIE, h0, wk1, zI0, e⟩ := dH (nm := nm) ho he e;obtain ⟨h1, wk2, kp2, ho1, e⟩ := aI (nm := nm) zI0.2.1 zI0.1 e
 have zI1 : kZ P (sh.v.map (·.1)) env h zIE h1 := ⟨qL kp2 zI0.1, ho1, zI0.2.2.1.trans kp2, zI0.2.2.2.1, zI0.2.2.2.2⟩
 split at e
 case h_2 => cases e
 rename_i a b c os ha hb1 hc1 hos;split at e
 case h_2 => cases e
 rename_i ts hts;split at e
 case h_2 => cases e
 rename_i s0 hs0;obtain ⟨hown0, e1⟩ := qG e;rw [zQM] at hown0;obtain ⟨hown, hsome⟩ := hown0;rw [zQM] at hown;obtain ⟨q, hq, hafter⟩ := run_bind e1;have he1 := zI1.1;have zJQ := qA3 hos;have hl1 : zIE.length = N := zI1.2.2.2.2.trans hl;have zLJ : Keep hb h1 := hbh.trans zI1.2.2.1
 let E : GS Γ (TyL ts) -> List PV := fun s => match mkS P w sh ts os zIE h1 (g2 s) with
  | some p => qA p.1
  | none => []
 let Ph : GS Γ (TyL ts) -> PHp := fun s => match mkS P w sh ts os zIE h1 (g2 s) with
  | some p => qH p.2.l
  | none => []
 have hE : ∀ {s e2 h2}, mkS P w sh ts os zIE h1 (g2 s) = some (e2, h2) -> E s = qA e2 ∧ Ph s = qH h2.l := fun hm => by
  simp only [E, Ph, hm, and_self]
 obtain ⟨⟨e0, hh0⟩, zOI⟩ := zR0.1 hsome;have hm0 : mkS P w sh ts os zIE h1 (g2 (gj g s0)) = some (e0, hh0) := by rw [qKC]; exact zOI
 obtain ⟨wp0, sp0⟩ := qS0 ho1 ho1 he1 ha hb1 hc1 hs0 zOI zJQ (qGZ hos) hown.1 hown.2 (fun k o _ _ hk => yI hk) (dA rfl fun _ _ => rfl)
 have fin : ∀ {s e2 h2}, mkS P w sh ts os zIE h1 s = some (e2, h2) -> okL h2 e2 ∧ OkH P h2 ∧ e2.length = N ∧ kZ P w env h e2 h2 ∧ Keep h1 h2 := fun {s e2 h2} hm => by
  obtain ⟨a1, a2, a3, a4, a5, _⟩ := mM ho1 he1 hm;refine ⟨a3, a2, a4.trans hl1, ⟨a3, a2, zI1.2.2.1.trans a1, fun i hi => ?_, a4.trans zI1.2.2.2.2⟩, a1⟩;have hi2 : i ∉ lpW wb sh := by rw [<- hwb]; exact hi
  unfold lpW at hi2;simp only [zRA, not_or] at hi2;rw [a5 i hi hi2.2.2.1 hi2.2.2.2, zI1.2.2.2.1 i hi2.1]
 refine qU.post (qU.pre' (wk1.trans wk2) ?_);refine qU.zKT E Ph g1 (fun s => gj (g1 s) (ab.f ts (g2 s))) (s0 := gj g s0) (r := q) (by rw [qL6, qKC]; exact hq) (by rw [(hE hm0).1]; exact wp0) (by rw [(hE hm0).2]; exact sp0) qL6.symm ?_;intro s yy hstep;obtain ⟨e2, hh, hm, hb2⟩ := tV hstep;obtain ⟨f1, f2, f3, f4, f5⟩ := fin hm;rw [(hE hm).1, (hE hm).2];refine (hbody f2 f1 f3 (zLJ.trans f5) hb2).mono ?_;rintro ex g' pe ph ⟨env', h', rfl, rfl, k1, k2, k3, k0, k4, k5⟩;obtain ⟨_, _, _, m4, m5, m6⟩ := mM ho1 he1 hm
 have back : ∀ {s'}, ex ≠ .ret -> bk sh os ts (mkS P w sh ts os zIE h1) h1 hh env' h' = some s' -> ∃ e3 h3, mkS P w sh ts os zIE h1 s' = some (e3, h3) ∧ WkP (qA env') (qA e3) ∧ qA5 (qH h3.l) (qH h'.l) := by
  intro s' hne hbk;unfold bk at hbk;split at hbk
  case h_2 => cases hbk
  rename_i a' b' c' ha' hb' hc';split at hbk
  case h_2 => cases hbk
  rename_i s2 hs2
  cases hc : (q1B os h' && (qDX sh.s env' h' && (qCG (sh.b.map (·.1)) sh.b h1 h' && (eZ (sh.o ++ sh.b.map (·.1)) hh h' && (mkS P w sh ts os zIE h1 s2).isSome)))) with
  | false => rw [hc] at hbk; cases hbk
  | true =>
    rw [hc] at hbk;cases hbk;simp only [zQM] at hc;obtain ⟨⟨e3, h3⟩, hm3⟩ := zR0.1 hc.2.2.2.2;have zJS := k4 hne;refine ⟨e3, h3, hm3, qS0 k2 ho1 k1 ha' hb' hc' hs2 hm3 zJQ hc.1 hc.2.1 hc.2.2.1 (fun k o hk hkb hk2 => nL f2 zJS.2.2.1 hc.2.2.2.1 (by rw [zRA, not_or]; exact ⟨hk, hkb⟩) ?_) (dA ?_ ?_)⟩
    ·rw [m6 k (by rw [zJQ]; exact hk) hkb]; exact hk2
    ·rw [k3, hl1]
    ·intro i hi;have hi2 : i ∉ lpW wb sh := by rw [<- hwb]; exact hi
     unfold lpW at hi2;simp only [zRA, not_or] at hi2;rw [zJS.2.2.2.1 i hi2.2.1, m5 i hi hi2.2.2.1 hi2.2.2.2]
 have out : ∀ {x s' e3 h3}, mkS P w sh ts os zIE h1 s' = some (e3, h3) -> WkP (qA env') (qA e3) -> qA5 (qH h3.l) (qH h'.l) -> (K x g' e3 h3).run = some r -> ∃ pe' ph', Wk P nm (qA env') (qH h'.l) pe' ph' ∧ EQ P N w env h K r x g' pe' ph' := fun {x s' e3 h3} hm3 w1 w2 hk => by
  obtain ⟨g1, g2, g3, g4, g5⟩ := fin hm3;exact ⟨_, _, Wk.drop w1 w2, e3, h3, rfl, rfl, g1, g2, g3, g4.2.2.1, fun _ => g4, hk⟩
 cases ex with
 | normal =>
   simp only [qX0] at k5;split at k5
   case h_2 => cases k5
   rename_i s' hs';cases k5;obtain ⟨e3, h3, hm3, w1, w2⟩ := back (fun h => by cases h) hs';have hm3 : mkS P w sh ts os zIE h1 (g2 (gj g' s')) = some (e3, h3) := by rw [qKC]; exact hm3
   refine ⟨rfl, gj g' s', by simp only [qL6, qKC], ?_, ?_, qL6.symm⟩
   ·rw [(hE hm3).1]; exact w1
   ·rw [(hE hm3).2]; exact w2
 | exit j =>
   simp only [qX0] at k5;split at k5
   case h_2 => cases k5
   rename_i s' hs';obtain ⟨e3, h3, hm3, w1, w2⟩ := back (fun h => by cases h) hs';obtain ⟨hj, k6⟩ := qG k5;cases k6;intro hqe;refine ⟨fun h => by (cases h), ?_⟩;subst hqe;have hjj : j = id := zQN hj;subst hjj;have ha2 := qPA hafter (gj g' s') (by simp only [qL6, qKC]);obtain ⟨e4, h4, hm4, hk⟩ := tV ha2;rw [qKC, hm3] at hm4;cases hm4;rw [qL6] at hk;exact BQY.on (out hm3 w1 w2 hk)
 | ret =>
   simp only [qX0] at k5;split at k5
   case h_2 => cases k5
   rename_i v hv;cases k5;intro hqe;subst hqe;have hbr : Keep hb h' := (zLJ.trans f5).trans k0;have hkp := hrd.kept _ _ _ k2 k1 hbr hv
   have hkh : ∀ k o, slk k hb.l = some o -> slk k h.l = some o := fun k o hk => by
    have h2 := hkp k o hk;have hw : o.w < h.next := zQZ (hrd.ob.ver k o hk) hbh.next;have zM3 : Keep h h' := (zI1.2.2.1.trans f5).trans k0;exact zM3.same k o h2 hw
   have hkeep : Keep h ⟨h.next, hb.l⟩ := ⟨zQO _, fun k ob hk _ => hkh k ob hk, fun k el gr g w t xs hk _ => ⟨w, xs, hkh k _ hk, rfl⟩⟩
   have hafter : (K .ret (g1 (gj g' v)) (en (g2 (gj g' v))) ⟨h.next, hb.l⟩).run = some r := hafter;rw [qL6, qKC] at hafter;refine ⟨fun h => by (cases h), BQY.rt ⟨_, _, hrd.wk _ _ _ k2 k1 k3 hbr hv, en v, ⟨h.next, hb.l⟩, rfl, rfl, hrd.ok v _, q41 hrd.ob hbh.next, hrd.len v, hkeep, fun h => absurd rfl h, hafter⟩⟩
 | goto l => simp only [qX0] at k5; cases k5
end
end Go.Sv
namespace Go.Sv
open Go.Idl
noncomputable section
variable [Gc]
variable [Yl]
variable {P : Program} {Γ : Option Type} {R : Type} {r : R} {nm : Nm} {G : Nat -> Bool} {rd : Bool} {N : Nat} {rs : List Ty} {tab : fM} {nat : xG} {good : FuncId -> Bool} {wd : Wld (GV Γ)}
omit [Yl] in
theorem qCQ : ∀ {ts : List Ty} {x : TyL ts} {y : PV}, y ∈ pvL ts x -> ∃ (t : Ty) (z : t.sem), y = t.pv z
 | [], _, _, h => by cases h
 | [t], x, y, h => ⟨t, x, by simpa [pvL] using h⟩
 | t :: u :: ts, x, y, h => by
   have h : y ∈ t.pv x.1 :: pvL (u :: ts) x.2 := h;rcases zQ2.1 h with q | q
   ·exact ⟨t, x.1, q⟩
   ·exact qCQ q
omit [Yl] in
theorem q5J (t : Ty) (x : t.sem) : qUH (t.pv x) = true := by
 unfold Ty.pv
 cases t.one with
 | true => rfl
 | false =>
   show ((t.cells x).map PV.f).all q7F = true;rw [zQR];intro y hy;obtain ⟨c, _, rfl⟩ := zQ9.1 hy;rfl
omit [Yl] in
theorem qMG : ∀ (ts : List Ty) (x : TyL ts), (svL ts x).length = ts.length
 | [], _ => rfl
 | [_], _ => rfl
 | t :: u :: ts, x => by
   show (t.sv x.1 :: svL (u :: ts) x.2).length = _;simp only [zRB, qMG (u :: ts)]
def q93 (t : Ty) (x : t.sem) : PV := .lp (t.cells x) 0
def zGO : (ts : List Ty) -> TyL ts -> List PV
 | [], _ => []
 | [t], x => [q93 t x]
 | t :: u :: ts, x => q93 t x.1 :: zGO (u :: ts) x.2
def qVG (P : Program) (t : Ty) (v : SV) (h : SH) : Option (t.sem × SH) := match v with
 | .ref k off w => (match slk k h.l with
   | some (.cells el _ l) => cond (!spec P el && (Nat.beq off 0 && Nat.beq w l.length)) (match t.zK2 P (tL P 8 el) l (h.del k) with
     | some (x, _, [], h') => some (x, h')
     | _ => none) none
   | _ => none)
 | _ => none
theorem qXO {t : Ty} {v : SV} {h : SH} {x : t.sem} {h' : SH} (ho : OkH P h) (e : qVG P t v h = some (x, h')) :
 Keep h h' ∧ OkH P h' ∧ ∀ (Z : Nat -> Prop) (H : IH) (m : Nat -> Nat) (u : Value), Hp P Z H (own m (qH h.l)) -> VR P Z H (own m (qH h.l)) v.enc u -> ∃ Z', Fz P Z H m (qH h.l) Z' (qH h'.l) ∧ VR P Z' H (fun _ => none) (q93 t x) u := by
 unfold qVG at e;split at e
 case h_2 => cases e
 rename_i k off w;split at e
 case h_2 => cases e
 rename_i el w0 l hk
 cases hc : (!spec P el && (Nat.beq off 0 && Nat.beq w l.length)) with
 | false => rw [hc] at e; cases e
 | true =>
   rw [hc] at e;simp only [cond_true] at e;rw [zQM, zRN] at hc;obtain ⟨hsp, hc⟩ := hc;rw [zQM] at hc;have h1 : off = 0 := zQN hc.1;have h2 : w = l.length := zQN hc.2;subst h1 h2;split at e
   case h_2 => cases e
   rename_i y zJM h2 hd;cases e;have hd0 := rE (k := k) ho;obtain ⟨a1, a2, a3, ys, a4, a5⟩ := qH1 hd0.2 (qL hd0.1 (ho.cells _ _ _ _ hk)) hd;refine ⟨hd0.1.trans a2, a3, fun Z H m u hp hv => ?_⟩;have hkp := yI hk;have zJA : real (SO.cells el w0 l).enc := fun q => by cases q.1
   obtain ⟨w1, w2, w3, vs, q1, q2, q3⟩ := hp.real hkp zJA hsp;have hcut := Fz.del hp hkp zJA;have hfz := a4 [] (qH h'.l) (by simp [qA, qIR]);rw [zSK] at hfz;rw [show qH (h.del k).l = qG7 k (qH h.l) from pM k _] at hfz;obtain ⟨Z2, c2, r2⟩ := qIE (fun a b c => qQD 4 a b c) hcut.hp (hcut.vrl q2) hfz;refine ⟨Z2, hcut.trans c2, ?_⟩;simp only [SV.enc] at hv
   cases hv with
   | ref g1 g2 =>
     obtain ⟨_, g3⟩ := g2 _ _ (qP hkp);obtain ⟨rfl, _⟩ := g3 (by simp [SO.enc, zI]);have hrt := qEZ (P := P) (M := fun _ => none) (f := rt0 P) (ts := tL P 8 el) (fun t x v h => qXP h) (r2.map (P := P) (M := fun _ => none));have h5 := a5 [];rw [zSK] at h5;rw [h5] at hrt
     have hrt : VRL P Z2 H (fun _ => none) ((t.cells x).map .f) vs := by
      cases zJM <;> simpa [rtL] using hrt
     have hlen : (t.cells x).length = vs.length := by have := hrt.len; simpa using this
     refine .lp (o := 0) (vs := vs) (c2.zle _ (.inr rfl)) w1 ?_ ?_
     ·rw [hlen];exact jU q1 (by omega) (by simp)
     ·intro i y v hy hvv;have := hrt.val i (.f y) v (by rw [zQU, hy]; rfl) hvv
      cases this with
      | f h => exact h
def zBB (P : Program) (G : Nat -> Bool) (f : FuncId) (ent : zJE) : Prop := entered P f = true ∧ ∀ (x : TyL ent.as) (γ : Type) (stp : γ -> TyL ent.ys -> Option (γ × Bool)) (g0 g1 : γ), ent.F x γ stp g0 = some g1 -> ∀ (w : Wld γ) (l : Nat),
 (∀ g y g' b, stp g y = some (g', b) -> qQ3 P G w l g (pvL ent.ys y) g' b) -> ∀ (Z : Nat -> Prop) (H : IH) (D : Nat -> Prop) (us : List Value), (∀ b, Z b -> b < H.size) -> H.base <= H.size -> q5M Z H -> w.W g0 Z H D -> VRL P Z H (fun _ => none) (zGO ent.as x) us ->
 qAC P G f (.func (.yield l) #[] #[] :: us) H fun r => ∃ Z' D', (∀ b, Z' b -> b < r.2.size) ∧ w.W g1 Z' r.2 D' ∧ StW Z H D Z' r.2 D'
def zCW (P : Program) (G : Nat -> Bool) (IT : List (FuncId × zJE)) : Prop := ∀ f ent, slI f IT = some ent -> zBB P G f ent
end
end Go.Sv
namespace Go.Sv
open Go.Idl
variable {e : zJG} {env : List SV} {h : SH} {id : Nat} {pe : List PV} {ph : PHp} {w : List Nat}
noncomputable section
variable [Gc]
variable [Yl]
variable {P : Program} {Γ : Option Type} {R : Type} {r : R} {nm : Nm} {G : Nat -> Bool} {N : Nat} {rs : List Ty} {tab : fM} {nat : xG} {good : FuncId -> Bool} {wd : Wld (GV Γ)}
def zGJ (an : An) (id : Nat) : List (Nat × TypeId) := match lkA id an.fz with
 | some l => l
 | none => []
def wr (an : An) : Code -> List Nat
 | .region id ops _ => (zGJ an id).map (·.1) ++ ops.toList.filterMap (·.dst)
 | .seq a b => wr an a ++ wr an b
 | .cond _ a b => wr an a ++ wr an b
 | .block id x => match lkA id an.lp with
   | some sh => lpW (wr an x) sh
   | none => wr an x
 | .loop x => wr an x
 | .scope x => wr an x
 | _ => []
def nx2 : List Oper -> Option (Operand × Nat × Nat)
 | [⟨some d1, .next x false, _, _, _, none⟩, ⟨some d2, .extract (.tmp e1) 0, _, _, _, none⟩] => cond (Nat.beq d1 e1) (some (x, d1, d2)) none
 | _ => none
theorem q6J {l : List Oper} {x : Operand} {d1 d2 : Nat} (h : nx2 l = some (x, d1, d2)) : ∃ o1 o2, l = [o1, o2] ∧ o1.op = .next x false ∧ o1.dst = some d1 ∧ o1.guard = none ∧ o2.op = .extract (.tmp d1) 0 ∧ o2.dst = some d2 ∧ o2.guard = none := by
 unfold nx2 at h;split at h
 case h_2 => cases h
 rename_i d1' x' t1 p1 a1 d2' e1 t2 p2 a2
 cases hc : Nat.beq d1' e1 with
 | false => rw [hc] at h; cases h
 | true =>
   rw [hc] at h;cases h;have := zQN hc;subst this;exact ⟨_, _, rfl, rfl, rfl, rfl, rfl, rfl, rfl⟩
structure MB (Γ : Option Type) where
 ops : Array Oper
 t : Nat
 j : Nat
 body : ∀ (R' : Type), GV Γ -> List SV -> SH -> wO Γ R' -> zIA R'
def zCO (P : Program) (G : Nat -> Bool) (nm : Nm) (w : List Nat) (rdv : List SV -> SH -> Option (TyL rs)) (en : TyL rs -> List SV) (hb : SH) (sh : Sh) (ab : Ab) (id : Nat) (body : ∀ {R' : Type}, GV Γ -> List SV -> SH -> wO Γ R' -> zIA R') (m : Option (MB Γ)) (g : GV Γ) (env : List SV) (h : SH) (K : wO Γ R) : zIA R :=
 match m with
 | some mb => (match nx2 mb.ops.toList with
   | some (x, d1, d2) => cond (Nat.beq mb.t d2 && Nat.beq mb.j id) (q5H P G nm w sh ab mb.ops x d1 d2 (fun {_} => mb.body _) g env h K) .fail
   | none => qRT P nm w rdv en hb sh ab id (fun {_} => body) g env h K)
 | none => qRT P nm w rdv en hb sh ab id (fun {_} => body) g env h K
def zHY (y : GV Γ -> List SV -> SH -> wO Γ R -> zIA R) (K : wO Γ R) : wO Γ R := fun e g env h => match e with
 | .normal => y g env h K
 | e => K e g env h
def zHZ (K : wO Γ R) : wO Γ R := fun e g env h => match e with
 | .goto _ => .fail
 | e => K e g env h
section
variable (P : Program) (G : Nat -> Bool) (T : xW) (IT : List (FuncId × zJE)) (CI : CIT) (Y : YI (GV Γ)) (an : An) (rdv : List SV -> SH -> Option (TyL rs)) (en : TyL rs -> List SV) (hb : SH)
def ev : Code -> {R : Type} -> Bool -> Nm -> GV Γ -> List SV -> SH -> wO Γ R -> zIA R
 | .skip, _, _, _, g, env, h, K => K .normal g env h
 | .label _, _, _, _, g, env, h, K => K .normal g env h
 | .ret, _, _, _, g, env, h, K => K .ret g env h
 | .exit id, _, _, _, g, env, h, K => K (.exit id) g env h
 | .seq a b, _, rd, nm, g, env, h, K => ev a rd nm g env h (zHY (ev b rd nm) K)
 | .cond v a b, _, rd, nm, g, env, h, K => cond (gK G v) (match asB (xM env v) with
   | some t => .ite t (ev a rd nm g env h K) (ev b rd nm g env h K)
   | none => .fail) .fail
 | .region id ops d, _, rd, nm, g, env, h, K => fzv P nm (zGJ an id) env h fun env h => zEE P G T CI Y nm ops d g env h fun g env h => K .normal g env h
 | .block id (.loop y), _, rd, nm, g, env, h, K => (match lkA id an.lp with
   | some sh => (match lkA id an.ab with
     | none => zAK P nm (lpW (wr an y) sh) rdv en hb sh id (fun {_} => ev y rd nm) g env h K
     | some ab => zCO P G nm (lpW (wr an y) sh) rdv en hb sh ab id (fun {_} => ev y rd nm) (match y with
       | .seq (.region _ ops false) (.seq (.cond (.tmp t) .skip (.exit j)) z) => some ⟨ops, t, j, fun _ => ev z rd nm⟩
       | _ => none) g env h K)
   | none => .fail)
 | .block id x, _, rd, nm, g, env, h, K => (match lkA id an.lp with
   | some _ => .fail
   | none => ev x rd nm g env h (zGF id K))
 | .scope x, _, rd, nm, g, env, h, K => ev x rd nm g env h (zHZ K)
 | .rangeFunc _ _ _ _, _, _, _, _, _, _, _ => cond IT.isEmpty .fail .fail
 | _, _, _, _, _, _, _, _ => .fail
end
theorem EQ.go {w2 : List Nat} {zIE : List SV} {h1 : SH} {K : wO Γ R} {g : GV Γ} (a : kZ P w env h zIE h1) (b : EQ P N w2 zIE h1 K r e g pe ph) : EQ P N (w ++ w2) env h K r e g pe ph := by
 obtain ⟨env', h', b1, b2, b3, b4, b5, b0, b6, b7⟩ := b;exact ⟨env', h', b1, b2, b3, b4, b5, a.2.2.1.trans b0, fun hne => a.trans (b6 hne), b7⟩
theorem EQ.up {w w2 : List Nat} {env : List SV} {h : SH} {K : wO Γ R} {e : zJG} {g : GV Γ} {pe : List PV} {ph : PHp} (hw : ∀ i ∈ w, i ∈ w2) (b : EQ P N w env h K r e g pe ph) : EQ P N w2 env h K r e g pe ph := by
 obtain ⟨env', h', b1, b2, b3, b4, b5, b0, b6, b7⟩ := b;exact ⟨env', h', b1, b2, b3, b4, b5, b0, fun hne => (b6 hne).up hw, b7⟩
theorem EQ.now {K : wO Γ R} {g : GV Γ} (ho : OkH P h) (he : okL h env) (hl : env.length = N) (hk : (K e g env h).run = some r) : EQ P N w env h K r e g (qA env) (qH h.l) :=
 ⟨env, h, rfl, rfl, he, ho, hl, .refl _, fun _ => (kZ.refl ho he).up fun i hi => by (cases hi), hk⟩
theorem zFR {K : wO Γ R} {g : GV Γ} (b : EQ P N w env h (zGF id K) r e g pe ph) : BQY id (EQ P N w env h K r) e g pe ph := by
 obtain ⟨env', h', b1, b2, b3, b4, b5, b0, b6, b7⟩ := b
 cases e with
 | normal => exact BQY.go ⟨env', h', b1, b2, b3, b4, b5, b0, b6, b7⟩
 | ret => exact BQY.rt ⟨env', h', b1, b2, b3, b4, b5, b0, b6, b7⟩
 | goto l => exact ⟨env', h', b1, b2, b3, b4, b5, b0, b6, b7⟩
 | exit i =>
   have b8 : (cond (Nat.beq i id) (K .normal g env' h') (K (.exit i) g env' h')).run = some r := b7
   cases hi : Nat.beq i id with
   | true =>
     rw [hi] at b8;have := zQN hi;subst this;exact BQY.on ⟨env', h', b1, b2, b3, b4, b5, b0, fun _ => b6 fun h => by (cases h), b8⟩
   | false =>
     rw [hi] at b8;exact BQY.ex (fun h => by rw [h, nG] at hi; cases hi) ⟨env', h', b1, b2, b3, b4, b5, b0, b6, b8⟩
omit [Yl] in
theorem q30 {ops : List Oper} {i : Nat} (h : i ∉ ops.filterMap (·.dst)) : some i ∉ ops.map (·.dst) := fun hm => by
 obtain ⟨o, h1, h2⟩ := zQ9.1 hm;exact h (zT1.2 ⟨o, h1, h2⟩)
def zCL (P : Program) (G : Nat -> Bool) (T : xW) (IT : List (FuncId × zJE)) (CI : CIT) (Y : YI (GV Γ)) (an : An) (rdv : List SV -> SH -> Option (TyL rs)) (en : TyL rs -> List SV) (hb : SH) (N : Nat) (wd : Wld (GV Γ)) (rd : Bool) (nm : Nm) (c : Code) : Prop :=
 ∀ {R : Type} {g : GV Γ} {env : List SV} {h : SH} {K : wO Γ R} {r : R}, OkH P h -> okL h env -> env.length = N -> Keep hb h -> (ev P G T IT CI Y an rdv en hb c rd nm g env h K).run = some r -> qU P G rd nm wd c g (qA env) (qH h.l) (EQ P N (wr an c) env h K r)
theorem qYU {T : xW} {IT : List (FuncId × zJE)} {CI : CIT} {Y : YI (GV Γ)} {an : An} {rdv : List SV -> SH -> Option (TyL rs)} {en : TyL rs -> List SV} {hb : SH} {rd : Bool} {y : Code} (s : zI6 P good nat G tab) (hrd : zKK P nm N hb rdv en)
 (hY : zCL P G T IT CI Y an rdv en hb N wd rd nm y) (hZ : ∀ rid ops t j z, y = .seq (.region rid ops false) (.seq (.cond (.tmp t) .skip (.exit j)) z) -> zCL P G T IT CI Y an rdv en hb N wd rd nm z)
 {g : GV Γ} {K : wO Γ R} (ho : OkH P h) (he : okL h env) (hl : env.length = N) (hbh : Keep hb h) (e : (ev P G T IT CI Y an rdv en hb (.block id (.loop y)) rd nm g env h K).run = some r) :
 qU P G rd nm wd (.block id (.loop y)) g (qA env) (qH h.l) (EQ P N (wr an (.block id (.loop y))) env h K r) := by
 have e1 := e;unfold ev at e1;split at e1
 ·rename_i sh hsh;have hw : wr an (.block id (.loop y)) = lpW (wr an y) sh := by simp only [wr, hsh]
  rw [hw];split at e1
  ·exact q2T hrd rfl hY ho he hl hbh e1
  ·rename_i ab hab
   have hplain : (qRT P nm (lpW (wr an y) sh) rdv en hb sh ab id (fun {_} => ev P G T IT CI Y an rdv en hb y rd nm) g env h K).run = some r -> qU P G rd nm wd (.block id (.loop y)) g (qA env) (qH h.l) (EQ P N (lpW (wr an y) sh) env h K r) := fun e1 =>
    qX3 hrd rfl hY ho he hl hbh e1
   unfold zCO at e1;split at e1
   ·rename_i mb hmb;split at hmb
    case h_2 => cases hmb
    rename_i _ rid ops t j z;cases hmb;split at e1
    ·rename_i x d1 d2 hnx;obtain ⟨hc, e2⟩ := qG e1;rw [zQM] at hc;have ht2 : t = d2 := zQN (show Nat.beq t d2 = true from hc.1);have hj2 : j = id := zQN (show Nat.beq j id = true from hc.2);subst ht2 hj2;obtain ⟨o1, o2, n1, n2, n3, n4, n5, n6, n7⟩ := q6J hnx;refine qXQ s rfl n1 n2 n3 n4 n5 n6 n7 (fun ho he hl hbh e => (hZ _ _ _ _ _ rfl ho he hl hbh e).mono fun x g pe ph hq => hq.up fun i hi => ?_) ho he hl hbh e2;simp only [wr, zRA];exact .inr (.inr hi)
    ·exact hplain e1
   ·exact hplain e1
 ·cases e1
theorem bI {T : xW} {IT : List (FuncId × zJE)} {CI : CIT} {Y : YI (GV Γ)} {an : An} {rdv : List SV -> SH -> Option (TyL rs)} {en : TyL rs -> List SV} {hb : SH} (s : zI6 P good nat G tab) (ht : qWV tab T) (hit : zCW P G IT) (hci : q6V P G CI) (hy : YOk P G wd Y) (hrd : ∀ nm, zKK P nm N hb rdv en) :
 ∀ (c : Code), (∀ rd nm, zCL P G T IT CI Y an rdv en hb N wd rd nm c) ∧ ∀ a b, c = .seq a b -> (∀ rd nm, zCL P G T IT CI Y an rdv en hb N wd rd nm b) ∧ ∀ a' b', b = .seq a' b' -> ∀ rd nm, zCL P G T IT CI Y an rdv en hb N wd rd nm b'
 | .skip => ⟨fun rd nm {_ g env h K r} ho he hl hbh e => .skip (.now ho he hl e), fun a b h => by cases h⟩
 | .label _ => ⟨fun rd nm {_ g env h K r} ho he hl hbh e => .label (.now ho he hl e), fun a b h => by cases h⟩
 | .ret => ⟨fun rd nm {_ g env h K r} ho he hl hbh e => .ret (.now ho he hl e), fun a b h => by cases h⟩
 | .exit id => ⟨fun rd nm {_ g env h K r} ho he hl hbh e => .exit (.now ho he hl e), fun a b h => by cases h⟩
 | .seq a b => by
   refine ⟨fun rd nm {_ g env h K r} ho he hl hbh e => ?_, fun a' b' hh => by
    cases hh
    exact ⟨(bI s ht hit hci hy hrd b).1, fun a2 b2 h2 => ((bI s ht hit hci hy hrd b).2 a2 b2 h2).1⟩⟩
   refine .seq (((bI s ht hit hci hy hrd a).1 _ _ ho he hl hbh e).mono fun x g' pe ph hq => ?_);obtain ⟨env', h', b1, b2, b3, b4, b5, b0, b6, b7⟩ := hq
   cases x with
   | normal =>
     have b7 : (ev P G T IT CI Y an rdv en hb b rd nm g' env' h' K).run = some r := b7;subst b1 b2;show qU P G rd nm wd b g' _ _ _;refine ((bI s ht hit hci hy hrd b).1 _ _ b4 b3 b5 (hbh.trans b0) b7).mono fun x g' pe ph hq => ?_
     exact EQ.go (b6 fun h => by (cases h)) hq
   | exit i => exact ⟨env', h', b1, b2, b3, b4, b5, b0, fun hne => (b6 hne).up fun i hi => zTB _ hi, b7⟩
   | ret => exact ⟨env', h', b1, b2, b3, b4, b5, b0, fun hne => absurd rfl hne, b7⟩
   | goto l => exact ⟨env', h', b1, b2, b3, b4, b5, b0, fun hne => (b6 hne).up fun i hi => zTB _ hi, b7⟩
 | .cond v a b => by
   refine ⟨fun rd nm {_ g env h K r} ho he hl hbh e => ?_, fun a b h => by cases h⟩;obtain ⟨c1, e1⟩ := qG e;split at e1
   ·rename_i t hv;have hpv : qN (qA env) v = fvv (.bool t) := by rw [qO]; exact rG hv
    rcases run_ite e1 with ⟨z, e2⟩ | ⟨z, e2⟩
    ·exact .cond c1 hpv (fun _ => ((bI s ht hit hci hy hrd a).1 _ _ ho he hl hbh e2).mono fun x g pe ph hq => hq.up fun i hi => zTB _ hi) (fun hf => by rw [z] at hf; cases hf)
    ·exact .cond c1 hpv (fun hf => by rw [z] at hf; cases hf) (fun _ => ((bI s ht hit hci hy hrd b).1 _ _ ho he hl hbh e2).mono fun x g pe ph hq => hq.up fun i hi => zU2 _ hi)
   ·cases e1
 | .region id ops d => by
   refine ⟨fun rd nm {_ g env h K r} ho he hl hbh e => ?_, fun a b h => by cases h⟩;obtain ⟨zIE, h1, w1, q1, e1⟩ := q4W (nm := nm) ho he e;refine qU.pre' w1 ((q6Q s ht hci hy q1.2.1 q1.1 e1).mono ?_);rintro x g' pe ph ⟨rfl, env', h', b1, b2, b3, b4⟩;refine EQ.go q1 ⟨env', h', b1, b2, b3.1, b3.2.1, by rw [b3.2.2.2.2, q1.2.2.2.2, hl], b3.2.2.1, fun _ => ⟨b3.1, b3.2.1, b3.2.2.1, fun i hi => b3.2.2.2.1 i (q30 hi), b3.2.2.2.2⟩, b4⟩
 | .block id x => by
   refine ⟨fun rd nm {_ g env h K r} ho he hl hbh e => ?_, fun a b h => by cases h⟩
   cases x with
   | loop y =>
     exact qYU s (hrd nm) ((bI s ht hit hci hy hrd y).1 _ _) (fun rid ops t j z hz => ((bI s ht hit hci hy hrd y).2 _ _ hz).2 _ _ rfl _ _) ho he hl hbh e
   | _ =>
     all_goals
      have e1 := e;unfold ev at e1;split at e1
      ·cases e1
      ·rename_i hn;simp only [wr, hn];exact .block (((bI s ht hit hci hy hrd _).1 _ _ ho he hl hbh e1).mono fun x g pe ph hq => zFR hq)
 | .loop _ => ⟨fun rd nm {_ _ _ _ _ _} _ _ _ _ e => (by cases e), fun a b h => by cases h⟩
 | .rangeFunc _ _ _ _ => ⟨fun rd nm {_ _ _ _ _ _} _ _ _ _ e => (by unfold ev at e; cases hq : IT.isEmpty <;> rw [hq] at e <;> cases e), fun a b h => by cases h⟩
 | .scope x => by
   refine ⟨fun rd nm {_ g env h K r} ho he hl hbh e => ?_, fun a b h => by cases h⟩;refine .scope (((bI s ht hit hci hy hrd x).1 _ _ ho he hl hbh e).mono fun ex g' pe ph hq => ?_);obtain ⟨env', h', b1, b2, b3, b4, b5, b0, b6, b7⟩ := hq
   cases ex with
   | goto l => cases b7
   | normal => exact ⟨fun _ h => by (cases h), env', h', b1, b2, b3, b4, b5, b0, b6, b7⟩
   | ret => exact ⟨fun _ h => by (cases h), env', h', b1, b2, b3, b4, b5, b0, b6, b7⟩
   | exit i => exact ⟨fun _ h => by (cases h), env', h', b1, b2, b3, b4, b5, b0, b6, b7⟩
 | .goto _ => ⟨fun rd nm {_ _ _ _ _ _} _ _ _ _ e => (by cases e), fun a b h => by cases h⟩
 | .refuse _ => ⟨fun rd nm {_ _ _ _ _ _} _ _ _ _ e => (by cases e), fun a b h => by cases h⟩
theorem zBL {T : xW} {IT : List (FuncId × zJE)} {CI : CIT} {Y : YI (GV Γ)} {an : An} {rdv : List SV -> SH -> Option (TyL rs)} {en : TyL rs -> List SV} {hb : SH} (s : zI6 P good nat G tab) (ht : qWV tab T) (hit : zCW P G IT) (hci : q6V P G CI) (hy : YOk P G wd Y) (hrd : ∀ nm, zKK P nm N hb rdv en) :
 ∀ (c : Code) {R : Type} {rd : Bool} {nm : Nm} {g : GV Γ} {env : List SV} {h : SH} {K : wO Γ R} {r : R}, OkH P h -> okL h env -> env.length = N -> Keep hb h -> (ev P G T IT CI Y an rdv en hb c rd nm g env h K).run = some r -> qU P G rd nm wd c g (qA env) (qH h.l) (EQ P N (wr an c) env h K r) :=
 fun c {R rd nm g env h K r} ho he hl hbh e => (bI s ht hit hci hy hrd c).1 rd nm ho he hl hbh e
end
end Go.Sv
namespace Go.Sv
open Go.Idl
variable {c : Option TypeId} {env : List PV} {h hb : SH} {ph : PHp} {rs : List Ty} {t : Ty} {zKL : List TypeId} {ty : TypeId}
noncomputable section
variable [Gc]
variable [Yl]
variable {P : Program} {R : Type} {r : R} {nm : Nm} {G : Nat -> Bool} {N : Nat} {tab : fM} {good : FuncId -> Bool}
def r9 (P : Program) (ty : TypeId) (t : Ty) : Bool := match qSK P ty with
 | some true => !t.one && (match szT P ty with
   | some n => Nat.beq n t.w
   | none => false)
 | some false => t.one
 | none => false
omit [Yl] in
theorem qUB {x : t.sem} (e : r9 P ty t = true) : dS P ty (q93 t x) ph = some (t.pv x) := by
 unfold r9 at e;show qN7 P ty (t.cells x) 0 = _;unfold qN7 Ty.pv;split at e
 ·rename_i h1;rw [h1];simp only;split at e
  ·rename_i n hn;rw [hn];rw [zQM] at e;have h2 : n = t.w := zQN e.2;have h3 : t.one = false := by simpa using e.1
   subst h2;have h4 : Nat.ble (0 + t.w) (t.cells x).length = true := zRM (by rw [t.zIL]; omega);simp only [h4, cond_true, h3, cond_false, zR3];rw [zRU (by rw [t.zIL]; exact zQO _)]
  ·rw [zQM] at e; cases e.2
 ·rename_i h1;rw [h1];simp only [e, cond_true];rw [Ty.cells_one e];rfl
 ·cases e
def q0R : ResultVar -> Nat
 | .tmp t => t
 | .cell a _ => a
def qUJ : ResultVar -> Option TypeId
 | .tmp _ => none
 | .cell _ ty => some ty
def q4J (P : Program) (c : Option TypeId) (ty : TypeId) (t : Ty) (v : SV) (h : SH) : Option (t.sem × SH) := match c with
 | none => q9L P ty t v h
 | some ty2 => cond (r9 P ty2 t) (qVG P t v h) none
def qJH (c : Option TypeId) (t : Ty) (x : t.sem) : SV := match c with
 | none => t.sv x
 | some _ => .lp t [x] 0 0
def qL0 (P : Program) : List (Option TypeId) -> List TypeId -> (ts : List Ty) -> List SV -> SH -> Option (TyL ts × SH)
 | [], _, [], [], h => some ((), h)
 | c :: cs, ty :: _, [t], v :: vs, h => (match cs, vs with
   | [], [] => q4J P c ty t v h
   | _, _ => none)
 | c :: cs, ty :: tys, t :: u :: ts, v :: vs, h => match q4J P c ty t v h with
   | some (x, h1) => (match qL0 P cs tys (u :: ts) vs h1 with
     | some (y, h2) => some ((x, y), h2)
     | none => none)
   | none => none
 | _, _, _, _, _ => none
def svM : List (Option TypeId) -> (ts : List Ty) -> TyL ts -> List SV
 | _, [], _ => []
 | c :: _, [t], x => [qJH c t x]
 | [], [t], x => [t.sv x]
 | c :: cs, t :: u :: ts, x => qJH c t x.1 :: svM cs (u :: ts) x.2
 | [], t :: u :: ts, x => t.sv x.1 :: svM [] (u :: ts) x.2
omit [Yl] in
theorem qZA (c : Option TypeId) (t : Ty) (x : t.sem) : (qJH c t x).ok h := by
 cases c with
 | none => exact qKY t x
 | some _ => simp [qJH, SV.ok]
omit [Yl] in
theorem qUK {h : SH} : ∀ (cs : List (Option TypeId)) (ts : List Ty) (x : TyL ts), okL h (svM cs ts x)
 | _, [], _ => by simp [svM, okL]
 | c :: _, [t], x => by simp only [svM, okL]; exact ⟨qZA c t x, trivial⟩
 | [], [t], x => by simp only [svM, okL]; exact ⟨qKY t x, trivial⟩
 | c :: cs, t :: u :: ts, x => by
   show okL h (qJH c t x.1 :: svM cs (u :: ts) x.2);simp only [okL];exact ⟨qZA c t x.1, qUK cs (u :: ts) x.2⟩
 | [], t :: u :: ts, x => by
   show okL h (t.sv x.1 :: svM [] (u :: ts) x.2);simp only [okL];exact ⟨qKY t x.1, qUK [] (u :: ts) x.2⟩
omit [Yl] in
theorem qOS : ∀ (cs : List (Option TypeId)) (ts : List Ty) (x : TyL ts), (svM cs ts x).length = ts.length
 | _, [], _ => by simp [svM]
 | c :: _, [t], x => rfl
 | [], [t], x => rfl
 | c :: cs, t :: u :: ts, x => by
   show (qJH c t x.1 :: svM cs (u :: ts) x.2).length = _;simp only [zRB, qOS cs (u :: ts)]
 | [], t :: u :: ts, x => by
   show (t.sv x.1 :: svM [] (u :: ts) x.2).length = _;simp only [zRB, qOS [] (u :: ts)]
theorem qPM (c : Option TypeId) (t : Ty) (x : t.sem) (Z : Nat -> Prop) (H : IH) (M M' : Nat -> Option (Nat × PO)) (v : Value) (h : VR P Z H M (qJH c t x).enc v) : VR P Z H M' (qJH c t x).enc v := by
 cases c with
 | none =>
   simp only [qJH, o8] at h ⊢;exact oW h (q5J t x)
 | some _ =>
   simp only [qJH, SV.enc] at h ⊢
   cases h with
   | lp a b c d => exact .lp a b c d
theorem qRJ {v : SV} {x : t.sem} {h' : SH} (ho : OkH P h) (hv : v.ok h) (e : q4J P c ty t v h = some (x, h')) :
 Keep h h' ∧ OkH P h' ∧ (∀ ty2, c = some ty2 -> r9 P ty2 t = true) ∧ ∀ (Z : Nat -> Prop) (H : IH) (m : Nat -> Nat) (u : Value), Hp P Z H (own m (qH h.l)) -> VR P Z H (own m (qH h.l)) v.enc u -> ∃ Z', Fz P Z H m (qH h.l) Z' (qH h'.l) ∧ VR P Z' H (fun _ => none) (qJH c t x).enc u := by
 unfold q4J at e
 cases c with
 | none =>
   obtain ⟨y, a1, a2, a3, a4⟩ := qDH ho hv e;refine ⟨a3, a4, fun _ h => by (cases h), fun Z H m u hp hu => ?_⟩;obtain ⟨Z', c1, c2⟩ := qJK hp hu a1;refine ⟨Z', c1, ?_⟩;simp only [qJH, o8];rw [<- a2];exact qD6 c2
 | some ty2 =>
   simp only at e
   cases hc : r9 P ty2 t with
   | false => rw [hc] at e; cases e
   | true =>
     rw [hc] at e;obtain ⟨a1, a2, a3⟩ := qXO ho e;refine ⟨a1, a2, fun _ h => by cases h; exact hc, fun Z H m u hp hu => ?_⟩;obtain ⟨Z', c1, c2⟩ := a3 Z H m u hp hu;refine ⟨Z', c1, ?_⟩;simp only [qJH, SV.enc];simpa [q93] using c2
structure zOJ (P : Program) (cs : List (Option TypeId)) (ts : List Ty) (vs : List SV) (h : SH) (x : TyL ts) (h' : SH) : Prop where
 keep : Keep h h'
 ok : OkH P h'
 fz : ∀ (Z : Nat -> Prop) (H : IH) (m : Nat -> Nat) (us : List Value), Hp P Z H (own m (qH h.l)) -> VRL P Z H (own m (qH h.l)) (qA vs) us -> ∃ Z', Fz P Z H m (qH h.l) Z' (qH h'.l) ∧ VRL P Z' H (fun _ => none) (qA (svM cs ts x)) us
 any : ∀ (Z : Nat -> Prop) (H : IH) (M M' : Nat -> Option (Nat × PO)) (us : List Value), VRL P Z H M (qA (svM cs ts x)) us -> VRL P Z H M' (qA (svM cs ts x)) us
 load : ∀ (ph : PHp) (rv : List ResultVar) (env : List PV), rv.map qUJ = cs -> (rv.map fun r => (zM env (q0R r)).getD .unk) = qA (svM cs ts x) -> qHT P env ph rv = some (pvL ts x)
theorem zA9 {x : t.sem} (hc : ∀ ty2, c = some ty2 -> r9 P ty2 t = true) {r : ResultVar} (h1 : qUJ r = c) (h2 : (zM env (q0R r)).getD .unk = (qJH c t x).enc) : q4H P env ph r = some (t.pv x) := by
 subst h1
 cases r with
 | tmp i =>
   show some ((zM env i).getD .unk) = _;rw [show (zM env i).getD .unk = _ from h2];simp [qUJ, qJH, o8]
 | cell a ty =>
   show dS P ty ((zM env a).getD .unk) ph = _;rw [show (zM env a).getD .unk = _ from h2];have := qUB (x := x) (ph := ph) (hc ty rfl);simpa [qUJ, qJH, SV.enc, q93] using this
theorem qV2 : ∀ {cs : List (Option TypeId)} {tys : List TypeId} {ts : List Ty} {vs : List SV} {h : SH} {x : TyL ts} {h' : SH}, OkH P h -> okL h vs -> qL0 P cs tys ts vs h = some (x, h') -> zOJ P cs ts vs h x h'
 | [], tys, [], [], h, x, h', ho, hv, e => by
   unfold qL0 at e;cases e;refine ⟨.refl _, ho, fun Z H m us hp hu => ⟨Z, .refl hp, ?_⟩, fun Z H M M' us hu => ?_, fun ph rv env h1 h2 => ?_⟩
   ·simp only [qA] at hu;rw [hu.zIG];simp only [svM, qA];exact .nil
   ·simp only [svM, qA] at hu ⊢;rw [hu.zIG];exact .nil
   ·cases rv with
    | nil => rfl
    | cons _ _ => cases h1
 | c :: cs, ty :: tys, [t], v :: vs, h, x, h', ho, hv, e => by
   unfold qL0 at e;split at e
   case h_2 => cases e
   simp only [okL] at hv;obtain ⟨a1, a2, a3, a4⟩ := qRJ ho hv.1 e;refine ⟨a1, a2, fun Z H m us hp hu => ?_, fun Z H M M' us hu => ?_, fun ph rv env h1 h2 => ?_⟩
   ·simp only [qA] at hu;obtain ⟨u, us', rfl, b1, b2⟩ := hu.zIF;obtain ⟨Z', c1, c2⟩ := a4 Z H m u hp b1;rw [b2.zIG];simp only [svM, qA];exact ⟨Z', c1, .cons c2 .nil⟩
   ·simp only [svM, qA] at hu ⊢;obtain ⟨u, us', rfl, b1, b2⟩ := hu.zIF;rw [b2.zIG];exact .cons (qPM c t x _ _ _ _ _ b1) .nil
   ·match rv, h1, h2 with
    | [r], h1, h2 =>
      simp only [zQ0, zTC, zRP, and_true] at h1;simp only [zQ0, zTC, svM, qA, zRP, and_true] at h2;unfold qHT;rw [zA9 a3 h1 h2];rfl
 | c :: cs, ty :: tys, t :: u :: ts, v :: vs, h, x, h', ho, hv, e => by
   unfold qL0 at e;simp only [okL] at hv;split at e
   case h_2 => cases e
   rename_i x1 h1 hd;split at e
   case h_2 => cases e
   rename_i y h2 hd2;cases e;obtain ⟨a1, a2, a3, a4⟩ := qRJ ho hv.1 hd;have ih := qV2 a2 (qL a1 hv.2) hd2;have hsv : svM (c :: cs) (t :: u :: ts) (x1, y) = qJH c t x1 :: svM cs (u :: ts) y := rfl;refine ⟨a1.trans ih.keep, ih.ok, fun Z H m us hp hu => ?_, fun Z H M M' us hu => ?_, fun ph rv env g1 g2 => ?_⟩
   ·simp only [qA] at hu;obtain ⟨w, us', rfl, b1, b2⟩ := hu.zIF;obtain ⟨Z1, d1, d2⟩ := a4 Z H m w hp b1;obtain ⟨Z2, f1, f2⟩ := ih.fz Z1 H m us' d1.hp (d1.vrl b2);rw [hsv];simp only [qA];exact ⟨Z2, d1.trans f1, .cons (d2.mono (p := fun _ => false) f1.zle (zQO _) (fun _ _ _ => rfl) (.refl _ _) fun j hj => by cases hj) f2⟩
   ·rw [hsv] at hu ⊢;simp only [qA] at hu ⊢;obtain ⟨w, us', rfl, b1, b2⟩ := hu.zIF;exact .cons (qPM c t x1 _ _ _ _ _ b1) (ih.any _ _ _ _ _ b2)
   ·cases rv with
    | nil => cases g1
    | cons r rv =>
      rw [hsv] at g2;simp only [zQ0, zRP] at g1;simp only [zQ0, qA, zRP] at g2;unfold qHT;rw [zA9 a3 g1.1 g2.1, ih.load ph rv env g1.2 g2.2];rfl
 | [], _, [], _ :: _, _, _, _, _, _, e => by unfold qL0 at e; cases e
 | [], [], [_], _, _, _, _, _, _, e => by unfold qL0 at e; cases e
 | [], [], _ :: _ :: _, _, _, _, _, _, _, e => by unfold qL0 at e; cases e
 | [], _ :: _, [_], _, _, _, _, _, _, e => by unfold qL0 at e; cases e
 | [], _ :: _, _ :: _ :: _, _, _, _, _, _, _, e => by unfold qL0 at e; cases e
 | _ :: _, [], [], _, _, _, _, _, _, e => by unfold qL0 at e; cases e
 | _ :: _, _ :: _, [], _, _, _, _, _, _, e => by unfold qL0 at e; cases e
 | _ :: _, [], [_], _, _, _, _, _, _, e => by unfold qL0 at e; cases e
 | _ :: _, [], _ :: _ :: _, _, _, _, _, _, _, e => by unfold qL0 at e; cases e
 | _ :: _, _ :: _, [_], [], _, _, _, _, _, e => by unfold qL0 at e; cases e
 | _ :: _, _ :: _, _ :: _ :: _, [], _, _, _, _, _, e => by unfold qL0 at e; cases e
def rdR (P : Program) (hb : SH) (zKL : List TypeId) (rs : List Ty) (rv : List ResultVar) (env : List SV) (h : SH) : Option (TyL rs) := match qG1 (rv.map q0R) env with
 | some vs => (match qL0 P (rv.map qUJ) zKL rs vs h with
   | some p => cond (eZ [] hb p.2) (some p.1) none
   | none => none)
 | none => none
def enR (N : Nat) (rv : List ResultVar) (rs : List Ty) (v : TyL rs) : List SV := (eU (rv.map q0R) (svM (rv.map qUJ) rs v) (List.replicate N .unk)).1
omit [Yl] in
theorem qQ7 (h : SH) : ∀ (n : Nat), okL h (List.replicate n .unk)
 | 0 => by simp [okL]
 | n + 1 => by rw [zSC]; simp only [okL]; exact ⟨by simp [SV.ok], qQ7 h n⟩
theorem qIL : ∀ (n : Nat), qA (List.replicate n .unk) = List.replicate n .unk
 | 0 => by simp [qA]
 | n + 1 => by rw [zSC, zSC]; simp only [qA, qIL n, SV.enc]
theorem qRE {Z : Nat -> Prop} {H : IH} {M : Nat -> Option (Nat × PO)} {vals : List Value} : ∀ {rl : List Nat} {l base : List SV} {ws : List Value}, (∀ (j i : Nat), rl[j]? = some i -> vals[i]? = ws[j]?) -> VRL P Z H M (qA l) ws -> VRL P Z H M (qA base) vals -> VRL P Z H M (qA (eU rl l base).1) vals
 | [], l, base, ws, _, _, hb => hb
 | i :: is, [], base, ws, _, _, hb => hb
 | i :: is, c :: l, base, ws, hc, hl, hb => by
   simp only [qA] at hl;obtain ⟨w, ws', rfl, h1, h2⟩ := hl.zIF;show VRL P Z H M (qA (eU is l (yQ base i c)).1) vals;refine qRE (ws := ws') (fun j k hj => by simpa using hc (j + 1) k (by simpa using hj)) h2 ?_;rw [vK];exact hb.slot (v := w) (by simpa using hc 0 i rfl) h1
theorem qQK {Z : Nat -> Prop} {H : IH} {M : Nat -> Option (Nat × PO)} {env : List SV} {vals : List Value} (hv : VRL P Z H M (qA env) vals) : ∀ {rl : List Nat} {vs : List SV}, qG1 rl env = some vs -> ∃ ws, VRL P Z H M (qA vs) ws ∧ ∀ (j i : Nat), rl[j]? = some i -> vals[i]? = ws[j]?
 | [], vs, e => by cases e; exact ⟨[], by simp only [qA]; exact .nil, fun j i h => by simp at h⟩
 | i :: is, vs, e => by
   unfold qG1 at e;split at e
   ·rename_i v l hx hl;cases e;obtain ⟨ws, h1, h2⟩ := qQK hv hl;have hx2 : (qA env)[i]? = some v.enc := by rw [<- qD, zF, hx]; rfl
    obtain ⟨w, hw, hr⟩ := hv.get hx2;refine ⟨w :: ws, by simp only [qA]; exact .cons hr h1, fun j k hj => ?_⟩
    cases j with
    | zero => simp at hj; subst hj; simpa using hw
    | succ j => simpa using h2 j k (by simpa using hj)
   ·cases e
omit [Yl] in
theorem q8M {Z : Nat -> Prop} {H : IH} {M : Nat -> Option (Nat × PO)} {vals : List Value} : VRL P Z H M (List.replicate vals.length .unk) vals := ⟨by simp, fun i z v h1 h2 => by
 rw [zUQ] at h1;split at h1
 ·cases h1; exact .unk
 ·cases h1⟩
omit [Yl] in
theorem qF7 {env : List SV} : ∀ {rl : List Nat} {vs : List SV}, qG1 rl env = some vs -> ∀ z ∈ vs, z ∈ env
 | [], vs, e, z, hz => by cases e; cases hz
 | i :: is, vs, e, z, hz => by
   unfold qG1 at e;split at e
   ·rename_i v l hx hl;cases e;rcases zQ2.1 hz with q | q
    ·subst q; rw [qD] at hx; exact zRL hx
    ·exact qF7 hl z q
   ·cases e
theorem qMO {rv : List ResultVar} {env : List SV} {v : TyL rs} (ho : OkH P h) (he : okL h env) (e : rdR P hb zKL rs rv env h = some v) :
 ∃ vs h', qG1 (rv.map q0R) env = some vs ∧ zOJ P (rv.map qUJ) rs vs h v h' ∧ eZ [] hb h' = true := by
 unfold rdR at e;split at e
 case h_2 => cases e
 rename_i vs hvs;split at e
 case h_2 => cases e
 rename_i p hp;obtain ⟨x, h'⟩ := p
 cases hc : eZ [] hb h' with
 | false => rw [hc] at e; cases e
 | true =>
   rw [hc] at e;cases e;exact ⟨vs, h', hvs, qV2 ho (yS.2 fun z hz => yS.1 he z (qF7 hvs z hz)) hp, hc⟩
theorem q5U (hob : OkH P hb) {rv : List ResultVar} : zKK P nm N hb (rdR P hb zKL rs rv) (enR N rv rs) := by
 refine ⟨hob, fun env h v ho he hl hbh e => ?_, fun env h v ho he hbh e k o hk => ?_, fun v => by unfold enR; rw [qG6, zST], fun v h => qM4 (qUK _ rs v) (qQ7 h N)⟩
 ·obtain ⟨vs, h', hvs, hd, hkp⟩ := qMO ho he e;intro Z H m vals hh hv;obtain ⟨ws, h1, h2⟩ := qQK hv hvs;obtain ⟨Z', c1, r2⟩ := hd.fz Z H m ws hh h1;have hdr := Fz.drop c1.hp (ph' := qH hb.l) (qUV fun k o hk => nL hob (hbh.trans hd.keep) hkp (by simp) hk);have hlen : vals.length = N := by rw [<- hv.len, zI, hl]
  refine ⟨Z', m, hdr.hp, ?_, c1.step.trans hdr.step, (c1.kr _).trans (hdr.kr _)⟩;unfold enR;refine qRE h2 (hd.any _ _ _ _ _ r2) ?_;rw [qIL, <- hlen];exact q8M
 ·obtain ⟨vs, h', hvs, hd, hkp⟩ := qMO ho he e;have := qPV hob (hbh.trans hd.keep) hkp (by simp) hk;exact hd.keep.same k o this (zQZ (hob.ver k o hk) hbh.next)
omit [Yl] in
theorem qF1 {ty : TypeId} : ∀ (t : Ty) (x : t.sem) (c : FV), c ∈ t.cells x -> rt0 P ty (.f c) = .f c
 | .int _, x, c, h => by simp only [Ty.cells, zRX] at h; subst h; rfl
 | .bool, x, c, h => by simp only [Ty.cells, zRX] at h; subst h; rfl
 | .str, x, c, h => by simp only [Ty.cells, zRX] at h; subst h; rfl
 | .raw, x, c, h => by simp only [Ty.cells, zRX] at h; subst h; rfl
 | .list _ _, x, c, h => by simp only [Ty.cells, zRX] at h; subst h; rfl
 | .unit, x, c, h => by cases h
 | .pair a b, x, c, h => by
   have h : c ∈ a.cells x.1 ++ b.cells x.2 := h;rcases zRA.1 h with q | q
   ·exact qF1 a _ _ q
   ·exact qF1 b _ _ q
omit [Yl] in
theorem qZU {f : TypeId -> PV -> PV} : ∀ {ts : List TypeId} {xs : List PV}, (∀ t x, x ∈ xs -> f t x = x) -> rtL f ts xs = xs
 | [], xs, _ => by cases xs <;> rfl
 | t :: ts, [], _ => rfl
 | t :: ts, x :: xs, h => by
   show f t x :: rtL f ts xs = _;rw [h t x zQT, qZU fun t y hy => h t y (zQS _ hy)]
omit [Yl] in
theorem zAJ (t : Ty) (x : t.sem) : rt1 P ty (t.pv x) = t.pv x := by
 unfold Ty.pv
 cases ht : t.one with
 | true => exact qKG ht
 | false =>
   show PV.agg (rtL (rt0 P) (tL P 8 ty) ((t.cells x).map .f)) = _;rw [qZU]
   ·rfl
   ·intro ty2 y hy;obtain ⟨c, hc, rfl⟩ := zQ9.1 hy;exact qF1 t x c hc
omit [Yl] in
theorem zBW (t : Ty) (x : t.sem) (ph : PHp) : fzP P ph (t.pv x) = some (t.pv x, ph) := by
 unfold Ty.pv
 cases t.one with
 | true => rfl
 | false => simp only [cond_false, fzP, qGI]
omit [Yl] in
theorem q4V {ph : PHp} : ∀ {xs : List PV}, (∀ y ∈ xs, fzP P ph y = some (y, ph)) -> fzA P xs ph = some (xs, ph)
 | [], _ => rfl
 | x :: xs, h => by
   simp only [fzA, h x zQT, q4V fun y hy => h y (zQS _ hy)]
omit [Yl] in
theorem q61 (rs : List Ty) (x : TyL rs) (ph : PHp) : fzR P ph (uR rs x) = some (uR rs x) := by
 have hm : ∀ y ∈ pvL rs x, ∃ (t : Ty) (z : t.sem), y = t.pv z := fun y hy => qCQ hy
 unfold uR;generalize pvL rs x = l at hm
 have hz : ∀ y ∈ l, fzP P ph y = some (y, ph) := fun y hy => by
  obtain ⟨t, z, rfl⟩ := hm y hy;exact zBW t z ph
 match l, hm, hz with
 | [], _, hz => rfl
 | [v], hm, hz =>
   obtain ⟨t, z, rfl⟩ := hm v zQT;have := hz _ zQT;show fzR P ph (t.pv z) = some (t.pv z);unfold fzR;unfold Ty.pv at this ⊢
   cases ht : t.one with
   | true => rw [ht] at this; simp only [cond_true] at this ⊢; rw [this]
   | false => rw [ht] at this; simp only [cond_false] at this ⊢; rw [this]
 | a :: b :: l, _, hz =>
   show (match fzA P (a :: b :: l) ph with
    | some (ys, _) => some (PV.tup ys)
    | none => none) = _
   rw [q4V hz]; rfl
omit [Yl] in
theorem q6Y (rs : List Ty) (x : TyL rs) : q9C (uR rs x) = true := by
 have hm : ∀ y ∈ pvL rs x, qUH y = true := fun y hy => by
  obtain ⟨t, z, rfl⟩ := qCQ hy;exact q5J t z
 have hm2 : ∀ y ∈ pvL rs x, ∃ (t : Ty) (z : t.sem), y = t.pv z := fun y hy => qCQ hy
 unfold uR;generalize pvL rs x = l at hm hm2
 match l, hm, hm2 with
 | [], _, _ => rfl
 | [v], hm, hm2 =>
   have h1 := hm v zQT;obtain ⟨t, z, rfl⟩ := hm2 v zQT;show q9C (t.pv z) = true;unfold Ty.pv at h1 ⊢
   cases ht : t.one with
   | true => rfl
   | false => rw [ht] at h1; exact h1
 | a :: b :: l, hm, _ => exact zQR.2 hm
def qPQ : List Nat -> Bool
 | [] => true
 | i :: l => !qEE i l && qPQ l
omit [Yl] in
theorem qRH : ∀ {rl : List Nat} {l base : List SV}, qPQ rl = true -> rl.length = l.length -> (∀ i ∈ rl, i < base.length) -> ∀ (j i : Nat), rl[j]? = some i -> zM (eU rl l base).1 i = l[j]?
 | [], l, base, _, _, _, j, i, h => by simp at h
 | k :: is, [], base, _, hl, _, j, i, h => by simp at hl
 | k :: is, c :: l, base, hn, hl, hb, j, i, h => by
   unfold qPQ at hn;rw [zQM] at hn
   have hk : k ∉ is := fun hm => by
    have := fJ.2 hm;rw [this] at hn;exact absurd hn.1 (by simp)
   show zM (eU is l (yQ base k c)).1 i = _
   cases j with
   | zero =>
     simp at h;subst h;rw [qH3 hk, qW, qD, zRD, if_pos rfl, if_pos (hb k zQT)];rfl
   | succ j =>
     have h2 : is[j]? = some i := by simpa using h
     rw [qRH (rl := is) (l := l) hn.2 (by simpa using hl) (fun i hi => by rw [fF]; exact hb i (zQS _ hi)) j i h2];rfl
def zF5 {rs : List Ty} (rdv : List SV -> SH -> Option (TyL rs)) : wO none (TyL rs) := fun e _ env h => match e with
 | .normal => rdv env h
 | .ret => rdv env h
 | _ => none
def nm0 : Nm := ⟨0, fun _ => true⟩
def fnS (P : Program) (G : Nat -> Bool) (T : xW) (IT : List (FuncId × zJE)) (CI : CIT) (an : An) (as rs : List Ty) (fn : Func) (x : TyL as) : Option (TyL rs) := match fn.body with
 | some c => (ev (Γ := none) P G T IT CI yi0 an (rdR P ⟨0, []⟩ fn.resultTypes.toList rs fn.results.toList) (enR fn.ntmps fn.results.toList rs) ⟨0, []⟩ c false nm0 () (svL as x ++ List.replicate (fn.ntmps - as.length) .unk) ⟨0, []⟩ (zF5 (rdR P ⟨0, []⟩ fn.resultTypes.toList rs fn.results.toList))).run
 | none => none
def qWZ (as rs : List Ty) (fn : Func) : Bool := match fn.body with
 | some _ => qPQ (fn.results.toList.map q0R) && (Nat.beq fn.results.toList.length rs.length && (Nat.ble as.length fn.ntmps && (fn.results.toList.map q0R).all fun i => Nat.blt i fn.ntmps))
 | none => false
omit [Yl] in
theorem Runs.zOK {rd : Bool} {c : Code} {Q : PQ} (h : Runs P G rd nm c env ph fun e pe p => ∃ pe' p', Wk P nm pe p pe' p' ∧ Q e pe' p') : Runs P G rd nm c env ph Q := by
 intro Z H m zIC hp hb he;refine (h Z H m zIC hp hb he).mono ?_;rintro o ⟨Z', m', env', ph', a, b, c, d, pe', p', hw, e⟩;obtain ⟨Z1, m1, a1, a2, a3, a4⟩ := hw Z' o.H m' o.env a b;exact ⟨Z1, m1, pe', p', a1, a2, c.trans a3, d.trans a4, e⟩
theorem zF9 : YOk P G (Γ := GV none) zDK yi0 := fun g y g' b h => by cases h
theorem zE4 {nat : xG} {T : xW} {IT : List (FuncId × zJE)} {CI : CIT} {an : An} {as : List Ty} {g : FuncId} {fn : Func} (s : zI6 P good nat G tab) (ht : qWV tab T) (hit : zCW P G IT) (hci : q6V P G CI) (hfn : P.funcs[g]? = some fn) (hc : qWZ as rs fn = true) :
 zGM P G g nm0 (enL as) (fnS P G T IT CI an as rs fn) (uR rs) := by
 unfold qWZ at hc;split at hc
 case h_2 => cases hc
 rename_i c hbody;simp only [zQM] at hc;obtain ⟨c1, c2, c3, c4⟩ := hc;refine ⟨fn, c, hfn, hbody, fun x y hF => ⟨fn.ntmps, rfl, ?_⟩⟩;unfold fnS at hF;rw [hbody] at hF;have hF : (ev (Γ := none) P G T IT CI yi0 an (rdR P ⟨0, []⟩ fn.resultTypes.toList rs fn.results.toList) (enR fn.ntmps fn.results.toList rs) ⟨0, []⟩ c false nm0 () (svL as x ++ List.replicate (fn.ntmps - as.length) .unk) ⟨0, []⟩ (zF5 (rdR P ⟨0, []⟩ fn.resultTypes.toList rs fn.results.toList))).run = some y := hF;have hal : as.length <= fn.ntmps := zQ4 c3
 have hlen : (svL as x ++ List.replicate (fn.ntmps - as.length) SV.unk).length = fn.ntmps := by
  rw [zQ8, qMG, zST]; omega
 have hrd : ∀ nm, zKK P nm fn.ntmps ⟨0, []⟩ (rdR P ⟨0, []⟩ fn.resultTypes.toList rs fn.results.toList) (enR fn.ntmps fn.results.toList rs) := fun nm => q5U qYT
 have zII : (enL as).p x ++ List.replicate (fn.ntmps - ((enL as).p x).length) PV.unk = qA (svL as x ++ List.replicate (fn.ntmps - as.length) .unk) := by
  have : (enL as).p x = qA (svL as x) := (qOL as x).symm;rw [qAV, qIL, this, zI, qMG]
 rw [zII];have hrun := qU.runs (zBL (Γ := none) (wd := zDK) s ht hit hci zF9 hrd c qYT (mQ (qEX as x) (qQ7 _ _)) hlen (.refl _) hF);refine Runs.zOK (hrun.mono ?_);rintro e pe ph ⟨env', h', rfl, rfl, k1, k2, k3, k0, k4, k5⟩
 obtain ⟨he, hr⟩ : (e = .normal ∨ e = .ret) ∧ rdR P ⟨0, []⟩ fn.resultTypes.toList rs fn.results.toList env' h' = some y := by
  cases e with
  | normal => exact ⟨.inl rfl, k5⟩
  | ret => exact ⟨.inr rfl, k5⟩
  | exit _ => cases k5
  | goto _ => cases k5
 obtain ⟨_, _, _, hd, _⟩ := qMO k2 k1 hr;refine ⟨_, _, (hrd nm0).wk _ _ _ k2 k1 k3 k0 hr, he, uR rs y, ?_, q61 rs y _⟩;unfold gQ;have hll : (fn.results.toList.map q0R).length = (svM (fn.results.toList.map qUJ) rs y).length := by rw [qOS, zQ7]; exact zQN c2
 have hl2 : (fn.results.toList.map fun r => (zM (qA (enR fn.ntmps fn.results.toList rs y)) (q0R r)).getD PV.unk) = qA (svM (fn.results.toList.map qUJ) rs y) := by
  apply zRC;intro j;rw [zQU, zC (svM _ rs y), zQU]
  cases hj : fn.results.toList[j]? with
  | none =>
    have : (svM (fn.results.toList.map qUJ) rs y)[j]? = none := by
     rw [zUI] at hj ⊢;rw [zQ7] at hll;omega
    rw [this]; rfl
  | some rr =>
    have hg := qRH (l := svM (fn.results.toList.map qUJ) rs y) (base := List.replicate fn.ntmps .unk) c1 hll (fun i hi => by
     have := zQR.1 c4 i hi;rw [zST]
     exact zQ4 this) j (q0R rr) (by rw [zQU, hj]; rfl)
    simp only [zQW];rw [zF];unfold enR;rw [hg]
    have hlt : j < (svM (fn.results.toList.map qUJ) rs y).length := by
     rw [<- hll, zQ7]; exact (zQQ.1 hj).1
    rw [zQP hlt];rfl
 rw [hd.load _ fn.results.toList _ rfl hl2];show some (qDN (rtL (rt1 P) fn.resultTypes.toList (pvL rs y))) = some (uR rs y)
 rw [qZU fun t z hz => by
  obtain ⟨t', z', rfl⟩ := qCQ hz
  exact zAJ t' z']
 rfl
end
end Go.Sv
namespace Go.Sv
open Go.Idl
variable {P : Program}
noncomputable section
variable [Gc]
class Hnd where
 ci : CIT
class zJ8 (P : Program) (G : Nat -> Bool) [Hnd] : Prop where
 ok : ∀ [Yl], q6V P G Hnd.ci
instance (priority := low) zOL : Hnd := ⟨fun _ _ _ _ _ _ => .fail⟩
instance (priority := low) hndOk0 {G : Nat -> Bool} : @zJ8 _ P G zOL := by
 letI : Hnd := zOL
 refine ⟨fun {_} => ?_⟩;intro R nm f as h K r ho ha e;cases e
variable [Yl] {R : Type} {r : R} {G : Nat -> Bool}
end
end Go.Sv
namespace Go.Sv
open Go.Idl
noncomputable section
variable [Gc]
variable [Yl]
variable {P : Program} {G : Nat -> Bool} {nm : Nm} {tab : fM} {nat : xG} {good : FuncId -> Bool} {T : xW} {IT : List (FuncId × zJE)}
omit [Yl] in
theorem q25 {g : FuncId} {fn : Func} {c : Code} {N : Nat} {args : List PV} {ph : PHp} {R : PV -> PHp -> Prop} (hent : enters P g = true) (hfn : P.funcs[g]? = some fn) (hb : fn.body = some c) (hN : fn.ntmps = N)
 (h : Runs P G false nm c (args ++ List.replicate (N - args.length) .unk) ph fun e pe p => (e = .normal ∨ e = .ret) ∧ ∃ v, gQ P fn pe p = some v ∧ R v p) :
 qV7 P G nm g args ph R := by
 refine .inr ⟨hent, fun Z H m zI3 hp hbs hv => ?_⟩;refine qAC.of hfn hb hN ?_
 have zII : VRL P Z H (own m ph) (args ++ List.replicate (N - args.length) .unk) (zI3 ++ List.replicate (N - zI3.length) undef) := by
  rw [hv.len];refine VRL.append hv ⟨by simp, fun i z v h1 h2 => ?_⟩;rw [zUQ] at h1;split at h1
  ·cases h1; exact .unk
  ·cases h1
 refine (h Z H m _ hp hbs zII).mono ?_;rintro o ⟨Z', m', env', ph', a1, b1, c1, d1, he, v, hr, hR⟩;refine ⟨he, ?_⟩;obtain ⟨u, v1, v2⟩ := qCV a1 b1 hr;exact ⟨u, v1, Z', m', v, ph', a1, v2, c1, d1, hR⟩
def rtS (P : Program) (ty : TypeId) : SV -> Option SV
 | .d t x => cond t.one (some (.d t x)) none
 | .c (.slice none 0 0) => match y9 P ty with
   | some el => (match qIQ P 8 el with
     | some t => some (.d (.list el t) [])
     | none => none)
   | none => none
 | .c (.int k x) => some (.c (.int k x))
 | .c .nilIface => some (.c .nilIface)
 | .c (.bool b) => some (.c (.bool b))
 | .c (.string b) => some (.c (.string b))
 | .own k g n => some (.own k g n)
 | .sl k g n o m => some (.sl k g n o m)
 | .ref k o w => some (.ref k o w)
 | .elt k g n w j o => some (.elt k g n w j o)
 | .lp t xs j o => some (.lp t xs j o)
 | .fn f a b => some (.fn f a b)
 | _ => none
theorem zBD {ty : TypeId} {v v' : SV} (e : rtS P ty v = some v') : rt1 P ty v.enc = v'.enc ∧ ∀ h, v.ok h -> v'.ok h := by
 unfold rtS at e;split at e
 ·rename_i t x
  cases ht : t.one with
  | true =>
    rw [ht] at e;cases e;refine ⟨?_, fun h hv => hv⟩;simp only [SV.enc];exact qKG ht
  | false => rw [ht] at e; cases e
 ·split at e
  ·rename_i el hel;split at e
   ·rename_i t ht;cases e;refine ⟨?_, fun h _ => by simp [SV.ok]⟩;simp only [SV.enc, fvv]
    show (match y9 P ty with
     | some el => PV.f (.l el 0 [])
     | none => fvv (.slice none 0 0)) = _
    rw [hel];rfl
   ·cases e
  ·cases e
 all_goals first
  | (cases e; exact ⟨by simp only [SV.enc]; rfl, fun h hv => hv⟩)
  | cases e
def q94 (P : Program) : List TypeId -> List SV -> Option (List SV)
 | _, [] => some []
 | ty :: tys, v :: l => (match rtS P ty v, q94 P tys l with
   | some x, some y => some (x :: y)
   | _, _ => none)
 | [], _ :: _ => none
theorem qWK : ∀ {tys : List TypeId} {l l' : List SV}, q94 P tys l = some l' -> rtL (rt1 P) tys (qA l) = qA l' ∧ ∀ h, okL h l -> okL h l'
 | tys, [], l', e => by
   have : some [] = some l' := by cases tys <;> exact e
   cases this;exact ⟨by cases tys <;> simp [qA, rtL], fun h hl => hl⟩
 | ty :: tys, v :: l, l', e => by
   unfold q94 at e;split at e
   ·rename_i x y hx hy;cases e;obtain ⟨a1, a2⟩ := zBD hx;obtain ⟨b1, b2⟩ := qWK hy;refine ⟨?_, fun h hl => ?_⟩
    ·simp only [qA, rtL, a1, b1]
    ·simp only [okL] at hl ⊢;exact ⟨a2 h hl.1, b2 h hl.2⟩
   ·cases e
 | [], _ :: _, _, e => by cases e
def qUD : List SV -> SV
 | [v] => v
 | vs => .tup vs
def zEG {R : Type} (P : Program) (zKL : List TypeId) (rl : List Nat) (K : SV -> SH -> zIA R) : wO none R := fun e _ env h => match e with
 | .normal => (match qG1 rl env with
   | some vs => (match q94 P zKL vs with
     | some ws => K (qUD ws) h
     | none => .fail)
   | none => .fail)
 | .ret => (match qG1 rl env with
   | some vs => (match q94 P zKL vs with
     | some ws => K (qUD ws) h
     | none => .fail)
   | none => .fail)
 | _ => .fail
def q6T : List ResultVar -> Option (List Nat)
 | [] => some []
 | .tmp t :: l => (q6T l).map (t :: ·)
 | .cell _ _ :: _ => none
omit [Yl] in
theorem qJB {env : List PV} {ph : PHp} : ∀ {l : List ResultVar} {rl : List Nat}, q6T l = some rl -> qHT P env ph l = some (rl.map fun t => (zM env t).getD .unk)
 | [], rl, e => by cases e; rfl
 | .tmp t :: l, rl, e => by
   obtain ⟨rl', h1, rfl⟩ := zQY.1 e;simp only [qHT, q4H, qJB h1, zQ0]
 | .cell _ _ :: _, rl, e => by cases e
abbrev Ans := List (FuncId × (An × List Ty))
def ciN [Hnd] (P : Program) (G : Nat -> Bool) (T : xW) (IT : List (FuncId × zJE)) (ans : Ans) : Nat -> CIT
 | 0 => fun R nm f as h K => Hnd.ci R nm f as h K
 | n + 1 => fun R nm f as h K => match P.funcs[f]?, lkA f ans with
   | some fn, some (an, rs) => (match fn.body, q6T fn.results.toList with
     | some c, some rl => cond (enters P f && Nat.ble as.length fn.ntmps) (ev (Γ := none) P G T IT (ciN P G T IT ans n) yi0 an (rdR P h fn.resultTypes.toList rs fn.results.toList) (enR fn.ntmps fn.results.toList rs) h c false nm () (as ++ List.replicate (fn.ntmps - as.length) .unk) h (zEG P fn.resultTypes.toList rl K)) .fail
     | _, _ => .fail)
   | _, _ => Hnd.ci R nm f as h K
theorem qR1 {env : List SV} : ∀ {rl : List Nat} {vs : List SV}, qG1 rl env = some vs -> (rl.map fun t => (zM (qA env) t).getD PV.unk) = qA vs
 | [], vs, e => by cases e; simp [qA]
 | i :: is, vs, e => by
   unfold qG1 at e;split at e
   ·rename_i v l hx hl;cases e;rw [zQ0, qR1 hl, zF, hx];simp [qA]
   ·cases e
theorem q1R (l : List SV) : (qUD l).enc = qDN (qA l) := by
 match l with
 | [] => simp [qUD, qDN, SV.enc, qA]
 | [v] => simp [qUD, qDN, qA]
 | a :: b :: l => simp [qUD, qDN, SV.enc, qA]
omit [Yl] in
theorem q8N {h : SH} {l : List SV} (hl : okL h l) : (qUD l).ok h := by
 match l, hl with
 | [], hl => simp [qUD, SV.ok, okL]
 | [v], hl => simp only [okL] at hl; exact hl.1
 | a :: b :: l, hl => simp only [qUD, SV.ok]; exact hl
theorem q55 [Hnd] [zJ8 P G] (s : zI6 P good nat G tab) (ht : qWV tab T) (hit : zCW P G IT) (ans : Ans) : ∀ n, q6V P G (ciN P G T IT ans n)
 | 0 => by
   intro nm f as h K r ho ha e;unfold ciN at e;exact zJ8.ok (P := P) (G := G) nm f as h K r ho ha e
 | n + 1 => by
   intro nm f as h K r ho ha e;unfold ciN at e;split at e
   case h_2 =>
    exact zJ8.ok (P := P) (G := G) nm f as h K r ho ha e
   rename_i fn an rs hfn hans;split at e
   case h_2 => cases e
   rename_i c rl hbody hrl;obtain ⟨hc, e⟩ := qG e;rw [zQM] at hc;have hal : as.length <= fn.ntmps := zQ4 hc.2
   have hlen : (as ++ List.replicate (fn.ntmps - as.length) SV.unk).length = fn.ntmps := by
    rw [zQ8, zST]; omega
   refine q25 hc.1 hfn hbody rfl ?_
   have zII : qA as ++ List.replicate (fn.ntmps - (qA as).length) PV.unk = qA (as ++ List.replicate (fn.ntmps - as.length) .unk) := by
    rw [qAV, qIL, zI]
   rw [zII];refine (qU.runs (zBL (Γ := none) (wd := zDK) s ht hit (q55 s ht hit ans n) zF9 (fun nm => q5U ho) c ho (mQ ha (qQ7 _ _)) hlen (.refl _) e)).mono ?_;rintro ex pe ph ⟨env', h', rfl, rfl, k1, k2, k3, k0, k4, k5⟩
   have key : ∀ {vs ws : List SV}, qG1 rl env' = some vs -> q94 P fn.resultTypes.toList vs = some ws -> (K (qUD ws) h').run = some r -> ∃ v, gQ P fn (qA env') (qH h'.l) = some v ∧ ∃ v' h2, v = v'.enc ∧ qH h'.l = qH h2.l ∧ Post P h h2 v' ∧ (K v' h2).run = some r := fun {vs ws} hvs hws hk => by
    obtain ⟨a1, a2⟩ := qWK hws;refine ⟨(qUD ws).enc, ?_, qUD ws, h', rfl, rfl, ⟨k0, k2, q8N (a2 _ (yS.2 fun z hz => yS.1 k1 z (qF7 hvs z hz)))⟩, hk⟩;unfold gQ;rw [qJB hrl, qR1 hvs, q1R, <- a1];rfl
   cases ex with
   | normal =>
     simp only [zEG] at k5;split at k5
     ·split at k5
      ·exact ⟨.inl rfl, key ‹_› ‹_› k5⟩
      ·cases k5
     ·cases k5
   | ret =>
     simp only [zEG] at k5;split at k5
     ·split at k5
      ·exact ⟨.inr rfl, key ‹_› ‹_› k5⟩
      ·cases k5
     ·cases k5
   | exit _ => cases k5
   | goto _ => cases k5
end
noncomputable section
variable [Gc]
variable {P : Program} {G : Nat -> Bool} {nm : Nm} {tab : fM} {nat : xG} {good : FuncId -> Bool} {T : xW} {IT : List (FuncId × zJE)}
def Lib (P : Program) (good : FuncId -> Bool) (G : Nat -> Bool) (T : xW) (IT : List (FuncId × zJE)) : Prop := ∃ nat tab, zI6 P good nat G tab ∧ (∀ [Yl], qWV tab T) ∧ ∀ [Yl], zCW P G IT
theorem Lib.add [Hnd] [zJ8 P G] (L : Lib P good G T IT) (g : FuncId) (ans : Ans) (n : Nat) (an : An) (as rs : List Ty) (fn : Func) (F : TyL as -> Option (TyL rs)) (hent : enters P g = true) (hfn : P.funcs[g]? = some fn) (hc : qWZ as rs fn = true)
 (hF : ∀ (y : Yl) x, @fnS y P G T IT (ciN P G T IT ans n) an as rs fn x = F x) : Lib P good G ((g, ⟨as, rs, F⟩) :: T) IT := by
 obtain ⟨nat, tab, s, ht, hit⟩ := L
 letI : Yl := ⟨0⟩
 have hF2 : fnS P G T IT (ciN P G T IT ans n) an as rs fn = F := funext fun x => hF ⟨0⟩ x
 have zOM := zE4 (an := an) (as := as) (rs := rs) s ht hit (q55 s ht hit ans n) hfn hc;rw [hF2] at zOM;refine ⟨_, _, s.add (enL as) F (uR rs) hent (q6Y rs) zOM, ?_, hit⟩;intro _ g' ent hg x;have hg : cond (Nat.beq g' g) (some (⟨as, rs, F⟩ : Ent)) (slT g' T) = some ent := hg;unfold zDM
 cases hb : Nat.beq g' g with
 | true =>
   rw [hb] at hg;cases hg;exact zCE (a := enL as) x
 | false =>
   rw [hb] at hg;exact ht g' ent hg x
theorem Lib.zP2 [Hnd] [zJ8 P G] (L : Lib P good G T IT) (g : FuncId) (ans : Ans) (an : An) (as rs : List Ty) (fn : Func) (F : TyL as -> Option (TyL rs)) (hent : enters P g = true) (hfn : P.funcs[g]? = some fn) (hc : qWZ as rs fn = true)
 (hF : (fun (y : Yl) (x : TyL as) => @fnS y P G T IT (ciN P G T IT ans 3) an as rs fn x) = fun (_ : Yl) x => F x) : Lib P good G ((g, ⟨as, rs, F⟩) :: T) IT := L.add g ans 3 an as rs fn F hent hfn hc fun y x => congrFun (congrFun hF y) x
end
end Go.Sv
