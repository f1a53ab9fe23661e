/- Builders of texts in a symbolic run: copyCheck and String. Conditions: none. -/
import Derived.Test.YtpdlblofcdcikaaGreatDoorXB1
set_option linter.all false
namespace Go.Proofs.YtpdlblofcdcikaaGreatDoor
open Go Go.Idl Go.Sv
noncomputable section
def qOB {R : Type} (az : List SV) (h : SH) (K : SV -> SH -> Tree R) : Tree R := match az with
 | [.ref k off w] => (match slk k h.l with
   | some (.cells el _ [a, c]) => cond (Nat.beq off 0 && (Nat.beq w 2 && (Nat.beq el 152 && (q6C k 2 a).isSome))) (K (.tup []) (h.put k fun v => .cells 152 v [.ref k 0 2, c])) .fail
   | _ => .fail)
 | _ => .fail
def qYD {R : Type} (az : List SV) (h : SH) (K : SV -> SH -> Tree R) : Tree R := match az with
 | [.ref k off w] => (match slk k h.l with
   | some (.cells el _ [_, .own kb g n]) => (match slk kb h.l with
     | some (.list e2 true g2 _ (.int .u8) xs) => cond (Nat.beq off 0 && (Nat.beq w 2 && (Nat.beq el 152 && (Nat.beq e2 5 && Nat.beq g g2)))) (.ite (Nat.ble (List.length xs) 1048576) (K (.d .str (bText xs)) (h.del kb)) .fail) .fail
     | _ => .fail)
   | some (.cells el _ [_, .c (.slice none 0 0)]) => cond (Nat.beq off 0 && (Nat.beq w 2 && Nat.beq el 152)) (K (.d .str (bText [])) h) .fail
   | _ => .fail)
 | _ => .fail
instance hndB : Hnd := ⟨fun _ _ f az h K => cond (Nat.beq f 153) (qOB az h K) (cond (Nat.beq f 120) (qYD az h K) .fail)⟩
variable [Yl] {P : Program}
theorem qV3 {Z : Nat -> Prop} {H : IH} {M : Nat -> Option (Nat × PO)} {a c : PV} {vs : List Value} (h : VRL P Z H M [a, c] vs) : ∃ x y, vs = [x, y] ∧ VR P Z H M a x ∧ VR P Z H M c y := by
 obtain ⟨x, vs', rfl, h1, h2⟩ := h.uncons;obtain ⟨y, vs2, rfl, h3, h4⟩ := h2.uncons;rw [h4.nil_left];exact ⟨x, y, rfl, h1, h3⟩
theorem qU7 {Z : Nat -> Prop} {H : IH} {M : Nat -> Option (Nat × PO)} {a : PV} {vs : List Value} (h : VRL P Z H M [a] vs) : ∃ x, vs = [x] ∧ VR P Z H M a x := by
 obtain ⟨x, vs', rfl, h1, h2⟩ := h.uncons;rw [h2.nil_left];exact ⟨x, rfl, h1⟩
theorem qJD {Z : Nat -> Prop} {H : IH} {M : Nat -> Option (Nat × PO)} : ∀ {xs : List Int} {vs : List Value}, VRL P Z H M ((xs.flatMap (Ty.int .u8).cells).map PV.f) vs -> vs = xs.map (Value.int .u8)
 | [], vs, h => h.nil_left
 | x :: xs, vs, h => by
   have h : VRL P Z H M (PV.f (.v (.int .u8 x)) :: (xs.flatMap (Ty.int .u8).cells).map PV.f) vs := h;obtain ⟨v, vs', rfl, h1, h2⟩ := h.uncons;rw [qJD h2, zU h1 rfl];rfl
theorem q0G {Z : Nat -> Prop} {H H' : IH} {m : Nat -> Nat} {ph : PHp} {k : Nat} (hp : Hp P Z H (own m ph)) (hs : H'.size = H.size) (hb : H'.base = H.base) (hg : ∀ b, b ≠ m k -> H'.get b = H.get b) (hk : H' = H ∨ ∃ ob, qC k ph = some ob ∧ real ob) :
 Hp P Z H' (own m (pI k ph)) ∧ Step Z H (own m ph) Z H' (own m (pI k ph)) ∧ ∀ p, KR p (own m ph) (own m (pI k ph)) := by
 have hown : ∀ j b o, own m (pI k ph) j = some (b, o) -> j ≠ k ∧ own m ph j = some (b, o) := fun j b o h => by
  obtain ⟨h1, rfl⟩ := wP h;rw [wN] at h1;split at h1
  ·cases h1
  ·rename_i hj; exact ⟨hj, qM h1⟩
 have hZ : ∀ b, Z b -> H'.get b = H.get b := fun b hz => by
  rcases hk with rfl | ⟨ob, h1, h2⟩
  ·rfl
  ·exact hg b fun e => by
    rcases hp.obj k (m k) ob (qM h1) with h3 | ⟨_, _, h3, _⟩
    ·exact h2 h3
    ·exact h3 (e ▸ hz)
 have kr : ∀ p, KR p (own m ph) (own m (pI k ph)) := fun p j b o h => .inl ⟨o, (hown j b o h).2, rfl, rfl, rfl⟩
 refine ⟨⟨fun b hz => by rw [hs]; exact hp.zlt b hz, fun j b o h => ?_, fun j j' b b' o o' h1 h2 h3 h4 h5 => hp.inj j j' b b' o o' (hown j b o h1).2 (hown j' b' o' h2).2 h3 h4 h5, fun g o hgo => ?_⟩, ⟨Nat.le_of_eq hs.symm, hb, fun _ h => h, fun b hlt hn => ?_, fun b hz _ => .inl hz, fun b ⟨j, o, h1, h2⟩ _ => ?_⟩, kr⟩
 ·obtain ⟨hj, h1⟩ := hown j b o h
  rcases hp.obj j b o h1 with h2 | ⟨x1, x2, x3, x4⟩
  ·exact .inl h2
  ·by_cases hr : o.gr = true ∧ o.cs = []
   ·exact .inl hr
   ·refine .inr ⟨by rw [hs]; exact x1, by rw [hb]; exact x2, x3, x4.mono ?_ fun vs hv => hv.mono (p := fun _ => false) (fun _ h => h) (Nat.le_of_eq hs.symm) (fun b hz _ => hZ b hz) (kr _) fun i hi => by cases hi⟩
    rcases hk with rfl | ⟨ob, h3, h4⟩
    ·rfl
    ·exact hg b fun e => hp.inj j k b (m k) o ob h1 (qM h3) hr h4 hj e
 ·obtain ⟨a, c⟩ := hp.gl g o hgo;exact ⟨a, (hZ g a).trans c⟩
 ·rcases hk with rfl | ⟨ob, h3, h4⟩
  ·rfl
  ·exact hg b fun e => hn ⟨k, ob, by rw [e]; exact qM h3, h4⟩
 ·exact ⟨j, o, (hown j b o h1).2, h2⟩
theorem e153 : enters Tryz.prog 153 = true := by kernel_rfl
theorem e120 : enters Tryz.prog 120 = true := by kernel_rfl
theorem q7R : spec Tryz.prog 152 = false := by kernel_rfl
theorem s5 : spec Tryz.prog 5 = false := by kernel_rfl
theorem z5 : szT Tryz.prog 5 = some 1 := by kernel_rfl
theorem q2L {R : Type} {r : R} {nm : Nm} {az : List SV} {h : SH} {K : SV -> SH -> Tree R} (ho : OkH Tryz.prog h) (ha : okL h az) (e : (qOB az h K).run = some r) :
 qG2 Tryz.prog (zL 3) nm 153 (qA az) (qD h.l) fun v p => ∃ v' h', v = v'.enc ∧ p = qD h'.l ∧ Post Tryz.prog h h' v' ∧ (K v' h').run = some r := by
 unfold qOB at e;split at e
 case h_2 => cases e
 rename_i k off w;split at e
 case h_2 => cases e
 rename_i el w0 a c hk;obtain ⟨hc, er⟩ := qF e;clear e;simp only [Bool.and_eq_true] at hc;obtain ⟨c1, c2, c3, c4⟩ := hc;obtain rfl : off = 0 := Nat.eq_of_beq_eq_true c1;obtain rfl : w = 2 := Nat.eq_of_beq_eq_true c2;obtain rfl : el = 152 := Nat.eq_of_beq_eq_true c3;obtain ⟨bb, hbb⟩ := Option.isSome_iff_exists.1 c4;have henc := qNN hbb;have hkp := xY hk;have hreal : real (SO.cells 152 w0 [a, c]).enc := fun q => by cases q.1
 have hcok := ho.cells _ _ _ _ hk;simp only [okL] at hcok;have hput := nA (f := fun v => .cells 152 v [.ref k 0 2, c]) ho hk ⟨rfl, by simp only [okL]; exact ⟨by simp [SV.ok], hcok.2.1, trivial⟩⟩;refine .inr ⟨e153, fun Z H m iargs hp hbs hv => ?_⟩;have hv : VRL Tryz.prog Z H (own m (qD h.l)) [.ref k 2 0] iargs := by simpa [qA, SV.enc] using hv
 obtain ⟨va, rfl, hva⟩ := qU7 hv
 have hva' : va = .pointer (some ⟨m k, 0, none⟩) := by
  cases hva with
  | ref g1 g2 => exact ((g2 _ _ (qM hkp)).2 (by simp [SO.enc, zF])).1
 subst hva';obtain ⟨w1, w2, w3, vs, q1, q2, q3⟩ := hp.real hkp hreal q7R;have q2 : VRL Tryz.prog Z H (own m (qD h.l)) [a.enc, c.enc] vs := by simpa [SO.enc, qA] using q2
 obtain ⟨x, y, rfl, hx, hy⟩ := qV3 q2;have hg : H.get (m k) = some (.cells #[x, y] 152 (0, 0)) := q1
 have hxx : (bb = false ∧ x = .pointer none) ∨ (bb = true ∧ x = .pointer (some ⟨m k, 0, none⟩)) := by
  rw [henc] at hx
  cases bb with
  | false => exact .inl ⟨rfl, zU hx rfl⟩
  | true =>
    have hx : VR Tryz.prog Z H (own m (qD h.l)) (.ref k 2 0) x := by simpa [SV.enc] using hx
    cases hx with
    | ref g1 g2 => exact .inr ⟨rfl, ((g2 _ _ (qM hkp)).2 (by simp [SO.enc, zF])).1⟩
 have henc2 : qD (h.put k fun v => .cells 152 v [.ref k 0 2, c]).l = vO k { (SO.cells 152 w0 [a, c]).enc with cs := [.ref k 2 0, c.enc] } (qD h.l) := by
  show qD (sst k _ h.l) = _;rw [uM];simp [SO.enc, qA, SV.enc]
 have hyone : oneCell y = true := (show oneCell x = true ∧ oneCell y = true by simpa using (show [x, y].all oneCell = true from q3)).2;refine (q28 yP w2 hg (hxx.imp (fun h => h.2) fun h => h.2)).mono ?_;rintro ⟨v, H'⟩ ⟨hv1, hH⟩;have hv1 : v = .tuple #[] := hv1;subst hv1
 have fin : ∀ H', Hp Tryz.prog Z H' (own m (qD (h.put k fun v => .cells 152 v [.ref k 0 2, c]).l)) -> Step Z H (own m (qD h.l)) Z H' (own m (qD (h.put k fun v => .cells 152 v [.ref k 0 2, c]).l)) -> KR nm.p (own m (qD h.l)) (own m (qD (h.put k fun v => .cells 152 v [.ref k 0 2, c]).l)) ->
  ∃ Z' m' pv ph', Hp Tryz.prog Z' H' (own m' ph') ∧ VR Tryz.prog Z' H' (own m' ph') pv (.tuple #[]) ∧ Step Z H (own m (qD h.l)) Z' H' (own m' ph') ∧ KR nm.p (own m (qD h.l)) (own m' ph') ∧ ∃ v' h', pv = v'.enc ∧ ph' = qD h'.l ∧ Post Tryz.prog h h' v' ∧ (K v' h').run = some r := fun H' a1 a2 a3 =>
  ⟨Z, m, .tup [], _, a1, .tup rfl fun i x v h => (by simp at h), a2, a3, .tup [], _, by simp [SV.enc, qA], rfl, ⟨hput.1, hput.2, by simp [SV.ok, okL]⟩, er⟩
 rcases hH with hH | ⟨hH, hxs⟩
 ·have hH : H' = H.put (m k) (.cells #[.pointer (some ⟨m k, 0, none⟩), y] 152 (0, 0)) := hH;subst hH;have hr2 : VRL Tryz.prog Z H (own m (qD h.l)) [.ref k 2 0, c.enc] [.pointer (some ⟨m k, 0, none⟩), y] := .cons hva (.cons hy .nil);obtain ⟨p1, p2, p3⟩ := hp.put (cs := [.ref k 2 0, c.enc]) hkp hreal q7R (by simp [SO.enc, qA]) hr2 (by simp [hyone]; rfl);rw [<- henc2] at p1 p2 p3;exact fin _ p1 p2 (p3 _)
 ·have hH : H' = H := hH;subst hH
  have hbt : bb = true := by
   rcases hxx with ⟨_, h2⟩ | ⟨h1, _⟩
   ·rw [h2] at hxs; cases hxs
   ·exact h1
  have hsame : own m (qD (h.put k fun v => .cells 152 v [.ref k 0 2, c]).l) = own m (qD h.l) := by
   rw [henc2]
   funext j
   unfold own;rw [zW];split
   ·rename_i hj;rw [hj.1, hkp];rw [hbt] at henc;simp [SO.enc, qA, henc, SV.enc]
   ·rfl
  refine fin _ ?_ ?_ ?_
  ·rw [hsame]; exact hp
  ·rw [hsame]; exact .refl _ _ _
  ·rw [hsame]; exact .refl _ _
theorem q5V {R : Type} {r : R} {nm : Nm} {az : List SV} {h : SH} {K : SV -> SH -> Tree R} (ho : OkH Tryz.prog h) (ha : okL h az) (e : (qYD az h K).run = some r) :
 qG2 Tryz.prog (zL 3) nm 120 (qA az) (qD h.l) fun v p => ∃ v' h', v = v'.enc ∧ p = qD h'.l ∧ Post Tryz.prog h h' v' ∧ (K v' h').run = some r := by
 unfold qYD at e;split at e
 case h_2 => cases e
 rename_i k off w
 -- what the object is
 have base : ∀ {w0 : Nat} {a c : SV}, slk k h.l = some (.cells 152 w0 [a, c]) -> ∀ (Z : Nat -> Prop) (H : IH) (m : Nat -> Nat) (iargs : List Value), Hp Tryz.prog Z H (own m (qD h.l)) -> VRL Tryz.prog Z H (own m (qD h.l)) (qA [.ref k 0 2]) iargs ->
  ∃ x y, iargs = [.pointer (some ⟨m k, 0, none⟩)] ∧ H.get (m k) = some (.cells #[x, y] 152 (0, 0)) ∧ VR Tryz.prog Z H (own m (qD h.l)) c.enc y := fun {w0 a c} hk Z H m iargs hp hv => by
  have hkp := xY hk;have hreal : real (SO.cells 152 w0 [a, c]).enc := fun q => by cases q.1
  have hv : VRL Tryz.prog Z H (own m (qD h.l)) [.ref k 2 0] iargs := by simpa [qA, SV.enc] using hv
  obtain ⟨va, rfl, hva⟩ := qU7 hv
  have hva' : va = .pointer (some ⟨m k, 0, none⟩) := by
   cases hva with
   | ref g1 g2 => exact ((g2 _ _ (qM hkp)).2 (by simp [SO.enc, zF])).1
  subst hva';obtain ⟨w1, w2, w3, vs, q1, q2, q3⟩ := hp.real hkp hreal q7R;have q2 : VRL Tryz.prog Z H (own m (qD h.l)) [a.enc, c.enc] vs := by simpa [SO.enc, qA] using q2
  obtain ⟨x, y, rfl, hx, hy⟩ := qV3 q2;exact ⟨x, y, rfl, q1, hy⟩
 split at e
 ·rename_i el w0 a kb g n hk;split at e
  case h_2 => cases e
  rename_i e2 g2 w2 xs hkb;obtain ⟨hc, e1⟩ := qF e;clear e;simp only [Bool.and_eq_true] at hc;obtain ⟨c1, c2, c3, c4, c5⟩ := hc;obtain rfl : off = 0 := Nat.eq_of_beq_eq_true c1;obtain rfl : w = 2 := Nat.eq_of_beq_eq_true c2;obtain rfl : el = 152 := Nat.eq_of_beq_eq_true c3;obtain rfl : e2 = 5 := Nat.eq_of_beq_eq_true c4;obtain rfl : g = g2 := Nat.eq_of_beq_eq_true c5
  rcases run_ite e1 with ⟨hle, er⟩ | ⟨_, er⟩
  case inr => cases er
  have hle : List.length xs <= 1048576 := Nat.le_of_ble_eq_true hle;have hcok := ho.cells _ _ _ _ hk;simp only [okL, SV.ok] at hcok;have hn : n = List.length xs := hcok.2.1.2 _ _ _ _ _ hkb;have hdel := nD (k := kb) ho;have hbp := xY hkb;have hfin : qD (h.del kb).l = pI kb (qD h.l) := dD kb _;refine .inr ⟨e120, fun Z H m iargs hp hbs hv => ?_⟩;obtain ⟨x, y, rfl, hg, hy⟩ := base hk Z H m iargs hp hv;have hy : VR Tryz.prog Z H (own m (qD h.l)) (.own kb n 0 n) y := by simpa [SV.enc] using hy
  have hown : qYT 1 (m kb) (SO.list 5 true g w2 (.int .u8) xs).enc n 0 n y := by
   cases hy with
   | own h1 h2 =>
     obtain ⟨sz, z1, _, _, z4⟩ := h2 _ _ (qM hbp);have z1 : szT Tryz.prog 5 = some sz := z1;rw [z5] at z1;cases z1;refine z4 ?_;rw [qV, hn];rfl
  have fin : ∀ H', Hp Tryz.prog Z H' (own m (pI kb (qD h.l))) -> Step Z H (own m (qD h.l)) Z H' (own m (pI kb (qD h.l))) -> KR nm.p (own m (qD h.l)) (own m (pI kb (qD h.l))) ->
   ∃ Z' m' pv ph', Hp Tryz.prog Z' H' (own m' ph') ∧ VR Tryz.prog Z' H' (own m' ph') pv (.string (bText xs)) ∧ Step Z H (own m (qD h.l)) Z' H' (own m' ph') ∧ KR nm.p (own m (qD h.l)) (own m' ph') ∧ ∃ v' h', pv = v'.enc ∧ ph' = qD h'.l ∧ Post Tryz.prog h h' v' ∧ (K v' h').run = some r := fun H' a1 a2 a3 =>
   ⟨Z, m, .f (.v (.string (bText xs))), _, a1, .f (.v rfl rfl), a2, a3, .d .str (bText xs), h.del kb, by simp [SV.enc, Ty.fv], hfin.symm, ⟨hdel.1, hdel.2, by simp [SV.ok]⟩, er⟩
  by_cases hx : xs = []
  ·have hn0 : n = 0 := by rw [hn, hx]; rfl
   rcases hown with ⟨_, _, _, _, hyv⟩ | ⟨h1, _⟩
   ·subst hyv;refine (qPO yP hg).mono ?_;rintro ⟨v, H'⟩ hr;obtain ⟨rfl, rfl⟩ : v = .string .empty ∧ H' = H := by simpa using hr
    obtain ⟨p1, p2, p3⟩ := q0G (k := kb) hp rfl rfl (fun _ _ => rfl) (.inl rfl);have := fin _ p1 p2 (p3 _);rw [hx] at this;exact this
   ·exact absurd hn0 (h1 rfl)
  ·have hreal : real (SO.list 5 true g w2 (.int .u8) xs).enc := fun q => by
    have := q.2;have hl := qV (el := 5) (gr := true) (g := g) (w := w2) (t := .int .u8) (xs := xs);rw [this] at hl;have hl : 0 = List.length xs * 1 := hl;exact hx (List.length_eq_zero_iff.1 (by omega))
   obtain ⟨w1, w3, w4, vs, q1, q2, q3⟩ := hp.real hbp hreal s5;have hvs : vs = List.map (Value.int .u8) xs := qJD q2;subst hvs;have q1 : H.get (m kb) = some (.cells (List.map (Value.int .u8) xs).toArray 5 qX) := q1;have hn0 : n ≠ 0 := fun h => hx (List.length_eq_zero_iff.1 (by omega))
   rcases hown with ⟨_, h1, _⟩ | ⟨_, _, _, hyv⟩
   ·exact absurd h1 hn0
   ·have hyv : y = .slice (some ⟨m kb, 0, some 5⟩) (List.length xs) (List.length xs) := by
     rw [hyv, hn];simp [SO.enc]
    subst hyv;refine (q3B yP hx hle w3 q1 hg).mono ?_;rintro ⟨v, H'⟩ hr;obtain ⟨rfl, rfl⟩ : v = .string (bText xs) ∧ H' = H.put (m kb) (.cells (List.map (Value.int .u8) xs).toArray 5 (0, 1)) := by simpa using hr
    obtain ⟨p1, p2, p3⟩ := q0G (H' := H.put (m kb) (.cells (List.map (Value.int .u8) xs).toArray 5 (0, 1))) (k := kb) hp rfl rfl (fun b hb => zT hb) (.inr ⟨_, hbp, hreal⟩);exact fin _ p1 p2 (p3 _)
 ·rename_i el w0 a hk;obtain ⟨hc, er⟩ := qF e;clear e;simp only [Bool.and_eq_true] at hc;obtain ⟨c1, c2, c3⟩ := hc;obtain rfl : off = 0 := Nat.eq_of_beq_eq_true c1;obtain rfl : w = 2 := Nat.eq_of_beq_eq_true c2;obtain rfl : el = 152 := Nat.eq_of_beq_eq_true c3;refine .inr ⟨e120, fun Z H m iargs hp hbs hv => ?_⟩;obtain ⟨x, y, rfl, hg, hy⟩ := base hk Z H m iargs hp hv;have hyv : y = .slice none 0 0 := zU hy rfl;subst hyv;refine (qPO yP hg).mono ?_;rintro ⟨v, H'⟩ hr;obtain ⟨rfl, rfl⟩ : v = .string .empty ∧ H' = H := by simpa using hr
  exact ⟨Z, m, .f (.v (.string (bText []))), _, hp, .f (.v rfl rfl), .refl _ _ _, .refl _ _, .d .str (bText []), h, by simp [SV.enc, Ty.fv], rfl, ⟨.refl _, ho, by simp [SV.ok]⟩, er⟩
 ·cases e
instance hndOkB : HndOk Tryz.prog (zL 3) := ⟨fun {_} => fun {R} nm f az h K r ho ha e => by
 have e : (cond (Nat.beq f 153) (qOB az h K) (cond (Nat.beq f 120) (qYD az h K) .fail)).run = some r := e
 cases h1 : Nat.beq f 153 with
 | true =>
   rw [h1] at e;rw [Nat.eq_of_beq_eq_true h1];exact q2L ho ha e
 | false =>
   rw [h1] at e
   cases h2 : Nat.beq f 120 with
   | true =>
     rw [h2] at e;rw [Nat.eq_of_beq_eq_true h2];exact q5V ho ha e
   | false => rw [h2] at e; cases e⟩
end
end Go.Proofs.YtpdlblofcdcikaaGreatDoor
