/- Replay, plainly. Conditions: none. -/
import Derived.Test.YtjboddididohgaaGreatDoorPR7
set_option linter.all false
set_option maxRecDepth 10000
namespace Go.Proofs.YtjboddididohgaaGreatDoor
open Go Go.Idl Go.Sv Go.Proofs
noncomputable section
def qKH (r : Rl) (s : St) (t : Tk) : Int := (zD2 (r, s, t)).getD 0
def vK (r : Rl) (n : Nat) (l : List Tk) : Nat -> List (Int × Int) × St
 | 0 => ([], st0 n)
 | k + 1 => if qKH r (vK r n l k).2 (l.getD k (0, 0, 0)) = 0 then ((vK r n l k).1, nP r (vK r n l k).2 (l.getD k (0, 0, 0))) else ((vK r n l k).1 ++ [(((k + 1 : Nat) : Int), qKH r (vK r n l k).2 (l.getD k (0, 0, 0)))], (vK r n l k).2)
theorem mK (r : Rl) (n : Nat) (l : List Tk) (k : Nat) : vK r n l (k + 1) = if qKH r (vK r n l k).2 (l.getD k (0, 0, 0)) = 0 then ((vK r n l k).1, nP r (vK r n l k).2 (l.getD k (0, 0, 0))) else ((vK r n l k).1 ++ [(((k + 1 : Nat) : Int), qKH r (vK r n l k).2 (l.getD k (0, 0, 0)))], (vK r n l k).2) := rfl
theorem qVX {r : Rl} {s : St} {t : Tk} {n K : Nat} (hr : ROk r n) (hs : SOk s n) (hk : t.1 = (K : Int)) (hK : K < n) : zD2 (r, s, t) = some (qKH r s t) ∧ qRC (rC r s t n K) (qKH r s t) := by
 obtain ⟨v, h1, h3⟩ := q9W hr hs hk hK;have : qKH r s t = v := by unfold qKH; rw [h1]; rfl
 rw [this];exact ⟨h1, h3⟩
theorem q6J {r : Rl} {s : St} {t : Tk} {n K : Nat} (hr : ROk r n) (hs : SOk s n) (hk : t.1 = (K : Int)) (hK : K < n) : H89 (r, s, t) = some (qKH r s t) := by
 obtain ⟨w, h3, h4⟩ := h89 hr hs hk hK;rw [h3, h4.uniq (qVX hr hs hk hK).2]
theorem qRC.pos {p : zES} {v : Int} (h : qRC p v) (hv : v ≠ 0) : 0 < v ∧ v <= 4 := by
 rcases h with ⟨rfl, _⟩ | ⟨rfl, _⟩ | ⟨rfl, _⟩ | ⟨rfl, _⟩ | ⟨rfl, _⟩ <;> first | omega | exact absurd rfl hv
theorem q91 {r : Rl} {s : St} {t : Tk} {n K : Nat} (hr : ROk r n) (h : qRC (rC r s t n K) 0) : s.1.getD K 0 < r.2.2.2.1 + r.2.2.2.2 ∧ ¬ (rC r s t n K).B ∧ ¬ (rC r s t n K).D := by
 have q1 := hr.fu;have q2 := hr.ta;have hw2 : w64 (r.2.2.2.1 + r.2.2.2.2) = r.2.2.2.1 + r.2.2.2.2 := qV1 (by omega) (by omega)
 rcases h with ⟨h, _⟩ | ⟨h, _⟩ | ⟨h, _⟩ | ⟨h, _⟩ | ⟨_, h, hB, _, hD⟩
 ·cases h
 ·cases h
 ·cases h
 ·cases h
 ·refine ⟨?_, hB, hD⟩;unfold rC at h;simp only [hw2] at h;omega
theorem qL8 {l : List Tk} {i : Nat} (h : i < l.length) : l.getD i (0, 0, 0) = l[i] := by
 rw [zLM, zJ9 h]; rfl
theorem dF {r : Rl} {n : Nat} (hr : ROk r n) {l : List Tk} (hl : ∀ (i : Nat) (h : i < l.length), qQU r l[i] = 0) : ∀ k, k <= l.length -> SOk (vK r n l k).2 n ∧ (vK r n l k).1.length <= k
 | 0, _ => ⟨q6V hr.hi, zJ7 _⟩
 | k + 1, hk => by
   obtain ⟨h1, h2⟩ := dF hr hl k (by omega);obtain ⟨K, hK1, hK2, _⟩ := qMA hr (hl k (by omega));have e := qL8 (l := l) (i := k) (by omega);unfold vK;rw [e];split
   ·rename_i h;have h3 := (qVX hr h1 hK1 hK2).2;rw [h] at h3;exact ⟨qZP hr h1 hK1 hK2 (q91 hr h3).1, Nat.le_succ_of_le h2⟩
   ·exact ⟨h1, by simp; omega⟩
theorem mQ {f : Tk -> Int} : ∀ {l : List Tk} {k : Nat} (hk : k < l.length), (∀ (j : Nat) (hj : j < l.length), j < k -> f l[j] = 0) -> f l[k] ≠ 0 -> fnz (l.map f) = f l[k]
 | [], k, hk, _, _ => by cases hk
 | x :: l, 0, _, _, h => by
   show cond (f x != 0) (f x) _ = f x;rw [bne_iff_ne.2 (show f x ≠ 0 from h)]; rfl
 | x :: l, k + 1, hk, hj, h => by
   have h0 : f x = 0 := hj 0 (by simp) (by omega);have hk' : k < l.length := by simpa using hk
   show cond (f x != 0) (f x) (fnz (l.map f)) = f l[k];rw [h0];exact mQ (l := l) (k := k) (by simpa using hk) (fun j h1 h2 => hj (j + 1) (by simpa using h1) (by omega)) h
theorem qFS {f : Tk -> Int} : ∀ {l : List Tk}, (∀ (j : Nat) (hj : j < l.length), f l[j] = 0) -> fnz (l.map f) = 0
 | [], _ => rfl
 | x :: l, h => by
   have h0 : f x = 0 := h 0 (by simp);show cond (f x != 0) (f x) (fnz (l.map f)) = 0;rw [h0];exact qFS fun j hj => h (j + 1) (by simpa using hj)
def qPR (r : Rl) (l : List Tk) : Int := if 256 < l.length then 5 else fnz (l.map (qQU r))
theorem h19 {r : Rl} {n : Nat} (hr : ROk r n) (l : List Tk) : H19 (r, l) = some (qPR r l) := by
 refine OkT.eq ?_;show OkT (G19 r l) _;unfold G19 qPR;refine zD (fun a => qE ?_) fun a => ?_
 ·simp at a;rw [if_pos (by omega)]
 simp at a;rw [if_neg (by omega)];refine pF l.length (fun k => ∃ h : k < l.length, qQU r l[k] ≠ 0) (fun k => .inr (.inl (qQU r (l.getD k (0, 0, 0))))) (.inl (l.length : Int)) ?_ ?_ ?_ ?_
 ·intro k hk;refine bS (qMT (by omega)) (zX k rfl hk (zZ hk (zK (h96 hr _).2 (zD (fun b => qE (.inl ⟨⟨hk, bne_iff_ne.1 b⟩, ?_⟩)) fun b => qE (.inr ⟨?_, ?_⟩)))))
  ·rw [qL8 hk]
  ·rintro ⟨_, h⟩;rw [bne_iff_ne.2 h] at b;cases b
  ·rw [nW (by omega)]
 ·exact eZ (qOU (by omega)) (qE rfl)
 ·rintro k hk ⟨_, hp⟩ hj;refine qE ?_;rw [qL8 hk];exact (mQ hk (fun j h1 h2 => Classical.byContradiction fun h => hj j h2 ⟨h1, h⟩) hp).symm
 ·intro hn;exact qE (qFS fun j hj => Classical.byContradiction fun h => hn j hj ⟨hj, h⟩).symm
theorem qMJ {r : Rl} {l : List Tk} (h : qPR r l = 0) : l.length <= 256 ∧ ∀ (i : Nat) (h : i < l.length), qQU r l[i] = 0 := by
 unfold qPR at h;split at h
 ·cases h
 ·refine ⟨by omega, fun i => ?_⟩
  induction i using Nat.strongRecOn with
  | ind i ih =>
    intro hi;refine Classical.byContradiction fun hne => ?_
    rw [mQ hi (fun j h1 h2 => ih j h2 h1) hne] at h;exact hne h
theorem h20 {r : Rl} {n : Nat} (hr : ROk r n) {l : List Tk} (h : qPR r l = 0) : H20 (r, l) = some ((vK r n l l.length).2, (vK r n l l.length).1) := by
 obtain ⟨zD6, hl⟩ := qMJ h;refine OkT.eq ?_;show OkT (G20 r l) _;unfold G20;refine zK (h85 hr) ?_;refine qAT l.length (fun k (s : List (Int × Int) × St) => ((k : Int), s.1, s.2.1, s.2.2)) (fun k s => s = vK r n l k) ([], st0 n) rfl rfl ?_ ?_
 ·rintro k s hk rfl;obtain ⟨h1, h2⟩ := dF hr hl k (by omega);obtain ⟨K, hK1, hK2, _⟩ := qMA hr (hl k hk);have e := qL8 hk;have hw : IntKind.i64.wrap ((k : Int) + 1) = ((k + 1 : Nat) : Int) := nW (by omega);refine bS (qMT (by simp only; omega)) (zX k rfl hk (zZ hk (zK (q6J hr h1 hK1 hK2) (zD (fun b => bS (zKN (by simp; omega)) (qE ⟨((vK r n l k).1 ++ [(((k + 1 : Nat) : Int), qKH r (vK r n l k).2 l[k])], (vK r n l k).2), by simp only [hw], ?_⟩)) fun b => zX k rfl hk (zZ hk (zK (q8U hr h1 hK1 hK2) (qE ⟨((vK r n l k).1, nP r (vK r n l k).2 l[k]), by simp only [hw], ?_⟩)))))))
  ·have b := bne_iff_ne.1 b;rw [mK, e, if_neg b]
  ·have b : qKH r (vK r n l k).2 l[k] = 0 := by simpa using b
   rw [mK, e, if_pos b]
 ·rintro s rfl;exact eZ (qOU (by simp only; omega)) (qE ⟨_, rfl, qE rfl⟩)
theorem h17 {r : Rl} {n : Nat} (hr : ROk r n) (h18 : H18 r = some 0) (l : List Tk) : (qPR r l = 0 -> H17 (r, l) = some ((vK r n l l.length).2, (vK r n l l.length).1, 0)) ∧ (qPR r l ≠ 0 -> H17 (r, l) = some (([], []), [], qPR r l)) := by
 have h84 : H84 r = some 0 := (n84 r).trans h18;constructor
 ·intro h;obtain ⟨zD6, hl⟩ := qMJ h;refine OkT.eq ?_;show OkT (G17 r l) _;unfold G17;rw [e95];refine zK h84 (zK rfl (zK (q6E (by simp)) (eZ (by rw [q5W, decide_eq_false (by omega)]; rfl) ?_)));refine pF l.length (fun _ => False) (fun _ => .inr (.inl (([], []), [], 0))) (.inl (l.length : Int)) ?_ (eZ (qOU (by omega)) (qE rfl)) (fun _ _ h => h.elim) fun _ => ?_
  ·intro k hk;refine bS (qMT (by omega)) (zX k rfl hk (zZ hk (zK (h96 hr _).1 (eZ (by rw [hl k hk]; rfl) (qE (.inr ⟨id, ?_⟩))))));rw [nW (by omega)]
  refine zK (h97 hr) (zK (a := ((vK r n l l.length).1, (l.length : Int), (vK r n l l.length).2)) (OkT.eq ?_) (qE rfl));unfold zEN q98.run;unfold zGX;refine zK (h97 hr) ?_;refine qAT l.length (fun k (s : List (Int × Int) × St) => ((s.1, (k : Int), s.2.1, s.2.2), (k : Int), s.2.1, s.2.2)) (fun k s => s = vK r n l k) ([], st0 n) rfl rfl ?_ ?_
  ·rintro k s hk rfl;obtain ⟨h1, h2⟩ := dF hr hl k (by omega);obtain ⟨K, hK1, hK2, _⟩ := qMA hr (hl k hk);have e := qL8 hk;have hw : IntKind.i64.wrap ((k : Int) + 1) = ((k + 1 : Nat) : Int) := nW (by omega);have hL := qVX hr h1 hK1 hK2;refine bS (qMT (by simp only; omega)) (zX k rfl hk (zZ hk (zK hL.1 (zD (fun b => ?_) fun b => ?_))))
   ·have b : qKH r (vK r n l k).2 l[k] = 0 := by simpa using b
    refine zK (q74 hr h1 hK1 hK2) (zK (a := (((vK r n l k).1, ((k + 1 : Nat) : Int), nP r (vK r n l k).2 l[k]), true)) ?_ (eZ rfl (qE ⟨((vK r n l k).1, nP r (vK r n l k).2 l[k]), by simp only [hw], ?_⟩)))
    ·refine OkT.eq (eZ (by rw [b]; rfl) (qE ?_));simp only [hw]
    ·rw [mK, e, if_pos b]
   ·have b : qKH r (vK r n l k).2 l[k] ≠ 0 := by simpa using b
    have hp := hL.2.pos b;refine zK (a := (((vK r n l k).1 ++ [(((k + 1 : Nat) : Int), qKH r (vK r n l k).2 l[k])], ((k + 1 : Nat) : Int), (vK r n l k).2), true)) ?_ (eZ rfl (qE ⟨((vK r n l k).1 ++ [(((k + 1 : Nat) : Int), qKH r (vK r n l k).2 l[k])], (vK r n l k).2), by simp only [hw], ?_⟩))
    ·refine OkT.eq (bS (decide_eq_true hp.1) (bS (zKN (by simp; omega)) (qE ?_)));simp only [hw]
    ·rw [mK, e, if_neg b]
  ·rintro s rfl;exact eZ (qOU (by simp only; omega)) (qE ⟨_, rfl, qE rfl⟩)
 ·intro h;refine OkT.eq ?_;show OkT (G17 r l) _;unfold G17;rw [e95];refine zK h84 (zK rfl (zK (q6E (by simp)) (zD (fun a => qE ?_) fun a => ?_)))
  ·rw [q5W] at a ⊢
   cases hd : decide (256 < (l.length : Int)) with
   | true =>
     have := of_decide_eq_true hd;have hc : qPR r l = 5 := by unfold qPR; rw [if_pos (by omega)]
     rw [hc]; rfl
   | false => rw [hd] at a; cases a
  have zD6 : ¬ 256 < l.length := by
   intro h2;rw [q5W, decide_eq_true (by omega)] at a;cases a
  refine pF l.length (fun k => ∃ h : k < l.length, qQU r l[k] ≠ 0) (fun k => .inr (.inl (([], []), [], qQU r (l.getD k (0, 0, 0))))) (.inl (l.length : Int)) ?_ (eZ (qOU (by omega)) (qE rfl)) ?_ ?_
  ·intro k hk;refine bS (qMT (by omega)) (zX k rfl hk (zZ hk (zK (h96 hr _).1 (zD (fun b => qE (.inl ⟨⟨hk, bne_iff_ne.1 b⟩, ?_⟩)) fun b => qE (.inr ⟨?_, ?_⟩)))))
   ·rw [qL8 hk]
   ·rintro ⟨_, h⟩;rw [bne_iff_ne.2 h] at b;cases b
   ·rw [nW (by omega)]
  ·rintro k hk ⟨_, hp⟩ hj;refine qE ?_;unfold qPR;rw [if_neg zD6, qL8 hk, mQ hk (fun j h1 h2 => Classical.byContradiction fun h => hj j h2 ⟨h1, h⟩) hp]
  ·intro hn;refine absurd ?_ h;unfold qPR;rw [if_neg zD6];exact qFS fun j hj => Classical.byContradiction fun h => hn j hj ⟨hj, h⟩
end
end Go.Proofs.YtjboddididohgaaGreatDoor
