/- Replay, plainly. Conditions: none. -/
import Derived.Test.YtjboddididohgaaGreatDoorPR7
set_option linter.all false
set_option maxRecDepth 10000
namespace Go.Proofs.YtjboddididohgaaGreatDoor
open Go Go.Idl Go.Sv Go.Proofs
noncomputable section
def qDF (r : Rl) (s : St) (t : Tk) : Int := (zC2 (r, s, t)).getD 0
def xV (r : Rl) (n : Nat) (l : List Tk) : Nat -> List (Int × Int) × St
 | 0 => ([], st0 n)
 | k + 1 => if qDF r (xV r n l k).2 (l.getD k (0, 0, 0)) = 0 then ((xV r n l k).1, uX r (xV r n l k).2 (l.getD k (0, 0, 0))) else ((xV r n l k).1 ++ [(((k + 1 : Nat) : Int), qDF r (xV r n l k).2 (l.getD k (0, 0, 0)))], (xV r n l k).2)
theorem kL (r : Rl) (n : Nat) (l : List Tk) (k : Nat) : xV r n l (k + 1) = if qDF r (xV r n l k).2 (l.getD k (0, 0, 0)) = 0 then ((xV r n l k).1, uX r (xV r n l k).2 (l.getD k (0, 0, 0))) else ((xV r n l k).1 ++ [(((k + 1 : Nat) : Int), qDF r (xV r n l k).2 (l.getD k (0, 0, 0)))], (xV r n l k).2) := rfl
theorem qN1 {r : Rl} {s : St} {t : Tk} {n K : Nat} (hr : ROk r n) (hs : SOk s n) (hk : t.1 = (K : Int)) (hK : K < n) : zC2 (r, s, t) = some (qDF r s t) ∧ q4B (qKO r s t n K) (qDF r s t) := by
 obtain ⟨v, h1, h3⟩ := zAI hr hs hk hK;have : qDF r s t = v := by unfold qDF; rw [h1]; rfl
 rw [this];exact ⟨h1, h3⟩
theorem q4B.pos {p : zF9} {v : Int} (h : q4B p v) (hv : v ≠ 0) : 0 < v ∧ v <= 4 := by
 rcases h with ⟨rfl, _⟩ | ⟨rfl, _⟩ | ⟨rfl, _⟩ | ⟨rfl, _⟩ | ⟨rfl, _⟩ <;> first | omega | exact absurd rfl hv
theorem q9S {r : Rl} {s : St} {t : Tk} {n K : Nat} (hr : ROk r n) (h : q4B (qKO r s t n K) 0) : s.1.getD K 0 < r.2.2.2.1 + r.2.2.2.2 ∧ ¬ (qKO r s t n K).B ∧ ¬ (qKO r s t n K).D := by
 have q1 := hr.fu;have q2 := hr.ta;have hw2 : w64 (r.2.2.2.1 + r.2.2.2.2) = r.2.2.2.1 + r.2.2.2.2 := uQ (by omega) (by omega)
 rcases h with ⟨h, _⟩ | ⟨h, _⟩ | ⟨h, _⟩ | ⟨h, _⟩ | ⟨_, h, hB, _, hD⟩
 ·cases h
 ·cases h
 ·cases h
 ·cases h
 ·refine ⟨?_, hB, hD⟩;unfold qKO at h;simp only [hw2] at h;omega
theorem qGW {l : List Tk} {i : Nat} (h : i < l.length) : l.getD i (0, 0, 0) = l[i] := by
 rw [zK9, zKM h]; rfl
theorem fI {r : Rl} {n : Nat} (hr : ROk r n) {l : List Tk} (hl : ∀ (i : Nat) (h : i < l.length), qHE r l[i] = 0) : ∀ k, k <= l.length -> SOk (xV r n l k).2 n ∧ (xV r n l k).1.length <= k
 | 0, _ => ⟨q7P hr.hi, zKK _⟩
 | k + 1, hk => by
   obtain ⟨h1, h2⟩ := fI hr hl k (by omega);obtain ⟨K, hK1, hK2, _⟩ := qEV hr (hl k (by omega));have e := qGW (l := l) (i := k) (by omega);unfold xV;rw [e];split
   ·rename_i h;have h3 := (qN1 hr h1 hK1 hK2).2;rw [h] at h3;exact ⟨qPH hr h1 hK1 hK2 (q9S hr h3).1, Nat.le_succ_of_le h2⟩
   ·exact ⟨h1, by simp; omega⟩
theorem oJ {f : Tk -> Int} : ∀ {l : List Tk} {k : Nat} (hk : k < l.length), (∀ (j : Nat) (hj : j < l.length), j < k -> f l[j] = 0) -> f l[k] ≠ 0 -> fnz (l.map f) = f l[k]
 | [], k, hk, _, _ => by cases hk
 | x :: l, 0, _, _, h => by
   show cond (f x != 0) (f x) _ = f x;rw [bne_iff_ne.2 (show f x ≠ 0 from h)]; rfl
 | x :: l, k + 1, hk, hj, h => by
   have h0 : f x = 0 := hj 0 (by simp) (by omega);have hk' : k < l.length := by simpa using hk
   show cond (f x != 0) (f x) (fnz (l.map f)) = f l[k];rw [h0];exact oJ (l := l) (k := k) (by simpa using hk) (fun j h1 h2 => hj (j + 1) (by simpa using h1) (by omega)) h
theorem tN {f : Tk -> Int} : ∀ {l : List Tk}, (∀ (j : Nat) (hj : j < l.length), f l[j] = 0) -> fnz (l.map f) = 0
 | [], _ => rfl
 | x :: l, h => by
   have h0 : f x = 0 := h 0 (by simp);show cond (f x != 0) (f x) (fnz (l.map f)) = 0;rw [h0];exact tN fun j hj => h (j + 1) (by simpa using hj)
def qO9 (r : Rl) (l : List Tk) : Int := if 256 < l.length then 5 else fnz (l.map (qHE r))
theorem h19 {r : Rl} {n : Nat} (hr : ROk r n) (l : List Tk) : H19 (r, l) = some (qO9 r l) := by
 refine OkT.eq ?_;show OkT (G19 r l) _;unfold G19 qO9;refine qZ (fun a => qD ?_) fun a => ?_
 ·simp at a;rw [if_pos (by omega)]
 simp at a;rw [if_neg (by omega)];refine fF l.length (fun k => ∃ h : k < l.length, qHE r l[k] ≠ 0) (fun k => .inr (.inl (qHE r (l.getD k (0, 0, 0))))) (.inl (l.length : Int)) ?_ ?_ ?_ ?_
 ·intro k hk;refine gQ (qHB (by omega)) (zD k rfl hk (zF hk (qP (h96 hr _).2 (qZ (fun b => qD (.inl ⟨⟨hk, bne_iff_ne.1 b⟩, ?_⟩)) fun b => qD (.inr ⟨?_, ?_⟩)))))
  ·rw [qGW hk]
  ·rintro ⟨_, h⟩;rw [bne_iff_ne.2 h] at b;cases b
  ·rw [fD (by omega)]
 ·exact wP (qIC (by omega)) (qD rfl)
 ·rintro k hk ⟨_, hp⟩ hj;refine qD ?_;rw [qGW hk];exact (oJ hk (fun j h1 h2 => Classical.byContradiction fun h => hj j h2 ⟨h1, h⟩) hp).symm
 ·intro hn;exact qD (tN fun j hj => Classical.byContradiction fun h => hn j hj ⟨hj, h⟩).symm
theorem qU4 {r : Rl} {l : List Tk} (h : qO9 r l = 0) : l.length <= 256 ∧ ∀ (i : Nat) (h : i < l.length), qHE r l[i] = 0 := by
 unfold qO9 at h;split at h
 ·cases h
 ·refine ⟨by omega, fun i => ?_⟩
  induction i using Nat.strongRecOn with
  | ind i ih =>
    intro hi;refine Classical.byContradiction fun hne => ?_
    rw [oJ hi (fun j h1 h2 => ih j h2 h1) hne] at h;exact hne h
theorem h17 {r : Rl} {n : Nat} (hr : ROk r n) (h18 : H18 r = some 0) (l : List Tk) : (qO9 r l = 0 -> H17 (r, l) = some ((xV r n l l.length).2, (xV r n l l.length).1, 0)) ∧ (qO9 r l ≠ 0 -> H17 (r, l) = some (([], []), [], qO9 r l)) := by
 have h84 : H84 r = some 0 := (n84 r).trans h18;constructor
 ·intro h;obtain ⟨zGA, hl⟩ := qU4 h;refine OkT.eq ?_;show OkT (G17 r l) _;unfold G17;rw [e95];refine qP h84 (qP rfl (qP (qRP (by simp)) (wP (by rw [q27, decide_eq_false (by omega)]; rfl) ?_)));refine fF l.length (fun _ => False) (fun _ => .inr (.inl (([], []), [], 0))) (.inl (l.length : Int)) ?_ (wP (qIC (by omega)) (qD rfl)) (fun _ _ h => h.elim) fun _ => ?_
  ·intro k hk;refine gQ (qHB (by omega)) (zD k rfl hk (zF hk (qP (h96 hr _).1 (wP (by rw [hl k hk]; rfl) (qD (.inr ⟨id, ?_⟩))))));rw [fD (by omega)]
  refine qP (h97 hr) (qP (a := ((xV r n l l.length).1, (l.length : Int), (xV r n l l.length).2)) (OkT.eq ?_) (qD rfl));unfold zE1 zAN.run;unfold zHA;refine qP (h97 hr) ?_;refine qCB l.length (fun k (s : List (Int × Int) × St) => ((s.1, (k : Int), s.2.1, s.2.2), (k : Int), s.2.1, s.2.2)) (fun k s => s = xV r n l k) ([], st0 n) rfl rfl ?_ ?_
  ·rintro k s hk rfl;obtain ⟨h1, h2⟩ := fI hr hl k (by omega);obtain ⟨K, hK1, hK2, _⟩ := qEV hr (hl k hk);have e := qGW hk;have hw : IntKind.i64.wrap ((k : Int) + 1) = ((k + 1 : Nat) : Int) := fD (by omega);have hL := qN1 hr h1 hK1 hK2;refine gQ (qHB (by simp only; omega)) (zD k rfl hk (zF hk (qP hL.1 (qZ (fun b => ?_) fun b => ?_))))
   ·have b : qDF r (xV r n l k).2 l[k] = 0 := by simpa using b
    refine qP (q60 hr h1 hK1 hK2) (qP (a := (((xV r n l k).1, ((k + 1 : Nat) : Int), uX r (xV r n l k).2 l[k]), true)) ?_ (wP rfl (qD ⟨((xV r n l k).1, uX r (xV r n l k).2 l[k]), by simp only [hw], ?_⟩)))
    ·refine OkT.eq (wP (by rw [b]; rfl) (qD ?_));simp only [hw]
    ·rw [kL, e, if_pos b]
   ·have b : qDF r (xV r n l k).2 l[k] ≠ 0 := by simpa using b
    have hp := hL.2.pos b;refine qP (a := (((xV r n l k).1 ++ [(((k + 1 : Nat) : Int), qDF r (xV r n l k).2 l[k])], ((k + 1 : Nat) : Int), (xV r n l k).2), true)) ?_ (wP rfl (qD ⟨((xV r n l k).1 ++ [(((k + 1 : Nat) : Int), qDF r (xV r n l k).2 l[k])], (xV r n l k).2), by simp only [hw], ?_⟩))
    ·refine OkT.eq (gQ (decide_eq_true hp.1) (gQ (zK4 (by simp; omega)) (qD ?_)));simp only [hw]
    ·rw [kL, e, if_neg b]
  ·rintro s rfl;exact wP (qIC (by simp only; omega)) (qD ⟨_, rfl, qD rfl⟩)
 ·intro h;refine OkT.eq ?_;show OkT (G17 r l) _;unfold G17;rw [e95];refine qP h84 (qP rfl (qP (qRP (by simp)) (qZ (fun a => qD ?_) fun a => ?_)))
  ·rw [q27] at a ⊢
   cases hd : decide (256 < (l.length : Int)) with
   | true =>
     have := of_decide_eq_true hd;have hc : qO9 r l = 5 := by unfold qO9; rw [if_pos (by omega)]
     rw [hc]; rfl
   | false => rw [hd] at a; cases a
  have zGA : ¬ 256 < l.length := by
   intro h2;rw [q27, decide_eq_true (by omega)] at a;cases a
  refine fF l.length (fun k => ∃ h : k < l.length, qHE r l[k] ≠ 0) (fun k => .inr (.inl (([], []), [], qHE r (l.getD k (0, 0, 0))))) (.inl (l.length : Int)) ?_ (wP (qIC (by omega)) (qD rfl)) ?_ ?_
  ·intro k hk;refine gQ (qHB (by omega)) (zD k rfl hk (zF hk (qP (h96 hr _).1 (qZ (fun b => qD (.inl ⟨⟨hk, bne_iff_ne.1 b⟩, ?_⟩)) fun b => qD (.inr ⟨?_, ?_⟩)))))
   ·rw [qGW hk]
   ·rintro ⟨_, h⟩;rw [bne_iff_ne.2 h] at b;cases b
   ·rw [fD (by omega)]
  ·rintro k hk ⟨_, hp⟩ hj;refine qD ?_;unfold qO9;rw [if_neg zGA, qGW hk, oJ hk (fun j h1 h2 => Classical.byContradiction fun h => hj j h2 ⟨h1, h⟩) hp]
  ·intro hn;refine absurd ?_ h;unfold qO9;rw [if_neg zGA];exact tN fun j hj => Classical.byContradiction fun h => hn j hj ⟨hj, h⟩
end
end Go.Proofs.YtjboddididohgaaGreatDoor
