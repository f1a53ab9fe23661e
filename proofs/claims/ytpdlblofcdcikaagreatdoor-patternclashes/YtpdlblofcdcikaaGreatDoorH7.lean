/- Contract of clash. Conditions: none. -/
import Derived.Test.YtpdlblofcdcikaaGreatDoorL3
set_option linter.unusedSimpArgs false
set_option linter.unusedVariables false
namespace Go.Proofs.YtpdlblofcdcikaaGreatDoor
open Go.Idl

theorem ag83 : aggT Tryz.prog 83 = some true := by kernel_rfl
theorem sz83 : szT Tryz.prog 83 = some 2 := by kernel_rfl
theorem ag84 : aggT Tryz.prog 84 = some true := by kernel_rfl
theorem sz84 : szT Tryz.prog 84 = some 4 := by kernel_rfl
theorem ag122 : aggT Tryz.prog 122 = some false := by kernel_rfl
theorem sz122 : szT Tryz.prog 122 = some 1 := by kernel_rfl
theorem ag4 : aggT Tryz.prog 4 = some false := by kernel_rfl
theorem sz4 : szT Tryz.prog 4 = some 1 := by kernel_rfl
theorem sz133 : szT Tryz.prog 133 = some 3 := by kernel_rfl
theorem al83 (H : IH) : ialloc Tryz.prog 83 H = some (.val (.pointer (some ⟨H.size, 0, none⟩)) (H.push (.cells #[.int .i64 0, .int .i64 0] 83))) := by kernel_rfl
theorem al84 (H : IH) : ialloc Tryz.prog 84 H = some (.val (.pointer (some ⟨H.size, 0, none⟩)) (H.push (.cells #[.int .i64 0, .int .i64 0, .int .i64 0, .int .i64 0] 84))) := by kernel_rfl
theorem al122 (H : IH) : ialloc Tryz.prog 122 H = some (.val (.pointer (some ⟨H.size, 0, none⟩)) (H.push (.cells #[.map none] 122))) := by kernel_rfl
theorem al4 (H : IH) : ialloc Tryz.prog 4 H = some (.val (.pointer (some ⟨H.size, 0, none⟩)) (H.push (.cells #[.bool false] 4))) := by kernel_rfl
theorem al133 (H : IH) : ialloc Tryz.prog 133 H = some (.val (.pointer (some ⟨H.size, 0, none⟩)) (H.push (.cells #[.int .i64 0, .int .i64 0, .int .i64 0] 133))) := by kernel_rfl
theorem f133_0 (b : Nat) : ifieldAt Tryz.prog 133 (.pointer (some ⟨b, 0, none⟩)) 0 = some (.pointer (some ⟨b, 0, none⟩)) := by kernel_rfl
theorem f133_1 (b : Nat) : ifieldAt Tryz.prog 133 (.pointer (some ⟨b, 0, none⟩)) 1 = some (.pointer (some ⟨b, 2, none⟩)) := by kernel_rfl
theorem ix83_0 (b o : Nat) : iindexAt Tryz.prog 83 (.pointer (some ⟨b, o, none⟩)) (.int .i64 0) = some (.pointer (some ⟨b, o + 0, none⟩)) := by kernel_rfl
theorem ix83_00 (b : Nat) : iindexAt Tryz.prog 83 (.pointer (some ⟨b, 0, none⟩)) (.int .i64 0) = some (.pointer (some ⟨b, 0, none⟩)) := by kernel_rfl
theorem ix83_01 (b : Nat) : iindexAt Tryz.prog 83 (.pointer (some ⟨b, 0, none⟩)) (.int .i64 1) = some (.pointer (some ⟨b, 1, none⟩)) := by kernel_rfl
theorem ex22 {a : Array Value} {b : Value} {H : IH} : iextract (.tuple #[.agg a, b]) 0 H = some (.val (.agg a) H) := rfl
theorem ex23 {a : Value} {b : Bool} {H : IH} : iextract (.tuple #[a, .bool b]) 1 H = some (.val (.bool b) H) := rfl
theorem ix83_1 (b o : Nat) : iindexAt Tryz.prog 83 (.pointer (some ⟨b, o, none⟩)) (.int .i64 1) = some (.pointer (some ⟨b, o + 1, none⟩)) := by kernel_rfl
theorem bd84 (a b c d : Int) : ibuild Tryz.prog 84 [(0, .agg #[.int .i64 a, .int .i64 b]), (1, .agg #[.int .i64 c, .int .i64 d])] = some (.agg #[.int .i64 a, .int .i64 b, .int .i64 c, .int .i64 d]) := by kernel_rfl
theorem bd84z : ibuild Tryz.prog 84 [] = some (.agg #[.int .i64 0, .int .i64 0, .int .i64 0, .int .i64 0]) := by kernel_rfl
theorem ib25 (a : Option Addr) (n c : Nat) (H : IH) : ibox 25 (.slice a n c) H = some (.val (.pointer (some ⟨H.size, 0, none⟩)) (H.push (.cells #[.slice a n c] 25))) := rfl
theorem mkm (H : IH) : imakeMap none H = some (.val (.map (some H.size)) (H.push (.map #[] 0))) := rfl
/-- the cell with a number -/
def atK (w t : Nat) : Nat × Nat := (t / w, t % w)
def atV (w t : Nat) : Value := .agg #[.int .i64 ((t / w : Nat) : Int), .int .i64 ((t % w : Nat) : Int)]
def strK (ss fs : List Int) (w t : Nat) : Int := cellK ss fs (t / w) (t % w)
/-- the colour of a cell -/
def colK (p : List (List Int)) (w t : Nat) : Int := (p.getD (t / w) []).getD (t % w) 0
/-- the cell agrees with the first one that shows its strand -/
def okT (ss fs : List Int) (p : List (List Int)) (w t : Nat) : Prop := colK p w (fstC (strK ss fs w) t) = colK p w t
def clashV (w a b : Nat) : Value := .agg #[.int .i64 ((a / w : Nat) : Int), .int .i64 ((a % w : Nat) : Int), .int .i64 ((b / w : Nat) : Int), .int .i64 ((b % w : Nat) : Int)]
def zero84 : Value := .agg #[.int .i64 0, .int .i64 0, .int .i64 0, .int .i64 0]

/-! 94: clash -/
def pre94 (x : ((Value × Value) × (List Int × List Int)) × Value × List (List Int)) (args : List Value) (H : IH) : Prop := args = [.agg #[x.1.1.1, x.1.1.2], x.2.1] ∧ SchemeIn H x.1.1.1 x.1.1.2 x.1.2.1 x.1.2.2 ∧
  (∃ rs, picOf H x.2.1 = some rs ∧ rs.map (·.2) = x.2.2) ∧ x.2.2.length ≤ 24 ∧ (∀ zs ∈ x.2.2, zs.length = x.1.2.1.length) ∧ 0 < x.1.2.1.length
/-- the first clash, or none -/
def IsClash (ss fs : List Int) (p : List (List Int)) (w n : Nat) (v : Value) (is : Bool) : Prop :=
  (is = false ∧ v = zero84 ∧ ∀ t, t < n * w → okT ss fs p w t) ∨ (is = true ∧ ∃ t, t < n * w ∧ (∀ s, s < t → okT ss fs p w s) ∧ ¬ okT ss fs p w t ∧ v = clashV w (fstC (strK ss fs w) t) t)
def post94 (x : ((Value × Value) × (List Int × List Int)) × Value × List (List Int)) (H : IH) (v : Value) (H' : IH) : Prop := Old H H' ∧ ∃ cv bm is, v = .tuple #[cv, .map (some bm), .bool is] ∧ IsClash x.1.2.1 x.1.2.2 x.2.2 x.1.2.1.length x.2.2.length cv is
theorem uniq94 (x y : ((Value × Value) × (List Int × List Int)) × Value × List (List Int)) (args : List Value) (H : IH) (hx : pre94 x args H) (hy : pre94 y args H) : x = y := by
  obtain ⟨⟨⟨a, b⟩, ⟨s, f⟩⟩, p, zs⟩ := x
  obtain ⟨⟨⟨a', b'⟩, ⟨s', f'⟩⟩, p', zs'⟩ := y
  have h1 := hx.1.symm.trans hy.1
  simp at h1
  obtain ⟨⟨rfl, rfl⟩, rfl⟩ := h1
  have h4 := hx.2.1.sz.symm.trans hy.2.1.sz
  have h5 := hx.2.1.fz.symm.trans hy.2.1.fz
  simp at h4 h5
  subst h4 h5
  obtain ⟨rs, h6, h7⟩ := hx.2.2.1
  obtain ⟨rs', h8, h9⟩ := hy.2.2.1
  simp only at h6 h7 h8 h9
  rw [h6] at h8
  cases h8
  rw [← h7, ← h9]
noncomputable def hat7 : Nats := addS hat6 94 pre94 post94
theorem resC3 {fn : Func} {s t u : Tmp} {ts tt tu : TypeId} {env : Env} {H : IH} {a b c : Value} (hr : fn.results = #[.cell s ts, .cell t tt, .cell u tu]) (h1 : iloadAt Tryz.prog ts ((nthR env s).getD undef) H = some a) (h2 : iloadAt Tryz.prog tt ((nthR env t).getD undef) H = some b) (h3 : iloadAt Tryz.prog tu ((nthR env u).getD undef) H = some c) :
    iresults Tryz.prog fn env H = some (.tuple #[a, b, c]) := by
  unfold iresults
  rw [hr]
  simp [iresL, ires1, h1, h2, h3, one]
theorem ent145 : entered Tryz.prog 145 = true := by kernel_rfl
set_option maxHeartbeats 2000000 in
set_option maxRecDepth 20000 in
theorem setH7 : Setup Tryz.prog good hat7 (globG 3) := setH6.addS pre94 post94 fun x args H ⟨ha, hin, ⟨rs, hpic, hrs⟩, hn24, hpl, hw0⟩ => by
  obtain ⟨⟨⟨sv, fv⟩, ⟨ss, fs⟩⟩, pv, zss⟩ := x
  simp only at ha hin hpic hrs hn24 hpl hw0
  subst ha
  obtain ⟨ap, cp, rfl, hrl, _⟩ := picOf_inv hpic
  refine CallI.of Tryz.func94 rfl (N := 59) rfl ?_
  show Holds _ _ false _ [.agg #[sv, fv], .slice ap rs.length cp, undef, undef, undef, undef, undef, undef, undef, undef, undef, undef, undef, undef, undef, undef, undef, undef, undef, undef, undef, undef, undef, undef, undef, undef, undef, undef, undef, undef, undef, undef, undef, undef, undef, undef, undef, undef, undef, undef, undef, undef, undef, undef, undef, undef, undef, undef, undef, undef, undef, undef, undef, undef, undef, undef, undef, undef, undef] H _
  have zz1 : (H.push (.cells #[sv, fv] 117)).size = H.size + 1 := rfl
  have zz2 : ((H.push (.cells #[sv, fv] 117)).push (.cells #[.slice ap rs.length cp] 25)).size = H.size + 2 := rfl
  have zz3 : (((H.push (.cells #[sv, fv] 117)).push (.cells #[.slice ap rs.length cp] 25)).push (.cells #[.int .i64 0, .int .i64 0, .int .i64 0, .int .i64 0] 84)).size = H.size + 3 := rfl
  have zz4 : ((((H.push (.cells #[sv, fv] 117)).push (.cells #[.slice ap rs.length cp] 25)).push (.cells #[.int .i64 0, .int .i64 0, .int .i64 0, .int .i64 0] 84)).push (.cells #[.map none] 122)).size = H.size + 4 := rfl
  refine setH6.regE 0 (by kernel_rfl) (by simp only [List.map_cons, List.map_nil]; rfl) (by simp only [qB, qC, qD, qE, qF, qG, qH, qJ, qK, qM, qN, qP, iop1, qR, qS, iop, qT, qV, qW, qX, qY, qZ, zA, Option.getD_some, zB, zC, zD, zE, zF, zG, zH, zJ, zK, zM, zN, Step1.ofO, lenC, callF, zP, zR, zS, zT, zV, cond_true, cond_false, decide_true, decide_false, beq_self_eq_true, Bool.false_eq_true, Bool.true_eq_false, zW, zX, zY, zZ, Bool.not_true, Bool.not_false, appC, copyC, yA, List.map_cons, List.map_nil, goInt, ib117, ib25, al84, al122, al4]; rfl) ?_
  rw [zz4, zz3, zz2, zz1]
  generalize hA : ((((H.push (.cells #[sv, fv] 117)).push (.cells #[.slice ap rs.length cp] 25)).push (.cells #[.int .i64 0, .int .i64 0, .int .i64 0, .int .i64 0] 84)).push (.cells #[.map none] 122)).push (.cells #[.bool false] 4) = HA
  have hoA : Old H HA := by rw [← hA]; exact ((((Old.push H _).trans (Old.push _ _)).trans (Old.push _ _)).trans (Old.push _ _)).trans (Old.push _ _)
  have hAs : HA.size = H.size + 5 := by rw [← hA]; rfl
  have hA2 : HA.get H.size = some (.cells [sv, fv].toArray 117 (0, 0)) := by rw [← hA, get_push_lt (by rw [zz4]; omega), get_push_lt (by rw [zz3]; omega), get_push_lt (by rw [zz2]; omega), get_push_lt (by rw [zz1]; omega)]; exact get_push_eq
  have hA3 : HA.get (H.size + 1) = some (.cells [.slice ap rs.length cp].toArray 25 (0, 0)) := by rw [← hA, get_push_lt (by rw [zz4]; omega), get_push_lt (by rw [zz3]; omega), get_push_lt (by rw [zz2]; omega), ← zz1]; exact get_push_eq
  have hA4 : HA.get (H.size + 2) = some (.cells [.int .i64 0, .int .i64 0, .int .i64 0, .int .i64 0].toArray 84 (0, 0)) := by rw [← hA, get_push_lt (by rw [zz4]; omega), get_push_lt (by rw [zz3]; omega), ← zz2]; exact get_push_eq
  have hA5 : HA.get (H.size + 3) = some (.cells [.map none].toArray 122 (0, 0)) := by rw [← hA, get_push_lt (by rw [zz4]; omega), ← zz3]; exact get_push_eq
  have hA6 : HA.get (H.size + 4) = some (.cells [.bool false].toArray 4 (0, 0)) := by rw [← hA, ← zz4]; exact get_push_eq
  clear hA
  have hbA : HA.base ≤ H.size := by rw [hoA.base]; exact hin.base
  have hst1 : istoreAt Tryz.prog 122 (.pointer (some ⟨H.size + 6, 0, none⟩)) (.map (some (H.size + 5))) ((HA.push (.map #[] 0)).push (.cells #[.map none] 122)) = some (((HA.push (.map #[] 0)).push (.cells #[.map none] 122)).put (H.size + 6) (.cells [.map (some (H.size + 5))].toArray 122 (0, 0))) :=
    store_cell (t := 122) sz122 (i := 0) (l := [.map none]) (v := .map (some (H.size + 5))) rfl rfl (by have := get_push_eq (H := HA.push (.map #[] 0)) (o := .cells #[.map none] 122); rw [show (HA.push (.map #[] 0)).size = H.size + 6 from by show HA.size + 1 = _; omega] at this; exact this) (by simp) rfl (by show HA.base ≤ _; omega)
  have hsz5 : HA.size = H.size + 5 := hAs
  have hsz6 : (HA.push (.map #[] 0)).size = H.size + 6 := by show HA.size + 1 = _; omega
  refine setH6.regE 0 (by kernel_rfl) (by simp only [List.map_cons, List.map_nil]; rfl) (by simp only [qB, qC, qD, qE, qF, qG, qH, qJ, qK, qM, qN, qP, iop1, qR, qS, iop, qT, qV, qW, qX, qY, qZ, zA, Option.getD_some, zB, zC, zD, zE, zF, zG, zH, zJ, zK, zM, zN, Step1.ofO, lenC, callF, zP, zR, zS, zT, zV, cond_true, cond_false, decide_true, decide_false, beq_self_eq_true, Bool.false_eq_true, Bool.true_eq_false, zW, zX, zY, zZ, Bool.not_true, Bool.not_false, appC, copyC, yA, List.map_cons, List.map_nil, goInt, mkm, al122, hsz5, hsz6, hst1]; rfl) ?_
  generalize hB : ((HA.push (.map #[] 0)).push (.cells #[.map none] 122)).put (H.size + 6) (.cells [.map (some (H.size + 5))].toArray 122 (0, 0)) = HB
  have hoB : Old HA HB := by rw [← hB]; exact ((Old.push HA _).trans (Old.push _ _)).put (by omega)
  have hBs : HB.size = H.size + 7 := by rw [← hB]; show HA.size + 1 + 1 = _; omega
  have hB7 : HB.get (H.size + 6) = some (.cells [.map (some (H.size + 5))].toArray 122 (0, 0)) := by rw [← hB]; exact get_put_eq
  have hBm : HB.get (H.size + 5) = some (.map #[] 0) := by
    rw [← hB, get_put_ne (by omega), get_push_lt (by omega), ← hsz5]; exact get_push_eq
  clear hB hst1
  have ho := hoA.trans hoB
  have hB2 := (hoB.get H.size (by omega)).trans hA2
  have hB3 := (hoB.get (H.size + 1) (by omega)).trans hA3
  have hB4 := (hoB.get (H.size + 2) (by omega)).trans hA4
  have hB5 := (hoB.get (H.size + 3) (by omega)).trans hA5
  have hB6 := (hoB.get (H.size + 4) (by omega)).trans hA6
  have hinB := hin.old ho
  have hpB := picOf_old ho hpic
  have hl117 : iloadAt Tryz.prog 117 (.pointer (some ⟨H.size, 0, none⟩)) HB = some (.agg #[sv, fv]) := load_agg (t := 117) (i := 0) (l := [sv, fv]) ag117 sz117 hB2 (by simp)
  have hl25 := load_cell (t := 25) ag25 (i := 0) hB3 rfl
  refine .seqW ?_
  refine setH6.regS (by kernel_rfl) (by simp only [List.map_cons, List.map_nil]; rfl) ?_; simp only [qB, qC, qD, qE, qF, qG, qH, qJ, qK, qM, qN, qP, iop1, qR, qS, iop, qT, qV, qW, qX, qY, qZ, zA, Option.getD_some, zB, zC, zD, zE, zF, zG, zH, zJ, zK, zM, zN, Step1.ofO, lenC, callF, zP, zR, zS, zT, zV, cond_true, cond_false, decide_true, decide_false, beq_self_eq_true, Bool.false_eq_true, Bool.true_eq_false, zW, zX, zY, zZ, Bool.not_true, Bool.not_false, appC, copyC, yA, List.map_cons, List.map_nil, goInt, yB, yC, hl117, hl25, lenB_slice u25, e99, enter_s (x := (sv, fv, (rs.length : Int))) (show hat6 99 = some (ofS pre146 post99) from rfl) uniq146 ⟨rfl, hinB.base⟩]
  rintro v3 H3 ⟨hold3, d1, d2, rfl, hd1, hd2, hd1', hd2', hg1, hg2⟩
  have ho3 := ho.trans hold3
  have hC3 := (hold3.get _ (by omega)).trans hB3
  have hC4 := (hold3.get _ (by omega)).trans hB4
  have hC5 := (hold3.get _ (by omega)).trans hB5
  have hC6 := (hold3.get _ (by omega)).trans hB6
  have hC7 := (hold3.get _ (by omega)).trans hB7
  have hCm := (hold3.get _ (by omega)).trans hBm
  have hs3 := hold3.size
  generalize hq0 : H.size = z at *
  have hin3 := hinB.old hold3
  have hp3 := picOf_old hold3 hpB
  refine .block (.pre (env1 := [unk, unk, unk, .pointer (some ⟨z + 1, 0, none⟩), .pointer (some ⟨z + 2, 0, none⟩), .pointer (some ⟨z + 3, 0, none⟩), .pointer (some ⟨z + 4, 0, none⟩), .pointer (some ⟨z + 6, 0, none⟩), unk, unk, unk, unk, unk, unk, unk, .func (.func 145) #[] #[.pointer (some ⟨d1, 0, none⟩), .pointer (some ⟨d2, 0, none⟩)], unk, unk, unk, unk, unk, unk, unk, unk, unk, unk, unk, unk, unk, unk, unk, unk, unk, unk, unk, unk, unk, unk, unk, unk, unk, unk, unk, unk, unk, unk, unk, unk, unk, unk, unk, unk, unk, unk, unk, unk, unk, unk, unk]) (by repeat (first | exact WkL.nil | refine WkL.same ?_ | refine WkL.any ?_)) ?_)
  refine setH6.rangeW (g := 145) (first := #[]) (captured := #[.pointer (some ⟨d1, 0, none⟩), .pointer (some ⟨d2, 0, none⟩)]) (by kernel_rfl) (by kernel_rfl) (by kernel_rfl) rfl ent145 fun lp hls hpd htm hps hx hy => ?_
  have hpush := Old.push H3 (.loop lp)
  generalize hw : ss.length = w at *
  let T0 : Nat → Prop := fun b => b = H3.size ∨ b = z + 5 ∨ b = z + 2 ∨ b = z + 3 ∨ b = z + 4
  let J : Nat → (Nat → Prop) → IH → Prop := fun t T h => (∀ b, T b ↔ T0 b) ∧ h.get H3.size = some (.loop lp) ∧ MapI h (z + 5) (seenM (strK ss fs w) (atV w) t) ∧ H3.size < h.size ∧ h.get (z + 2) = H3.get (z + 2) ∧ h.get (z + 3) = H3.get (z + 3) ∧ h.get (z + 4) = H3.get (z + 4) ∧
    (∀ s, s < t → okT ss fs zss w s) ∧ Fr T0 H3 h
  let D : IH → Prop := fun h => ∃ lp' t, h.get H3.size = some (.loop lp') ∧ lp'.state = .done ∧ lp'.pending = some .ret ∧ H3.size < h.size ∧ t < rs.length * w ∧ (∀ s, s < t → okT ss fs zss w s) ∧ ¬ okT ss fs zss w t ∧
    h.get (z + 2) = some (.cells #[.int .i64 ((fstC (strK ss fs w) t / w : Nat) : Int), .int .i64 ((fstC (strK ss fs w) t % w : Nat) : Int), .int .i64 ((t / w : Nat) : Int), .int .i64 ((t % w : Nat) : Int)] 84 (0, 0)) ∧
    h.get (z + 3) = some (.cells #[.map (some (z + 5))] 122 (0, 0)) ∧ h.get (z + 4) = some (.cells #[.bool true] 4 (0, 0)) ∧ Fr T0 H3 h
  refine ⟨_, cells_iter (l := H3.size) (T0 := T0) (J := J) (D := D) (n := rs.length) (sv := sv) (fv := fv) (ss := ss) (fs := fs) ⟨?_, ?_, ?_, ?_, intsOf_old hpush hin3.sz, intsOf_old hpush hin3.fz, ?_⟩ hin.fr hin.sr hin.len (by omega) ?_ ?_ ?_ ?_ ?_, ?_⟩
  · rw [hpush.get d1 hd1']; exact hg1
  · rw [hpush.get d2 hd2']; exact hg2
  · show d1 < H3.size + 1; omega
  · show d2 < H3.size + 1; omega
  · show H3.base ≤ H3.size + 1; have := hin3.base; omega
  · have hsb : ∀ b, blkIs sv b → b < z := fun b hb => by have := intsOf_blk hin.sz hb; omega
    have hfb : ∀ b, blkIs fv b → b < z := fun b hb => by have := intsOf_blk hin.fz hb; omega
    rintro b (rfl | rfl | rfl | rfl | rfl)
    · exact ⟨by show H3.size < H3.size + 1; omega, by omega, by omega, fun q => by have := hsb _ q; omega, fun q => by have := hfb _ q; omega⟩
    all_goals exact ⟨by show _ < H3.size + 1; omega, by omega, by omega, fun q => by have := hsb _ q; omega, fun q => by have := hfb _ q; omega⟩
  · exact ⟨fun _ => Iff.rfl, get_push_eq, ⟨#[], 0, (hpush.get _ (by omega)).trans hCm, rfl⟩, by show H3.size < H3.size + 1; omega, hpush.get _ (by omega), hpush.get _ (by omega), hpush.get _ (by omega), fun s hs => by omega, hpush.fr T0⟩
  · rintro t T h h' ⟨q1, q2, q3, q4, q5, q6, q7, q8, q9⟩ hol
    have hsz := hol.size
    have hpz : (H3.push (.loop lp)).size = H3.size + 1 := rfl
    have g : ∀ b, b ≤ H3.size → h'.get b = h.get b := fun b hb => hol.get b (by omega) (.inl (by omega))
    exact ⟨q1, (g _ (Nat.le_refl _)).trans q2, q3.keep (g _ (by omega)), by omega, (g _ (by omega)).trans q5, (g _ (by omega)).trans q6, (g _ (by omega)).trans q7, q8, ⟨Nat.le_trans q9.size hsz, hol.base.trans q9.base, fun b hb hn => (g b (by omega)).trans (q9.get b hb hn)⟩⟩
  · rintro h h' ⟨lp', t, q1, q2, q3, q4, q5, q6, q7, q8, q9, q10, q11⟩ hol
    have hsz := hol.size
    have hpz : (H3.push (.loop lp)).size = H3.size + 1 := rfl
    have g : ∀ b, b ≤ H3.size → h'.get b = h.get b := fun b hb => hol.get b (by omega) (.inl (by omega))
    exact ⟨lp', t, (g _ (Nat.le_refl _)).trans q1, q2, q3, by omega, q5, q6, q7, (g _ (by omega)).trans q8, (g _ (by omega)).trans q9, (g _ (by omega)).trans q10, ⟨Nat.le_trans q11.size hsz, hol.base.trans q11.base, fun b hb hn => (g b (by omega)).trans (q11.get b hb hn)⟩⟩
  · have hzl : zss.length = rs.length := by rw [← hrs]; simp
    show CellRound H3.size rs.length ss.length (cellK ss fs) J D
    rw [hw]
    rintro r c T h hr hc ⟨q1, q2, q3, q4, q5, q6, q7, q8, q9⟩
    have hdv : (r * w + c) / w = r := by rw [Nat.mul_comm, Nat.mul_add_div (by omega), Nat.div_eq_of_lt hc, Nat.add_zero]
    have hmd : (r * w + c) % w = c := by rw [Nat.mul_comm, Nat.mul_add_mod, Nat.mod_eq_of_lt hc]
    have htl : r * w + c < rs.length * w := by
      have h1 : (r + 1) * w ≤ rs.length * w := Nat.mul_le_mul_right _ hr
      rw [Nat.succ_mul] at h1
      omega
    have hky : strK ss fs w (r * w + c) = cellK ss fs r c := by unfold strK; rw [hdv, hmd]
    have hat : atV w (r * w + c) = .agg #[.int .i64 (r : Nat), .int .i64 (c : Nat)] := by unfold atV; rw [hdv, hmd]
    have hnT : ∀ b, b < z + 2 ∨ b = z + 6 → ¬ T0 b := fun b hb h9 => by rcases h9 with h9 | h9 | h9 | h9 | h9 <;> omega
    have hbT : ∀ b, T b → b ≤ H3.size := fun b hb => by rcases (q1 b).1 hb with h9 | h9 | h9 | h9 | h9 <;> omega
    generalize htt : r * w + c = t at hdv hmd htl hky hat q3 q8 ⊢
    generalize hkk : cellK ss fs r c = key at hky ⊢
    have hoh : Old H h := ⟨by rw [hq0]; omega, q9.base.trans ho3.base, fun b hb => (q9.get b (by omega) (hnT b (by omega))).trans (ho3.get b hb)⟩
    have i3 := (q9.get (z + 1) (by omega) (hnT _ (by omega))).trans hC3
    have i7 := (q9.get (z + 6) (by omega) (hnT _ (by omega))).trans hC7
    have hb0 : h.base ≤ z := by rw [hoh.base]; have := hin.base; omega
    have hst3 : istoreAt Tryz.prog 133 (.pointer (some ⟨h.size, 0, none⟩)) (.agg #[.int .i64 (r : Nat), .int .i64 (c : Nat), .int .i64 key]) (h.push (.cells #[.int .i64 0, .int .i64 0, .int .i64 0] 133)) = some ((h.push (.cells #[.int .i64 0, .int .i64 0, .int .i64 0] 133)).put h.size (.cells #[.int .i64 (r : Nat), .int .i64 (c : Nat), .int .i64 key] 133 (0, 0))) :=
      store_agg (vs := [.int .i64 (r : Nat), .int .i64 (c : Nat), .int .i64 key]) (i := 0) sz133 rfl get_push_eq (by simp) rfl (by show h.base ≤ h.size; omega)
    refine round_on q2 hls hpd (by rw [hps]; rfl) hx hy (env0 := [unk, unk, unk, .pointer (some ⟨z + 1, 0, none⟩), .pointer (some ⟨z + 2, 0, none⟩), .pointer (some ⟨z + 3, 0, none⟩), .pointer (some ⟨z + 4, 0, none⟩), .pointer (some ⟨z + 6, 0, none⟩), unk, unk, unk, unk, unk, unk, unk, .func (.func 145) #[] #[.pointer (some ⟨d1, 0, none⟩), .pointer (some ⟨d2, 0, none⟩)], .agg #[.int .i64 (r : Nat), .int .i64 (c : Nat), .int .i64 key], unk, unk, unk, unk, unk, unk, unk, unk, unk, unk, unk, unk, unk, unk, unk, unk, unk, unk, unk, unk, unk, unk, unk, unk, unk, unk, unk, unk, unk, unk, unk, unk, unk, unk, unk, unk, unk, unk, unk, unk, unk, unk]) (by rw [hps, htm]; rfl) ?_
    refine setH6.regZ 0 (by kernel_rfl) (by simp only [List.map_cons, List.map_nil]; rfl) (by simp only [qB, qC, qD, qE, qF, qG, qH, qJ, qK, qM, qN, qP, iop1, qR, qS, iop, qT, qV, qW, qX, qY, qZ, zA, Option.getD_some, zB, zC, zD, zE, zF, zG, zH, zJ, zK, zM, zN, Step1.ofO, lenC, callF, zP, zR, zS, zT, zV, cond_true, cond_false, decide_true, decide_false, beq_self_eq_true, Bool.false_eq_true, Bool.true_eq_false, zW, zX, zY, zZ, Bool.not_true, Bool.not_false, appC, copyC, yA, List.map_cons, List.map_nil, goInt, al133, hst3]; rfl) ⟨rfl, [unk, unk, unk, .pointer (some ⟨z + 1, 0, none⟩), .pointer (some ⟨z + 2, 0, none⟩), .pointer (some ⟨z + 3, 0, none⟩), .pointer (some ⟨z + 4, 0, none⟩), .pointer (some ⟨z + 6, 0, none⟩), .pointer (some ⟨h.size, 0, none⟩), unk, unk, unk, unk, unk, unk, unk, unk, unk, unk, unk, unk, unk, unk, unk, unk, unk, unk, unk, unk, unk, unk, unk, unk, unk, unk, unk, unk, unk, unk, unk, unk, unk, unk, unk, unk, unk, unk, unk, unk, unk, unk, unk, unk, unk, unk, unk, unk, unk, unk], (by repeat (first | exact WkL.nil | refine WkL.same ?_ | refine WkL.any ?_)), ?_, fun lb => ?_⟩
    · rw [get_put_ne (by omega), get_push_lt (by omega)]; exact q2
    generalize hh2 : ((h.push (.cells #[.int .i64 0, .int .i64 0, .int .i64 0] 133)).put h.size (.cells #[.int .i64 (r : Nat), .int .i64 (c : Nat), .int .i64 key] 133 (0, 0))).put H3.size (.loop lb) = h2
    have e1 : h2.size = h.size + 1 := by rw [← hh2]; rfl
    have e2 : h2.base = h.base := by rw [← hh2]; rfl
    have e3 : h2.get H3.size = some (.loop lb) := by rw [← hh2]; exact get_put_eq
    have e4 : ∀ b, b < h.size → b ≠ H3.size → h2.get b = h.get b := fun b hb hn => by rw [← hh2, get_put_ne hn, get_put_ne (by omega), get_push_lt hb]
    have e5 : h2.get h.size = some (.cells [.int .i64 (r : Nat), .int .i64 (c : Nat), .int .i64 key].toArray 133 (0, 0)) := by rw [← hh2, get_put_ne (by omega)]; exact get_put_eq
    clear hh2 hst3
    have k3 := (e4 (z + 1) (by omega) (by omega)).trans i3
    have k7 := (e4 (z + 6) (by omega) (by omega)).trans i7
    have km := q3.keep (e4 (z + 5) (by omega) (by omega))
    have l7 := load_cell (t := 122) ag122 (i := 0) k7 rfl
    have lk := load_cell (t := 3) ag3 (i := 2) e5 rfl
    obtain ⟨sa1, sa2⟩ := seenM_at (strK ss fs w) (atV w) t
    by_cases hf : fstC (strK ss fs w) t = t
    · have hmf := sa1 hf
      rw [hky] at hmf
      have hlook := km.missed hmf
      have hst4 : istoreAt Tryz.prog 83 (.pointer (some ⟨h2.size, 0, none⟩)) (.agg #[.int .i64 0, .int .i64 0]) (h2.push (.cells #[.int .i64 0, .int .i64 0] 83)) = some ((h2.push (.cells #[.int .i64 0, .int .i64 0] 83)).put h2.size (.cells #[.int .i64 0, .int .i64 0] 83 (0, 0))) :=
        store_agg (vs := [.int .i64 0, .int .i64 0]) (i := 0) sz83 rfl get_push_eq (by simp) rfl (by show h2.base ≤ h2.size; omega)
      refine .block (setH6.regE 0 (by kernel_rfl) (by simp only [List.map_cons, List.map_nil]; rfl) (by simp only [qB, qC, qD, qE, qF, qG, qH, qJ, qK, qM, qN, qP, iop1, qR, qS, iop, qT, qV, qW, qX, qY, qZ, zA, Option.getD_some, zB, zC, zD, zE, zF, zG, zH, zJ, zK, zM, zN, Step1.ofO, lenC, callF, zP, zR, zS, zT, zV, cond_true, cond_false, decide_true, decide_false, beq_self_eq_true, Bool.false_eq_true, Bool.true_eq_false, zW, zX, zY, zZ, Bool.not_true, Bool.not_false, appC, copyC, yA, List.map_cons, List.map_nil, goInt, l7, f133_1, lk, hlook, ex22, ex23, al83, hst4]; rfl) ?_)
      generalize hh4 : (h2.push (.cells #[.int .i64 0, .int .i64 0] 83)).put h2.size (.cells #[.int .i64 0, .int .i64 0] 83 (0, 0)) = h4
      have g1 : h4.size = h2.size + 1 := by rw [← hh4]; rfl
      have g2 : h4.base = h2.base := by rw [← hh4]; rfl
      have g4 : ∀ b, b < h2.size → h4.get b = h2.get b := fun b hb => by rw [← hh4, get_put_ne (by omega), get_push_lt hb]
      clear hh4 hst4
      have m7 := load_cell (t := 122) ag122 (i := 0) ((g4 (z + 6) (by omega)).trans k7) rfl
      have mk := load_cell (t := 3) ag3 (i := 2) ((g4 h.size (by omega)).trans e5) rfl
      have ma : iloadAt Tryz.prog 83 (.pointer (some ⟨h.size, 0, none⟩)) h4 = some (.agg #[.int .i64 (r : Nat), .int .i64 (c : Nat)]) := load_agg (t := 83) (i := 0) (l := [.int .i64 (r : Nat), .int .i64 (c : Nat), .int .i64 key]) ag83 sz83 ((g4 h.size (by omega)).trans e5) (by simp)
      obtain ⟨o, hup, hM⟩ := (km.keep (g4 (z + 5) (by omega))).update hmf (v := .agg #[.int .i64 (r : Nat), .int .i64 (c : Nat)]) (by omega) rfl
      refine setH6.ifW (by kernel_rfl) (by simp only [List.map_cons, List.map_nil]; rfl) (by simp only [qB, qC, qD, qE, qF, qG, qH, qJ, qK, qM, qN, qP, iop1, qR, qS, iop, qT, qV, qW, qX, qY, qZ, zA, Option.getD_some, zB, zC, zD, zE, zF, zG, zH, zJ, zK, zM, zN, Step1.ofO, lenC, callF, zP, zR, zS, zT, zV, cond_true, cond_false, decide_true, decide_false, beq_self_eq_true, Bool.false_eq_true, Bool.true_eq_false, zW, zX, zY, zZ, Bool.not_true, Bool.not_false, appC, copyC, yA, List.map_cons, List.map_nil, goInt]; rfl) (by kernel_rfl) (by simp only [qT, qX, qY, Option.getD_some]; rfl) (fun _ => ?_) (fun ht => by cases ht)
      refine setH6.regE 0 (by kernel_rfl) (by simp only [List.map_cons, List.map_nil]; rfl) (by simp only [qB, qC, qD, qE, qF, qG, qH, qJ, qK, qM, qN, qP, iop1, qR, qS, iop, qT, qV, qW, qX, qY, qZ, zA, Option.getD_some, zB, zC, zD, zE, zF, zG, zH, zJ, zK, zM, zN, Step1.ofO, lenC, callF, zP, zR, zS, zT, zV, cond_true, cond_false, decide_true, decide_false, beq_self_eq_true, Bool.false_eq_true, Bool.true_eq_false, zW, zX, zY, zZ, Bool.not_true, Bool.not_false, appC, copyC, yA, List.map_cons, List.map_nil, goInt, m7, f133_1, mk, f133_0, ma, hup]; rfl) (.exit (BZ.on ⟨?_, .inl ⟨rfl, fun H' hH' => .inl ⟨rfl, T, ⟨q1, ?_, ?_, ?_, ?_, ?_, ?_, ?_, ?_⟩, ?_, fun b hb => ?_⟩⟩⟩))
      · rw [get_put_ne (by omega), g4 _ (by omega)]; exact e3
      · rw [hH']; exact get_put_eq
      · rw [hH', seenM_succ, if_pos hf, hky, hat]
        exact hM.keep (get_put_ne (by omega))
      · rw [hH']; show H3.size < h4.size; omega
      · rw [hH', get_put_ne (by omega), get_put_ne (by omega), g4 _ (by omega), e4 _ (by omega) (by omega)]; exact q5
      · rw [hH', get_put_ne (by omega), get_put_ne (by omega), g4 _ (by omega), e4 _ (by omega) (by omega)]; exact q6
      · rw [hH', get_put_ne (by omega), get_put_ne (by omega), g4 _ (by omega), e4 _ (by omega) (by omega)]; exact q7
      · intro s hs
        by_cases hst : s < t
        · exact q8 s hst
        · have : s = t := by omega
          rw [this]; unfold okT; rw [hf]
      · rw [hH']
        refine ⟨by show H3.size ≤ h4.size; omega, by show h4.base = _; rw [g2, e2, q9.base], fun b hb hn => ?_⟩
        have n1 : b ≠ H3.size := fun e => hn (.inl e)
        have n2 : b ≠ z + 5 := fun e => hn (.inr (.inl e))
        rw [get_put_ne n1, get_put_ne n2, g4 _ (by omega), e4 _ (by omega) n1]
        exact q9.get b hb hn
      · rw [hH']
        refine ⟨by show h.size ≤ h4.size; omega, by show h4.base = _; rw [g2, e2], fun b hb hn => ?_⟩
        have n1 : b ≠ H3.size := fun e => hn ((q1 b).2 (.inl e))
        have n2 : b ≠ z + 5 := fun e => hn ((q1 b).2 (.inr (.inl e)))
        rw [get_put_ne n1, get_put_ne n2, g4 _ (by omega), e4 _ (by omega) n1]
      · exact ⟨.inl hb, by rw [hH']; have := hbT b hb; show b < h4.size; omega⟩
    · obtain ⟨j, hmf⟩ := sa2 hf
      rw [hky] at hmf
      have hfl := fstC_le (strK ss fs w) t
      generalize hff : fstC (strK ss fs w) t = f at *
      have hlook := km.found hmf
      have hst4 : istoreAt Tryz.prog 83 (.pointer (some ⟨h2.size, 0, none⟩)) (.agg #[.int .i64 ((f / w : Nat) : Int), .int .i64 ((f % w : Nat) : Int)]) (h2.push (.cells #[.int .i64 0, .int .i64 0] 83)) = some ((h2.push (.cells #[.int .i64 0, .int .i64 0] 83)).put h2.size (.cells #[.int .i64 ((f / w : Nat) : Int), .int .i64 ((f % w : Nat) : Int)] 83 (0, 0))) :=
        store_agg (vs := [.int .i64 ((f / w : Nat) : Int), .int .i64 ((f % w : Nat) : Int)]) (i := 0) sz83 rfl get_push_eq (by simp) rfl (by show h2.base ≤ h2.size; omega)
      unfold atV at hlook
      refine .block (setH6.regE 0 (by kernel_rfl) (by simp only [List.map_cons, List.map_nil]; rfl) (by simp only [qB, qC, qD, qE, qF, qG, qH, qJ, qK, qM, qN, qP, iop1, qR, qS, iop, qT, qV, qW, qX, qY, qZ, zA, Option.getD_some, zB, zC, zD, zE, zF, zG, zH, zJ, zK, zM, zN, Step1.ofO, lenC, callF, zP, zR, zS, zT, zV, cond_true, cond_false, decide_true, decide_false, beq_self_eq_true, Bool.false_eq_true, Bool.true_eq_false, zW, zX, zY, zZ, Bool.not_true, Bool.not_false, appC, copyC, yA, List.map_cons, List.map_nil, goInt, l7, f133_1, lk, hlook, ex22, ex23, al83, hst4]; rfl) ?_)
      generalize hh4 : (h2.push (.cells #[.int .i64 0, .int .i64 0] 83)).put h2.size (.cells #[.int .i64 ((f / w : Nat) : Int), .int .i64 ((f % w : Nat) : Int)] 83 (0, 0)) = h4
      have g1 : h4.size = h2.size + 1 := by rw [← hh4]; rfl
      have g2 : h4.base = h2.base := by rw [← hh4]; rfl
      have g4 : ∀ b, b < h2.size → h4.get b = h2.get b := fun b hb => by rw [← hh4, get_put_ne (by omega), get_push_lt hb]
      have g5 : h4.get h2.size = some (.cells [.int .i64 ((f / w : Nat) : Int), .int .i64 ((f % w : Nat) : Int)].toArray 83 (0, 0)) := by rw [← hh4]; exact get_put_eq
      clear hh4 hst4
      refine setH6.ifW (by kernel_rfl) (by simp only [List.map_cons, List.map_nil]; rfl) (by simp only [qB, qC, qD, qE, qF, qG, qH, qJ, qK, qM, qN, qP, iop1, qR, qS, iop, qT, qV, qW, qX, qY, qZ, zA, Option.getD_some, zB, zC, zD, zE, zF, zG, zH, zJ, zK, zM, zN, Step1.ofO, lenC, callF, zP, zR, zS, zT, zV, cond_true, cond_false, decide_true, decide_false, beq_self_eq_true, Bool.false_eq_true, Bool.true_eq_false, zW, zX, zY, zZ, Bool.not_true, Bool.not_false, appC, copyC, yA, List.map_cons, List.map_nil, goInt]; rfl) (by kernel_rfl) (by simp only [qT, qX, qY, Option.getD_some]; rfl) (fun ht => by cases ht) (fun _ => .skip ?_)
      have hoh4 : Old H h4 := ⟨by rw [hq0]; omega, g2.trans (e2.trans hoh.base), fun b hb => (g4 b (by omega)).trans ((e4 b (by omega) (by omega)).trans (hoh.get b hb))⟩
      have hp4 := picOf_old hoh4 hpic
      have hwp : 0 < w := by omega
      have hfr : f / w < rs.length := by rw [Nat.div_lt_iff_lt_mul hwp]; omega
      have hfm : f % w < w := Nat.mod_lt _ hwp
      have rowAt : ∀ i, i < rs.length → ∃ x, rs[i]? = some x ∧ zss.getD i [] = x.2 ∧ x.2.length = w := fun i hi => by
        refine ⟨_, List.getElem?_eq_getElem hi, ?_, ?_⟩
        · rw [← hrs]; simp [List.getD, List.getElem?_eq_getElem hi]
        · have := hpl rs[i].2 (by rw [← hrs]; exact List.mem_map.2 ⟨_, List.getElem_mem hi, rfl⟩)
          omega
      obtain ⟨x1, hx1, hy1, hl1⟩ := rowAt (f / w) hfr
      obtain ⟨x2, hx2, hy2, hl2⟩ := rowAt r hr
      obtain ⟨p1, hp1, hd1a, hz1⟩ := read_row el25 hp4 hx1 (k := .i64)
      obtain ⟨p2, hp2, hd2a, hz2⟩ := read_row el25 hp4 hx2 (k := .i64)
      obtain ⟨a1, c1, hv1, _, _⟩ := intsOf_inv hz1
      obtain ⟨a2, c2, hv2, _, _⟩ := intsOf_inv hz2
      rw [hv1] at hd1a hz1
      rw [hv2] at hd2a hz2
      obtain ⟨y1, hy1'⟩ : ∃ y, x1.2[f % w]? = some y := ⟨_, List.getElem?_eq_getElem (by omega)⟩
      obtain ⟨y2, hy2'⟩ : ∃ y, x2.2[c]? = some y := ⟨_, List.getElem?_eq_getElem (by omega)⟩
      obtain ⟨s1, hs1, ht1⟩ := read_int el22 hz1 hy1' (k := .i64)
      obtain ⟨s2, hs2, ht2⟩ := read_int el22 hz2 hy2' (k := .i64)
      have hok : okT ss fs zss w t ↔ y1 = y2 := by
        unfold okT colK
        rw [hff, hdv, hmd, hy1, hy2]
        simp [List.getD, hy1', hy2']
      have l25 := load_cell (t := 25) ag25 (i := 0) ((g4 (z + 1) (by omega)).trans k3) rfl
      have lb0 := load_cell (t := 3) ag3 (i := 0) g5 rfl
      have lb1 := load_cell (t := 3) ag3 (i := 1) g5 rfl
      have e5' := (g4 h.size (by omega)).trans e5
      have la0 := load_cell (t := 3) ag3 (i := 0) e5' rfl
      have la1 := load_cell (t := 3) ag3 (i := 1) e5' rfl
      refine setH6.drawE pureH6 0 (lo := []) (by kernel_rfl) (by kernel_rfl) (by kernel_rfl) (by kernel_rfl) (by kernel_rfl) (by kernel_rfl) (by kernel_rfl) (by simp only [List.map_cons, List.map_nil]; rfl) (by simp only [qB, qC, qD, qE, qF, qG, qH, qJ, qK, qM, qN, qP, iop1, qR, qS, iop, qT, qV, qW, qX, qY, qZ, zA, Option.getD_some, zB, zC, zD, zE, zF, zG, zH, zJ, zK, zM, zN, Step1.ofO, lenC, callF, zP, zR, zS, zT, zV, cond_true, cond_false, decide_true, decide_false, beq_self_eq_true, Bool.false_eq_true, Bool.true_eq_false, zW, zX, zY, zZ, Bool.not_true, Bool.not_false, appC, copyC, yA, List.map_cons, List.map_nil, goInt, l25, ix83_00, ix83_01, lb0, lb1, f133_0, la0, la1, hp1, hd1a, hs1, ht1, hp2, hd2a, hs2, ht2]; rfl) (by kernel_rfl) (.cond (by kernel_rfl) (by simp only [qT, qX, qY, Option.getD_some]; rfl) (fun ht3 => ?_) (fun ht3 => .skip (BZ.go ⟨?_, .inl ⟨rfl, fun H' hH' => .inl ⟨rfl, T, ⟨q1, ?_, ?_, ?_, ?_, ?_, ?_, ?_, ?_⟩, ?_, fun b hb => ?_⟩⟩⟩)))
      · have hne : ¬ okT ss fs zss w t := fun e => by rw [hok] at e; simp [e] at ht3
        have m7 := load_cell (t := 122) ag122 (i := 0) ((g4 (z + 6) (by omega)).trans k7) rfl
        have ma : iloadAt Tryz.prog 83 (.pointer (some ⟨h.size, 0, none⟩)) h4 = some (.agg #[.int .i64 (r : Nat), .int .i64 (c : Nat)]) := load_agg (t := 83) (i := 0) (l := [.int .i64 (r : Nat), .int .i64 (c : Nat), .int .i64 key]) ag83 sz83 e5' (by simp)
        have mb : iloadAt Tryz.prog 83 (.pointer (some ⟨h2.size, 0, none⟩)) h4 = some (.agg #[.int .i64 ((f / w : Nat) : Int), .int .i64 ((f % w : Nat) : Int)]) := load_agg (t := 83) (i := 0) (l := [.int .i64 ((f / w : Nat) : Int), .int .i64 ((f % w : Nat) : Int)]) ag83 sz83 g5 (by simp)
        have n4 : h4.get (z + 2) = some (.cells [.int .i64 0, .int .i64 0, .int .i64 0, .int .i64 0].toArray 84 (0, 0)) := by rw [g4 _ (by omega), e4 _ (by omega) (by omega), q5]; exact hC4
        have n5 : h4.get (z + 3) = some (.cells [.map none].toArray 122 (0, 0)) := by rw [g4 _ (by omega), e4 _ (by omega) (by omega), q6]; exact hC5
        have n6 : h4.get (z + 4) = some (.cells [.bool false].toArray 4 (0, 0)) := by rw [g4 _ (by omega), e4 _ (by omega) (by omega), q7]; exact hC6
        have w1 : istoreAt Tryz.prog 84 (.pointer (some ⟨z + 2, 0, none⟩)) (.agg #[.int .i64 ((f / w : Nat) : Int), .int .i64 ((f % w : Nat) : Int), .int .i64 (r : Nat), .int .i64 (c : Nat)]) h4 = some (h4.put (z + 2) (.cells #[.int .i64 ((f / w : Nat) : Int), .int .i64 ((f % w : Nat) : Int), .int .i64 (r : Nat), .int .i64 (c : Nat)] 84 (0, 0))) :=
          store_agg (vs := [.int .i64 ((f / w : Nat) : Int), .int .i64 ((f % w : Nat) : Int), .int .i64 (r : Nat), .int .i64 (c : Nat)]) (i := 0) sz84 rfl n4 (by simp) rfl (by omega)
        generalize hh5 : h4.put (z + 2) (.cells #[.int .i64 ((f / w : Nat) : Int), .int .i64 ((f % w : Nat) : Int), .int .i64 (r : Nat), .int .i64 (c : Nat)] 84 (0, 0)) = h5 at w1
        have u5 : ∀ b, b ≠ z + 2 → h5.get b = h4.get b := fun b hb => by rw [← hh5, get_put_ne hb]
        have u5' : h5.get (z + 2) = some (.cells #[.int .i64 ((f / w : Nat) : Int), .int .i64 ((f % w : Nat) : Int), .int .i64 (r : Nat), .int .i64 (c : Nat)] 84 (0, 0)) := by rw [← hh5]; exact get_put_eq
        have u5s : h5.size = h4.size := by rw [← hh5]; rfl
        have u5b : h5.base = h4.base := by rw [← hh5]; rfl
        clear hh5
        have w2 : istoreAt Tryz.prog 122 (.pointer (some ⟨z + 3, 0, none⟩)) (.map (some (z + 5))) h5 = some (h5.put (z + 3) (.cells #[.map (some (z + 5))] 122 (0, 0))) :=
          store_cell (t := 122) sz122 (i := 0) (l := [.map none]) (v := .map (some (z + 5))) rfl rfl (by rw [u5 _ (by omega)]; exact n5) (by simp) rfl (by omega)
        have w3 : istoreAt Tryz.prog 4 (.pointer (some ⟨z + 4, 0, none⟩)) (.bool true) (h5.put (z + 3) (.cells #[.map (some (z + 5))] 122 (0, 0))) = some ((h5.put (z + 3) (.cells #[.map (some (z + 5))] 122 (0, 0))).put (z + 4) (.cells #[.bool true] 4 (0, 0))) :=
          store_cell (t := 4) sz4 (i := 0) (l := [.bool false]) (v := .bool true) rfl rfl (by rw [get_put_ne (by omega), u5 _ (by omega)]; exact n6) (by simp) rfl (by show h5.base ≤ _; omega)
        have fr : ∀ lq, Fr T0 h4 (((h5.put (z + 3) (.cells #[.map (some (z + 5))] 122 (0, 0))).put (z + 4) (.cells #[.bool true] 4 (0, 0))).put H3.size (.loop lq)) := fun lq => ⟨by show h4.size ≤ h5.size; omega, u5b, fun b hb hn => by
          have n1 : b ≠ H3.size := fun e => hn (.inl e)
          have n2 : b ≠ z + 2 := fun e => hn (.inr (.inr (.inl e)))
          have n3 : b ≠ z + 3 := fun e => hn (.inr (.inr (.inr (.inl e))))
          have n4 : b ≠ z + 4 := fun e => hn (.inr (.inr (.inr (.inr e))))
          rw [get_put_ne n1, get_put_ne n4, get_put_ne n3, u5 _ n2]⟩
        refine .seqW (setH6.drawXN (lo := [(4, 0, 1)]) (by kernel_rfl) (by kernel_rfl) (by kernel_rfl) (by kernel_rfl) (by kernel_rfl) (by kernel_rfl) (by simp only [List.map_cons, List.map_nil]; rfl) (by simp only [qB, qC, qD, qE, qF, qG, qH, qJ, qK, qM, qN, qP, iop1, qR, qS, iop, qT, qV, qW, qX, qY, qZ, zA, Option.getD_some, zB, zC, zD, zE, zF, zG, zH, zJ, zK, zM, zN, Step1.ofO, lenC, callF, zP, zR, zS, zT, zV, cond_true, cond_false, decide_true, decide_false, beq_self_eq_true, Bool.false_eq_true, Bool.true_eq_false, zW, zX, zY, zZ, Bool.not_true, Bool.not_false, appC, copyC, yA, List.map_cons, List.map_nil, goInt, yD, yE, yF, yG, yH, clsOf, Cls.eff, yJ, yK, mb, f133_0, ma, bd84, m7, w1, w2, w3]; rfl) (by kernel_rfl) ⟨fun m E r1 r2 r3 => ?_, trivial⟩ (ST.go (.ret (BZ.rt ⟨?_, .inr ⟨rfl, fun H' hH' => .inr ⟨rfl, ⟨{ lp with state := .done, pending := some .ret }, t, hH' ▸ get_put_eq, rfl, rfl, ?_, htl, q8, hne, ?_, ?_, ?_, ?_⟩, ?_⟩⟩⟩))))
        · have hm : m = 0 ∨ m = 1 := by simp at r1 r2; omega
          rcases hm with rfl | rfl
          · cases r3; exact m7
          · cases r3; exact load_cell (t := 122) ag122 (i := 0) (l := [.map (some (z + 5))]) (by rw [u5 _ (by omega)]; exact (g4 (z + 6) (by omega)).trans k7) rfl
        · rw [get_put_ne (by omega), get_put_ne (by omega), u5 _ (by omega), g4 _ (by omega)]; exact e3
        · rw [hH']; show H3.size < h5.size; omega
        · rw [hH', get_put_ne (by omega), get_put_ne (by omega), get_put_ne (by omega), u5', hff, hdv, hmd]
        · rw [hH', get_put_ne (by omega), get_put_ne (by omega)]; exact get_put_eq
        · rw [hH', get_put_ne (by omega)]; exact get_put_eq
        · rw [hH']
          refine ⟨by show H3.size ≤ h5.size; omega, by show h5.base = _; rw [u5b, g2, e2, q9.base], fun b hb hn => ?_⟩
          have n1 : b ≠ H3.size := fun e => hn (.inl e)
          rw [(fr _).get b (by omega) hn, g4 _ (by omega), e4 _ (by omega) n1]
          exact q9.get b hb hn
        · rw [hH']
          refine ⟨by show h.size ≤ h5.size; omega, by show h5.base = _; rw [u5b, g2, e2], fun b hb hn => ?_⟩
          have hn' : ¬ T0 b := fun e => hn ((q1 b).2 e)
          have n1 : b ≠ H3.size := fun e => hn' (.inl e)
          rw [(fr _).get b (by omega) hn', g4 _ (by omega), e4 _ (by omega) n1]
      · rw [g4 _ (by omega)]; exact e3
      · rw [hH']; exact get_put_eq
      · rw [hH', seenM_succ, if_neg (by rw [hff]; exact hf)]
        exact km.keep ((get_put_ne (by omega)).trans (g4 _ (by omega)))
      · rw [hH']; show H3.size < h4.size; omega
      · rw [hH', get_put_ne (by omega), g4 _ (by omega), e4 _ (by omega) (by omega)]; exact q5
      · rw [hH', get_put_ne (by omega), g4 _ (by omega), e4 _ (by omega) (by omega)]; exact q6
      · rw [hH', get_put_ne (by omega), g4 _ (by omega), e4 _ (by omega) (by omega)]; exact q7
      · intro s hs
        by_cases hst : s < t
        · exact q8 s hst
        · have : s = t := by omega
          rw [this, hok]
          simpa using ht3
      · rw [hH']
        refine ⟨by show H3.size ≤ h4.size; omega, by show h4.base = _; rw [g2, e2, q9.base], fun b hb hn => ?_⟩
        have n1 : b ≠ H3.size := fun e => hn (.inl e)
        rw [get_put_ne n1, g4 _ (by omega), e4 _ (by omega) n1]
        exact q9.get b hb hn
      · rw [hH']
        refine ⟨by show h.size ≤ h4.size; omega, by show h4.base = _; rw [g2, e2], fun b hb hn => ?_⟩
        have n1 : b ≠ H3.size := fun e => hn ((q1 b).2 (.inl e))
        rw [get_put_ne n1, g4 _ (by omega), e4 _ (by omega) n1]
      · exact ⟨.inl hb, by rw [hH']; have := hbT b hb; show b < h4.size; omega⟩
  · have fin : ∀ (r : Value × IH) (lp' : Loop), Fr T0 H3 r.2 → Old H (r.2.put H3.size (.loop lp')) := fun r lp' hf => by
      have hs := hf.size
      refine ⟨by show H.size ≤ r.2.size; omega, by show r.2.base = _; rw [hf.base, ho3.base], fun b hb => ?_⟩
      rw [get_put_ne (by omega), hf.get b (by omega) (by rintro (h | h | h | h | h) <;> omega)]
      exact ho3.get b hb
    rintro r (⟨T, ⟨q1, q2, q3, q4, q5, q6, q7, q8, q9⟩, hfr, hT⟩ | ⟨lp', t, q1, q2, q3, q4, q5, q6, q7, q8, q9, q10, q11⟩)
    · refine after_ok q2 hls hpd fun lp' => BZ.go (ST.go ?_)
      have hfin := fin r lp' q9
      have hbz : (r.2.put H3.size (.loop lp')).base ≤ z := by show r.2.base ≤ z; rw [q9.base, ho3.base]; have := hin.base; omega
      have k2 : (r.2.put H3.size (.loop lp')).get (z + 2) = some (.cells [.int .i64 0, .int .i64 0, .int .i64 0, .int .i64 0].toArray 84 (0, 0)) := by rw [get_put_ne (by omega), q5]; exact hC4
      have k3 : (r.2.put H3.size (.loop lp')).get (z + 3) = some (.cells [.map none].toArray 122 (0, 0)) := by rw [get_put_ne (by omega), q6]; exact hC5
      have k4 : (r.2.put H3.size (.loop lp')).get (z + 4) = some (.cells [.bool false].toArray 4 (0, 0)) := by rw [get_put_ne (by omega), q7]; exact hC6
      have k6 : (r.2.put H3.size (.loop lp')).get (z + 6) = some (.cells [.map (some (z + 5))].toArray 122 (0, 0)) := by rw [get_put_ne (by omega), q9.get _ (by omega) (by rintro (h | h | h | h | h) <;> omega)]; exact hC7
      generalize r.2.put H3.size (.loop lp') = hh at hfin hbz k2 k3 k4 k6
      have s1 : istoreAt Tryz.prog 84 (.pointer (some ⟨z + 2, 0, none⟩)) (.agg #[.int .i64 0, .int .i64 0, .int .i64 0, .int .i64 0]) hh = some (hh.put (z + 2) (.cells #[.int .i64 0, .int .i64 0, .int .i64 0, .int .i64 0] 84 (0, 0))) :=
        store_agg (vs := [.int .i64 0, .int .i64 0, .int .i64 0, .int .i64 0]) (i := 0) sz84 rfl k2 (by simp) rfl (by omega)
      have s2 : istoreAt Tryz.prog 122 (.pointer (some ⟨z + 3, 0, none⟩)) (.map (some (z + 5))) (hh.put (z + 2) (.cells #[.int .i64 0, .int .i64 0, .int .i64 0, .int .i64 0] 84 (0, 0))) = some ((hh.put (z + 2) (.cells #[.int .i64 0, .int .i64 0, .int .i64 0, .int .i64 0] 84 (0, 0))).put (z + 3) (.cells #[.map (some (z + 5))] 122 (0, 0))) :=
        store_cell (t := 122) sz122 (i := 0) (l := [.map none]) (v := .map (some (z + 5))) rfl rfl (by rw [get_put_ne (by omega)]; exact k3) (by simp) rfl (by show hh.base ≤ _; omega)
      have s3 : istoreAt Tryz.prog 4 (.pointer (some ⟨z + 4, 0, none⟩)) (.bool false) ((hh.put (z + 2) (.cells #[.int .i64 0, .int .i64 0, .int .i64 0, .int .i64 0] 84 (0, 0))).put (z + 3) (.cells #[.map (some (z + 5))] 122 (0, 0))) = some (((hh.put (z + 2) (.cells #[.int .i64 0, .int .i64 0, .int .i64 0, .int .i64 0] 84 (0, 0))).put (z + 3) (.cells #[.map (some (z + 5))] 122 (0, 0))).put (z + 4) (.cells #[.bool false] 4 (0, 0))) :=
        store_cell (t := 4) sz4 (i := 0) (l := [.bool false]) (v := .bool false) rfl rfl (by rw [get_put_ne (by omega), get_put_ne (by omega)]; exact k4) (by simp) rfl (by show hh.base ≤ _; omega)
      have l6 := load_cell (t := 122) ag122 (i := 0) k6 rfl
      refine .seqW (setH6.drawXN (lo := [(1, 0, 1)]) (by kernel_rfl) (by kernel_rfl) (by kernel_rfl) (by kernel_rfl) (by kernel_rfl) (by kernel_rfl) (by simp only [List.map_cons, List.map_nil]; rfl) (by simp only [qB, qC, qD, qE, qF, qG, qH, qJ, qK, qM, qN, qP, iop1, qR, qS, iop, qT, qV, qW, qX, qY, qZ, zA, Option.getD_some, zB, zC, zD, zE, zF, zG, zH, zJ, zK, zM, zN, Step1.ofO, lenC, callF, zP, zR, zS, zT, zV, cond_true, cond_false, decide_true, decide_false, beq_self_eq_true, Bool.false_eq_true, Bool.true_eq_false, zW, zX, zY, zZ, Bool.not_true, Bool.not_false, appC, copyC, yA, List.map_cons, List.map_nil, goInt, yD, yE, yF, yG, yH, clsOf, Cls.eff, yJ, yK, bd84z, l6, s1, s2, s3]; rfl) (by kernel_rfl) ⟨fun m E r1 r2 r3 => ?_, trivial⟩ (ST.go (.ret ⟨.inr rfl, .tuple #[zero84, .map (some (z + 5)), .bool false], ?_, ?_, zero84, z + 5, false, rfl, .inl ⟨rfl, rfl, ?_⟩⟩)))
      · have hm : m = 0 ∨ m = 1 := by simp at r1 r2; omega
        rcases hm with rfl | rfl
        · cases r3; exact l6
        · cases r3; exact load_cell (t := 122) ag122 (i := 0) (l := [.map (some (z + 5))]) (by rw [get_put_ne (by omega)]; exact k6) rfl
      · refine resC3 rfl ?_ ?_ ?_
        · exact load_agg (t := 84) (i := 0) (l := [.int .i64 0, .int .i64 0, .int .i64 0, .int .i64 0]) ag84 sz84 (by rw [get_put_ne (by omega), get_put_ne (by omega)]; exact get_put_eq) (by simp)
        · exact load_cell (t := 122) ag122 (i := 0) (l := [.map (some (z + 5))]) (by rw [get_put_ne (by omega)]; exact get_put_eq) rfl
        · exact load_cell (t := 4) ag4 (i := 0) (l := [.bool false]) get_put_eq rfl
      · exact ((hfin.put (by omega)).put (by omega)).put (by omega)
      · simp only [hw]
        have : zss.length = rs.length := by rw [← hrs]; simp
        rw [this]; rw [hw] at q8; exact q8
    · refine after_ret q1 q2 q3 fun lp'' => BZ.rt (ST.rt ⟨.inr rfl, .tuple #[clashV w (fstC (strK ss fs w) t) t, .map (some (z + 5)), .bool true], ?_, fin r lp'' q11, clashV w (fstC (strK ss fs w) t) t, z + 5, true, rfl, .inr ⟨rfl, t, ?_, ?_, ?_, ?_⟩⟩)
      · refine resC3 rfl ?_ ?_ ?_
        · exact load_agg (t := 84) (i := 0) (l := [_, _, _, _]) ag84 sz84 (by rw [get_put_ne (by omega)]; exact q8) (by simp)
        · exact load_cell (t := 122) ag122 (i := 0) (l := [_]) (by rw [get_put_ne (by omega)]; exact q9) rfl
        · exact load_cell (t := 4) ag4 (i := 0) (l := [_]) (by rw [get_put_ne (by omega)]; exact q10) rfl
      · simp only [hw]
        have : zss.length = rs.length := by rw [← hrs]; simp
        rw [this]; exact q5
      · simp only [hw]; exact q6
      · simp only [hw]; exact q7
      · simp only [hw]
end Go.Proofs.YtpdlblofcdcikaaGreatDoor
