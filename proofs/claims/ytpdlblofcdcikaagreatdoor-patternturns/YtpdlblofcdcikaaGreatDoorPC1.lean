/- Lists put one behind the other: slices.Concat keeps its contract. Conditions: none. -/
import Derived.Test.YtpdlblofcdcikaaGreatDoorLB0
import Derived.Test.YtpdlblofcdcikaaGreatDoorBR2
set_option linter.all false
namespace Go.Sv
open Go.Idl
variable {H : IH} {P : Program} {Z : Nat -> Prop} {b i n : Nat} {el st : TypeId} {u v : Value} {x : List (List Int)} {zs : List Int}
theorem q0L {o : Nat} {vs : List Value} (h : H.loads b o n = some vs) (hi : vs[i]? = some v) : H.load b (o + i) = some v := by
 unfold IH.loads at h;unfold IH.load;split at h
 ·rename_i c el fz hg;split at h
  ·cases h;simp only [List.getElem?_take, List.getElem?_drop] at hi;split at hi
   ·simpa using hi
   ·cases hi
  ·cases h
 ·cases h
theorem q4Y (h : FR Z H ((q56 el).fv x) v) : ∃ a c, v = .slice a x.length c := by
 rw [qNN] at h;generalize x.length = n at h ⊢;generalize x.map nI = cs at h
 cases h with
 | nil => exact ⟨_, _, rfl⟩
 | l => exact ⟨_, _, rfl⟩
theorem q1U (he : El P st el) (h : FR Z H ((q56 el).fv x) v) (hi : x[i]? = some zs) {k : IntKind} :
 ∃ u p, yC P st v (.int k (i : Nat)) = some p ∧ y7 P el p H = some u ∧ FR Z H (nI zs) u := by
 rw [qNN] at h;have hlt := (List.getElem?_eq_some_iff.1 hi).1;generalize hn : x.length = n at h;generalize hcs : x.map nI = cs at h
 cases h with
 | nil => omega
 | l hz hb hnc hs hl hc =>
   rename_i b o sp c vs;have hcl : cs.length = n := by rw [<- hcs, List.length_map, hn]
   have hvl := xN hl
   obtain ⟨u, hu⟩ : ∃ u, vs[i]? = some u := ⟨_, List.getElem?_eq_getElem (by omega)⟩
   refine ⟨u, _, wD he.und he.sz (Int.natCast_nonneg i) (Int.ofNat_lt.2 (by omega)), ?_, hc i _ u (by rw [<- hcs, List.getElem?_map, hi]; rfl) hu⟩;simp only [Int.toNat_natCast];exact qGL he.ag (q0L hl hu)
theorem qU3 {Z : Nat -> Prop} {H : IH} : ∀ {vs : List Value} {zs : List Int}, vs.length = zs.length -> (∀ (i : Nat) x v, (zs.map fun z => FV.v (.int .i64 z))[i]? = some x -> vs[i]? = some v -> FR Z H x v) -> vs = zs.map (Value.int .i64)
 | [], [], _, _ => rfl
 | v :: vs, z :: zs, e, h => by
   have h0 := h 0 (.v (.int .i64 z)) v rfl rfl;have : v = .int .i64 z := by cases h0; rfl
   rw [this, List.map_cons, qU3 (by simpa using e) fun i x v hx hv => h (i + 1) x v hx hv]
 | [], _ :: _, e, _ => by cases e
 | _ :: _, [], e, _ => by cases e
theorem qT7 (h : FR Z H (nI zs) u) : ∃ a c, u = .slice a zs.length c ∧ xZ 1 zs.length H u = some (zs.map (Value.int .i64)) := by
 rw [qJE] at h;generalize hn : zs.length = n at h;generalize hcs : zs.map (fun z => FV.v (.int .i64 z)) = cs at h
 cases h with
 | nil =>
   rename_i a c h0 hs;have : zs = [] := List.length_eq_zero_iff.1 hn;subst this;exact ⟨_, _, rfl, rfl⟩
 | l hz hb hnc hs hl hc =>
   rename_i b o sp c vs;have hcl : cs.length = n := by rw [<- hcs, List.length_map, hn]
   have hvl := xN hl;refine ⟨_, _, rfl, ?_⟩;have e : vs = zs.map (Value.int .i64) := qU3 (Z := Z) (H := H) (by omega) (by rw [hcs]; exact hc);unfold xZ;by_cases h0 : n = 0
   ·rw [if_pos h0];subst hn;rw [List.length_eq_zero_iff.1 h0]; rfl
   ·rw [if_neg h0];show H.loads b o (n * 1) = _;rw [Nat.mul_one, <- hcl, hl, e]
theorem q0D (he : El P st el) {m k : Nat} {A : List Int} {a : Option Addr} {c : Nat} (hu : u = .slice a zs.length c) (hf : xZ 1 zs.length H u = some (zs.map (Value.int .i64)))
 (hg : H.get b = some (.cells ((A ++ List.replicate k 0).map (Value.int .i64)).toArray el qV)) (hA : A.length = m) (hn : n = m + k) (hz : zs.length <= k) (hb : H.base <= b) :
 ∃ H', yU P #[st, st] [.slice (some ⟨b, 0, some el⟩) m n, u] H = some (.val (.slice (some ⟨b, 0, some el⟩) (m + zs.length) n) H') ∧
  H'.get b = some (.cells (((A ++ zs) ++ List.replicate (k - zs.length) 0).map (Value.int .i64)).toArray el qV) ∧ H'.size = H.size ∧ H'.base = H.base ∧ ∀ b', b' ≠ b -> H'.get b' = H.get b' := by
 subst hu;obtain ⟨info, hi, hsz, hby, hzt⟩ := he.info
 have hnews : dO P el info (.slice el) (.slice a zs.length c) H = some (zs.length, zs.map (Value.int .i64)) := by
  unfold dO;simp only [xY, qIP, hsz, hf, cond_true, Option.map_some]
 unfold yU;simp only [he.und, hi, hnews, xX];rw [if_pos (by omega)];unfold qHW;simp only [Option.all_some, beq_self_eq_true, if_true];by_cases h0 : zs = []
 ·subst h0;refine ⟨H, by simp, ?_, rfl, rfl, fun _ _ => rfl⟩;rw [hg]; simp
 ·have he0 : (zs.map (Value.int .i64)).isEmpty = false := by
   cases zs with
   | nil => exact absurd rfl h0
   | cons => rfl
  rw [he0, hsz, Nat.mul_one, Nat.zero_add]
  have hst : H.stores b m (zs.map (Value.int .i64)) = some (H.put b (.cells (((A ++ zs) ++ List.replicate (k - zs.length) 0).map (Value.int .i64)).toArray el qV)) := by
   unfold IH.stores;rw [hg];simp only;rw [if_pos]
   ·congr 4
    unfold overwrite;simp only [List.toList_toArray, List.map_append, List.length_map];rw [List.take_left' (by simp [hA])]
    congr 1
    rw [<- hA, <- List.drop_drop, List.drop_left' (by simp), <- List.map_drop, List.drop_replicate]
   ·have hone : (zs.map (Value.int .i64)).all oneCell = true := by
     rw [List.all_eq_true];intro v hv;obtain ⟨z, _, rfl⟩ := List.mem_map.1 hv;rfl
    rw [hone];have hfree : wZ qV = true := rfl;simp [hfree, hb];omega
  rw [hst];exact ⟨_, rfl, vU, rfl, rfl, fun b' hb' => yH hb'⟩
theorem qXZ {it : TypeId} {kk : IntKind} (he : El P st el) (ht : P.underlying it = some (.int kk)) (hz : pK P el = some (.int .i64 0)) (h0 : n ≠ 0) (hn : n <= 65536) :
 yU P #[st, it] [.slice none 0 0, .int .i64 (n : Nat)] H = some (.val (.slice (some ⟨H.size, 0, some el⟩) n n) (H.push (.cells ((List.replicate n 0).map (Value.int .i64)).toArray el qV))) := by
 obtain ⟨info, hi, hsz, hby, hzt⟩ := he.info;have hb40 : n * info.bytes <= 65536 * 64 := Nat.mul_le_mul hn hby
 have hcells : ∀ m, (Builtin.zeroCells (Value.int IntKind.i64 0).cells m).toList = (List.replicate m 0).map (Value.int .i64) := by
  intro m;have e1 : (Value.int IntKind.i64 0).cells = #[Value.int .i64 0] := rfl;rw [e1];apply List.ext_getElem?;intro j;by_cases hj : j < m
  ·simp [Builtin.zeroCells, hj, Nat.mod_one]
  ·simp [Builtin.zeroCells, hj]
 have hnews : dO P el info (.int kk) (.int .i64 (n : Nat)) H = some (n, (List.replicate n 0).map (Value.int .i64)) := by
  unfold dO;simp only [Int.toNat_natCast, hsz, Nat.mul_one];rw [if_pos (by simp; omega), if_neg h0, hz];simp only [Option.map_some, hcells]
 unfold yU;simp only [he.und, hi, ht, hnews, xX];rw [if_neg (by omega)];unfold qEP;rw [if_pos]
 ·simp [jD, rO]
 ·have hone : ((List.replicate n 0).map (Value.int .i64)).all oneCell = true := by
   rw [List.all_eq_true];intro v hv;obtain ⟨z, _, rfl⟩ := List.mem_map.1 hv;rfl
  rw [hone, hzt];simp;omega
end Go.Sv
