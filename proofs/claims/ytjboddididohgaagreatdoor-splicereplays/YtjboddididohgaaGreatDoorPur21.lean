/- Regions that draw their order, whose operations commute: whatever the order. Conditions: none. -/
import Derived.Test.YtjboddididohgaaGreatDoorPur19
set_option linter.all false
namespace Go.Idl
variable [Gc]
variable {P : Program} {G : Nat -> Bool} {nat : y7} {tab : uH} {nm : Nm} {good : FuncId -> Bool} {rd : Bool}
def okE (o : Oper) : Bool := match o.op with
 | .alloc _ | .box _ _ | .buildSlice _ _ _ | .makeSlice _ _ _ | .store _ _ _ => true
 | .call ⟨.builtin .append, _, _⟩ => true
 | _ => false
noncomputable def RC (o : Oper) (k : Nat) (env : List PV) : List Nat := cond (needs o.op) (k :: dlO o env) (dlO o env)
def Loc (R : List Nat) (f : PHp -> Option (PV × PHp)) (ph : PHp) (v : PV) (ph1 : PHp) : Prop :=
 (∀ l, (qA l ph).isSome = true -> (qA l ph1).isSome = true) ∧ (∀ l, l ∉ R -> qA l ph1 = qA l ph) ∧
   ∀ ph', (∀ l, l ∈ R -> qA l ph' = qA l ph) -> ∃ zDP, f ph' = some (v, zDP) ∧ ∀ l, (l ∈ R -> qA l zDP = qA l ph1) ∧ (l ∉ R -> qA l zDP = qA l ph')
theorem dK {R : List Nat} {f : PHp -> Option (PV × PHp)} {ph : PHp} {v : PV} {k : Nat} {ob : PO} (hk : k ∈ R) (h : ∀ ph', (∀ l, l ∈ R -> qA l ph' = qA l ph) -> f ph' = some (v, (k, ob) :: ph')) : Loc R f ph v ((k, ob) :: ph) := by
 have at_ : ∀ (l : Nat) (q : PHp), qA l ((k, ob) :: q) = if l = k then some ob else qA l q := fun l q => by
  by_cases e : l = k
  ·subst e; rw [if_pos rfl]; simp [qA]
  ·rw [if_neg e, zW e]
 refine ⟨fun l hl => ?_, fun l hl => ?_, fun ph' hd => ⟨_, h ph' hd, fun l => ⟨fun hl => ?_, fun hl => ?_⟩⟩⟩
 ·rw [at_]; split
  ·rfl
  ·exact hl
 ·rw [at_, if_neg (fun e : l = k => hl (e ▸ hk))]
 ·rw [at_, at_, hd l hl]
 ·rw [at_, if_neg (fun e : l = k => hl (e ▸ hk))]
theorem qM3 {R : List Nat} {f : PHp -> Option (PV × PHp)} {ph : PHp} {v : PV} (h : ∀ ph', (∀ l, l ∈ R -> qA l ph' = qA l ph) -> f ph' = some (v, ph')) : Loc R f ph v ph :=
 ⟨fun _ h => h, fun _ _ => rfl, fun ph' hd => ⟨ph', h ph' hd, fun l => ⟨fun hl => hd l hl, fun _ => rfl⟩⟩⟩
theorem qSY {R : List Nat} {f : PHp -> Option (PV × PHp)} {ph : PHp} {v : PV} {j : Nat} {ob : PO} (hj : j ∈ R) (h : ∀ ph', (∀ l, l ∈ R -> qA l ph' = qA l ph) -> f ph' = some (v, kQ j ob ph')) : Loc R f ph v (kQ j ob ph) := by
 refine ⟨fun l hl => ?_, fun l hl => ?_, fun ph' hd => ⟨_, h ph' hd, fun l => ⟨fun hl => ?_, fun hl => ?_⟩⟩⟩
 ·rw [qZ]; split
  ·rfl
  ·exact hl
 ·rw [qZ, if_neg (fun e : l = j ∧ _ => hl (e.1 ▸ hj))]
 ·rw [qZ, qZ, hd j hj, hd l hl]
 ·rw [qZ, if_neg (fun e : l = j ∧ _ => hl (e.1 ▸ hj))]
theorem qWR {R : List Nat} {f : PHp -> Option (PV × PHp)} {ph : PHp} {v : PV} {j : Nat} {ob : PO} (hj : j ∈ R) (h : ∀ ph', (∀ l, l ∈ R -> qA l ph' = qA l ph) -> f ph' = some (v, (j, ob) :: rV j ph')) : Loc R f ph v ((j, ob) :: rV j ph) := by
 have at_ : ∀ (l : Nat) (q : PHp), qA l ((j, ob) :: rV j q) = if l = j then some ob else qA l q := fun l q => by
  by_cases e : l = j
  ·subst e; rw [if_pos rfl]; simp [qA]
  ·rw [if_neg e, zW e, xC, if_neg e]
 refine ⟨fun l hl => ?_, fun l hl => ?_, fun ph' hd => ⟨_, h ph' hd, fun l => ⟨fun hl => ?_, fun hl => ?_⟩⟩⟩
 ·rw [at_]; split
  ·rfl
  ·exact hl
 ·rw [at_, if_neg (fun e : l = j => hl (e ▸ hj))]
 ·rw [at_, at_, hd l hl]
 ·rw [at_, if_neg (fun e : l = j => hl (e ▸ hj))]
theorem q4M {s : Nat} {x : PV} {ph ph' : PHp} (h : ∀ l ∈ dl1 x, qA l ph' = qA l ph) : rP P s x ph' = rP P s x ph := by
 unfold rP
 cases x with
 | own k t o n => simp only [h k (by simp [dl1])]
 | f y => cases y with
   | l => rfl
   | v x => cases x with
     | slice a n c => cases a with
       | none => cases n <;> rfl
       | some _ => rfl
     | _ => rfl
 | _ => rfl
theorem qA9 {R : List Nat} {el : TypeId} {s : Nat} {old : List PV} {n : Nat} {new : List PV} {m k : Nat} {ph ph1 : PHp} {v : PV} (h : mG P el s old n new m k ph = some (v, ph1)) : ∃ ob, ph1 = (k, ob) :: ph ∧ ∀ ph', mG P el s old n new m k ph' = some (v, (k, ob) :: ph') := by
 unfold mG at h ⊢
 cases hc : (Nat.ble (n + m) 1048576 && (kL P el && (Nat.beq (old.length) (n * s) && (Nat.beq new.length (m * s) && new.all dL)))) with
 | false => rw [hc] at h; cases h
 | true =>
   rw [hc] at h;cases h;exact ⟨_, rfl, fun _ => rfl⟩
theorem qQX {R : List Nat} {ts : List TypeId} {base x : PV} {k : Nat} {ph ph1 : PHp} {v : PV} (hk : k ∈ R) (hb : ∀ l ∈ dl1 base, l ∈ R) (hx : ∀ l ∈ dl1 x, l ∈ R) (h : yB P ts base x k ph = some (v, ph1)) : Loc R (yB P ts base x k) ph v ph1 := by
 have key : ∀ ph', (∀ l, l ∈ R -> qA l ph' = qA l ph) -> ∀ s, rP P s x ph' = rP P s x ph := fun ph' hd s => q4M fun l hl => hd l (hx l hl)
 unfold yB at h;split at h
 case h_2 => cases h
 rename_i st xt;split at h
 case h_2 => cases h
 rename_i el el2 h1 h2;split at h
 case h_2 => cases h
 rename_i s h3;split at h
 case h_2 => cases h
 rename_i m new h4;split at h
 ·cases hm : Nat.beq m 0 with
  | true =>
    rw [hm] at h;cases h;refine qM3 fun ph' hd => ?_
    unfold yB;simp only [h1, h2, h3, key ph' hd, h4, hm, cond_true]
  | false =>
    rw [hm] at h;obtain ⟨ob, rfl, hg⟩ := qA9 (R := R) h;refine dK hk fun ph' hd => ?_
    unfold yB;simp only [h1, h2, h3, key ph' hd, h4, hm, cond_false];exact hg ph'
 ·rename_i j tt o n;have hj : j ∈ R := hb j (by simp [dl1]);split at h
  case h_2 => cases h
  rename_i ob hob;have zEH : ∀ ph', (∀ l, l ∈ R -> qA l ph' = qA l ph) -> qA j ph' = some ob := fun ph' hd => (hd j hj).trans hob
  cases hc : (Nat.beq ob.el el && (Nat.beq (tt * (s + 1)) ob.cs.length && Nat.beq o 0)) with
  | false => rw [hc] at h; cases h
  | true =>
    rw [hc] at h;simp only [cond_true] at h
    cases hm : Nat.beq m 0 with
    | true =>
      rw [hm] at h;cases h;refine qM3 fun ph' hd => ?_
      unfold yB;simp only [h1, h2, h3, key ph' hd, h4, zEH ph' hd, hc, hm, cond_true]
    | false =>
      rw [hm] at h;simp only [cond_false] at h
      cases hle : Nat.ble (n + m) tt with
      | true =>
        rw [hle] at h;simp only [cond_true] at h
        cases hc2 : (Nat.beq new.length (m * (s + 1)) && new.all dL) with
        | false => rw [hc2] at h; cases h
        | true =>
          rw [hc2] at h;cases h;refine qSY hj fun ph' hd => ?_
          unfold yB;simp only [h1, h2, h3, key ph' hd, h4, zEH ph' hd, hc, hm, hle, hc2, cond_true, cond_false]
      | false =>
        rw [hle] at h;simp only [cond_false] at h
        cases hnt : Nat.beq n tt with
        | false => rw [hnt] at h; cases h
        | true =>
          rw [hnt] at h;simp only [cond_true] at h
          cases hgr : ob.gr with
          | true =>
            rw [hgr] at h;simp only [cond_true] at h;obtain ⟨ob2, rfl, hg⟩ := qA9 (R := R) h;refine qWR hj fun ph' hd => ?_
            unfold yB;simp only [h1, h2, h3, key ph' hd, h4, zEH ph' hd, hc, hm, hle, hnt, hgr, cond_true, cond_false];exact hg _
          | false =>
            rw [hgr] at h;simp only [cond_false] at h;obtain ⟨ob2, rfl, hg⟩ := qA9 (R := R) h;refine dK hk fun ph' hd => ?_
            unfold yB;simp only [h1, h2, h3, key ph' hd, h4, zEH ph' hd, hc, hm, hle, hnt, hgr, cond_true, cond_false];exact hg _
 ·cases h
theorem qTZ {R : List Nat} {t : TypeId} {a x : PV} {ph ph1 : PHp} {v : PV} (ha : ∀ l ∈ dl1 a, l ∈ R) (h : ppS (vY P t a x ph) = some (v, ph1)) : Loc R (fun ph => ppS (vY P t a x ph)) ph v ph1 := by
 unfold ppS at h;split at h
 case h_2 => cases h
 rename_i ph2 hs;cases h;unfold vY at hs;split at hs
 case h_2 => cases hs
 rename_i k tt off;have hk : k ∈ R := ha k (by simp [dl1]);split at hs
 case h_2 => cases hs
 rename_i ob hob;split at hs
 case h_2 => cases hs
 rename_i n hn
 cases h1 : spec P ob.el with
 | true => rw [h1] at hs; cases hs
 | false =>
   rw [h1] at hs;simp only [cond_false] at hs
   cases h2 : (Nat.beq tt ob.cs.length && (Nat.beq n (zF x).length && (Nat.ble (off + n) ob.cs.length && (pnt x && (zF x).all dL)))) with
   | false => rw [h2] at hs; cases hs
   | true =>
     rw [h2] at hs;cases hs;refine qSY hk fun ph' hd => ?_
     unfold vY;simp only [(hd k hk).trans hob, hn, h1, cond_false, h2, cond_true];rfl
theorem qWA {el : TypeId} {k : Nat} {ph ph1 : PHp} {v : PV} (h : mP P el k ph = some (v, ph1)) : ∃ ob, ph1 = (k, ob) :: ph ∧ ∀ ph', mP P el k ph' = some (v, (k, ob) :: ph') := by
 unfold mP at h ⊢;split at h
 case h_2 => cases h
 rename_i z hz
 cases h1 : spec P el with
 | true => rw [h1] at h; cases h
 | false =>
   rw [h1] at h;cases h;exact ⟨_, rfl, fun _ => by simp only [cond_false]; rfl⟩
theorem q20 {el : TypeId} {x : PV} {k : Nat} {ph ph1 : PHp} {v : PV} (h : qYQ P el x k ph = some (v, ph1)) : ∃ ob, ph1 = (k, ob) :: ph ∧ ∀ ph', qYQ P el x k ph' = some (v, (k, ob) :: ph') := by
 unfold qYQ at h ⊢
 cases h1 : (!(spec P el) && (pnt x && (zF x).all dL)) with
 | false => rw [h1] at h; cases h
 | true =>
   rw [h1] at h;cases h;exact ⟨_, rfl, fun _ => rfl⟩
theorem qV0 {t : TypeId} {len : Nat} {parts : List (Nat × PV)} {k : Nat} {ph ph1 : PHp} {v : PV} (h : z8 P t len parts k ph = some (v, ph1)) : ∃ ob, ph1 = (k, ob) :: ph ∧ ∀ ph', z8 P t len parts k ph' = some (v, (k, ob) :: ph') := by
 unfold z8 at h ⊢;split at h
 case h_2 => cases h
 rename_i el hel;split at h
 case h_2 => cases h
 rename_i s z hs hz
 cases h1 : (Nat.beq z.length (s + 1) && Nat.ble (len * (s + 1)) 65536) with
 | false => rw [h1] at h; cases h
 | true =>
   rw [h1] at h;simp only [cond_true] at h;split at h
   case h_2 => cases h
   rename_i cs hcs;cases h;exact ⟨_, rfl, fun _ => by simp only [hel, hs, hz, h1, cond_true, hcs]; rfl⟩
theorem qYW {t : TypeId} {l c : PV} {k : Nat} {ph ph1 : PHp} {v : PV} (h : xH P t l c k ph = some (v, ph1)) : ∃ ob, ph1 = (k, ob) :: ph ∧ ∀ ph', xH P t l c k ph' = some (v, (k, ob) :: ph') := by
 unfold xH at h ⊢;split at h
 case h_2 => cases h
 rename_i el ki n kj m hel
 cases h0 : decide (n = m) with
 | false => rw [h0] at h; cases h
 | true =>
   rw [h0] at h;simp only [cond_true] at h;split at h
   case h_2 => cases h
   rename_i N s z hN hs hz
   cases h1 : (kL P el && Nat.beq z.length (s + 1)) with
   | false => rw [h1] at h; cases h
   | true =>
     rw [h1] at h;cases h;exact ⟨_, rfl, fun _ => by simp only [hel, h0, cond_true, hN, hs, hz, h1]; rfl⟩
theorem q3A {o : Oper} {env : List PV} {k : Nat} {ph ph1 : PHp} {v : PV} (ho : okE o = true) (h : oQ P o env k ph = some (v, ph1)) : Loc (RC o k env) (oQ P o env k) ph v ph1 := by
 obtain ⟨d, op, ty, pos, aft, g⟩ := o;unfold okE at ho;have dl : ∀ {x : Operand}, x ∈ op.operands -> ∀ l ∈ dl1 (qJ env x), l ∈ dlO ⟨d, op, ty, pos, aft, g⟩ env := fun hx l hl => oM (o := ⟨d, op, ty, pos, aft, g⟩) hx hl
 split at ho
 ·rename_i el hop;cases hop;obtain ⟨ob, rfl, hf⟩ := qWA h;exact dK (by simp [RC, needs]) fun ph' _ => hf ph'
 ·rename_i el x hop;cases hop;obtain ⟨ob, rfl, hf⟩ := q20 h;exact dK (by simp [RC, needs]) fun ph' _ => hf ph'
 ·rename_i t len parts hop;cases hop;obtain ⟨ob, rfl, hf⟩ := qV0 h;exact dK (by simp [RC, needs]) fun ph' _ => hf ph'
 ·rename_i t l c hop;cases hop;obtain ⟨ob, rfl, hf⟩ := qYW h;exact dK (by simp [RC, needs]) fun ph' _ => hf ph'
 ·rename_i t a x hop;cases hop
  exact qTZ (R := RC ⟨d, .store t a x, ty, pos, aft, g⟩ k env) (fun l hl => by
   show l ∈ dlO _ env
   exact dl (x := a) (by simp [Op.operands]) l hl) h
 ·rename_i args ts hop;cases hop
  have h' : (match args.toList.map (qJ env) with
   | [x, y] => yB P ts.toList x y k ph
   | _ => none) = some (v, ph1) := h
  split at h'
  case h_2 => cases h'
  rename_i x y hxy
  have hm : ∀ z ∈ args.toList, ∀ l ∈ dl1 (qJ env z), l ∈ RC ⟨d, .call ⟨.builtin .append, args, ts⟩, ty, pos, aft, g⟩ k env := fun z hz l hl => by
   refine zKD _ (dl (x := z) ?_ l hl);simp [Op.operands, Call.operands, zK6, hz]
  have hx : ∀ l ∈ dl1 x, l ∈ RC ⟨d, .call ⟨.builtin .append, args, ts⟩, ty, pos, aft, g⟩ k env := fun l hl => by
   have : x ∈ args.toList.map (qJ env) := by rw [hxy]; simp
   obtain ⟨z, hz, rfl⟩ := zKX.1 this;exact hm z hz l hl
  have hy : ∀ l ∈ dl1 y, l ∈ RC ⟨d, .call ⟨.builtin .append, args, ts⟩, ty, pos, aft, g⟩ k env := fun l hl => by
   have : y ∈ args.toList.map (qJ env) := by rw [hxy]; simp
   obtain ⟨z, hz, rfl⟩ := zKX.1 this;exact hm z hz l hl
  have := qQX (R := RC ⟨d, .call ⟨.builtin .append, args, ts⟩, ty, pos, aft, g⟩ k env) (by simp [RC, needs]) hx hy h'
  have e : oQ P ⟨d, .call ⟨.builtin .append, args, ts⟩, ty, pos, aft, g⟩ env k = yB P ts.toList x y k := by
   funext q
   show (match args.toList.map (qJ env) with
    | [x, y] => yB P ts.toList x y k q
    | _ => none) = _
   rw [hxy]
  rw [e];exact this
 ·cases ho
class Frs where
 fr : FuncId -> Option TypeId
 fk : IntKind
instance (priority := low) zDQ : Frs := ⟨fun _ => none, .i64⟩
def isK (k : IntKind) : FV -> Bool
 | .v (.int k' _) => decide (k = k')
 | _ => false
def qWJ [Frs] (P : Program) (el : TypeId) (n : Nat) (cs : List FV) : Bool := match szT P el with
 | some (s + 1) => Nat.beq (n * (s + 1)) cs.length && (Nat.ble n 1048576 && (kL P el && cs.all (isK Frs.fk)))
 | _ => false
def FrR (el : TypeId) (n : Nat) (cs : List FV) (v : PV) (p : PHp) : Prop := (n = 0 ∧ v = .f (.l el 0 [])) ∨ (n ≠ 0 ∧ ∃ k0, v = .own k0 n 0 n ∧ qA k0 p = some ⟨el, true, cs.map .f⟩)
class zAZ (P : Program) (G : Nat -> Bool) [Frs] : Prop where
 ok : ∀ g el, Frs.fr g = some el -> enters P g = true ∧ ∀ (n : Nat) (cs : List FV), qWJ P el n cs = true -> ∀ (Z : Nat -> Prop) (H : IH) (zAM : List Value), Hp P Z H (fun _ => none) -> H.base <= H.size -> VRL P Z H (fun _ => none) [.f (.l el n cs)] zAM ->
  uI P G g zAM H fun r => ∃ Z' m' pv p, Hp P Z' r.2 (own m' p) ∧ VR P Z' r.2 (own m' p) pv r.1 ∧ Step Z H (fun _ => none) Z' r.2 (own m' p) ∧ FrR el n cs pv p
instance (priority := low) frsOk0 {G : Nat -> Bool} : @zAZ _ P G zDQ := by
 letI : Frs := zDQ
 exact ⟨fun g el h => by cases h⟩
def frV (k : Nat) (el : TypeId) : Nat -> PV
 | 0 => .f (.l el 0 [])
 | n + 1 => .own k (n + 1) 0 (n + 1)
def frH (k : Nat) (el : TypeId) (cs : List FV) (ph : PHp) : Nat -> PHp
 | 0 => ph
 | _ + 1 => (k, ⟨el, true, cs.map .f⟩) :: ph
theorem qS6 {b : Nat} : ¬ aU (fun _ => none) b := fun ⟨_, _, h, _⟩ => by cases h
theorem qYF [Frs] [zAZ P G] {Z : Nat -> Prop} {H : IH} {m : Nat -> Nat} {ph : PHp} {F : Fence} (hF : bX F) {o : Oper} {env : List PV} {q99 : Env} {f : Inj} {a : Act} {w : World} {g : FuncId} {x : Operand} {zAN : Array Operand} {ts : Array TypeId} {el : TypeId} {n k : Nat} {cs : List FV} (hR : Rel P f H w) (hG : gU G f) (zAH : qC P f q99 a.tmps.toList)
 (hok : o.op.operands.toList.all (jJ (zB f)) = true) (hp : Hp P Z H (own m ph)) (hb : H.base <= H.size) (he : VRL P Z H (own m ph) env q99) (hop : o.op = .call ⟨.value x, zAN, ts⟩) (ht : target (qJ env x) (zAN.toList.map (qJ env)) = some (g, [.f (.l el n cs)])) (hfr : Frs.fr g = some el) (hfo : qWJ P el n cs = true)
 (hfresh : n ≠ 0 -> fresh nm k env ph = true) {K : Act -> World -> Prop} {Qx : Exit -> Act -> World -> Prop}
 (hK : ∀ (Z' : Nat -> Prop) (m' : Nat -> Nat) (u : Value) (H' : IH) (f' : Inj) (v' : Value) (w' : World), Hp P Z' H' (own m' (frH k el cs ph n)) -> VR P Z' H' (own m' (frH k el cs ph n)) (frV k el n) u -> VRL P Z' H' (own m' (frH k el cs ph n)) env q99 -> Step Z H (own m ph) Z' H' (own m' (frH k el cs ph n)) -> KR (inP nm) (own m ph) (own m' (frH k el cs ph n)) ->
   Rel P f' H' w' -> Grow f H w f' H' w' -> zAA P f' u v' -> K (a.put o.dst v') w') : o.wpIn F 0 P a w K Qx := by
 obtain ⟨hent, hc⟩ := zAZ.ok (P := P) (G := G) g el hfr;obtain ⟨zAM, q1, q2⟩ := qA4 (o := o) (ts := ts) he ht hent
 have q3 : VRL P Z H (fun _ => none) [.f (.l el n cs)] zAM := by
  obtain ⟨v, vs, rfl, r1, r2⟩ := q2.zAB;rw [r2.zAE]
  cases r1 with
  | f r1 => exact .cons (.f r1) .nil
 have hci := hc n cs hfo Z H zAM ⟨hp.zlt, fun _ _ _ h => (by cases h), fun _ _ _ _ _ _ h => (by cases h), hp.gl⟩ hb q3;refine wJ (run := vN) (nat := rJ g zAM H _) (G := G) hF (qG6 (qZ2 hci)) qB2 hR hG zAH hok (Q := fun r => ∃ Z' m' pv p, Hp P Z' r.2 (own m' p) ∧ VR P Z' r.2 (own m' p) pv r.1 ∧ Step Z H (fun _ => none) Z' r.2 (own m' p) ∧ FrR el n cs pv p) ?_ ?_
 ·have : iop P o q99 H = some (.enter g zAM H) := by
   unfold iop; rw [hop]; exact q1
  unfold rT;rw [this];show (yS vN (rJ g zAM H _) g zAM H).holds _;rw [qUL];intro r hr;exact hr
 ·rintro ⟨u, H'⟩ v' w' f' ⟨Z', m', pv, p, b1, b2, b3, b4⟩ k1 k2 k3
  have zEI : Old H H' := ⟨b3.size, b3.base, fun b hb => b3.keep b hb qS6⟩
  have z2 : ∀ b, Z' b -> b < H.size -> Z b := fun b h hb => (b3.zA7 b h hb).resolve_right qS6
  have hp1 : Hp P Z' H' (own m ph) := hp.old zEI b3.zle b1.zlt z2;have he1 : VRL P Z' H' (own m ph) env q99 := he.mono (p := fun _ => false) b3.zle b3.size (fun b _ hb => zEI.get b hb) (.refl _ _) (fun j hj => by cases hj);have st1 : Step Z H (own m ph) Z' H' (own m ph) := .old zEI b3.zle z2
  rcases b4 with ⟨rfl, rfl⟩ | ⟨hn, k0, rfl, hk0⟩
  ·refine hK Z' m u H' f' v' w' hp1 ?_ he1 st1 (.refl _ _) k1 k2 k3
   cases b2 with
   | f r => exact .f r
  ·cases n with
   | zero => exact absurd rfl hn
   | succ n =>
   obtain ⟨f1, f2, f3⟩ := q41 nm (hfresh hn)
   have hcs : cs ≠ [] := fun e => by
    unfold qWJ at hfo;split at hfo
    ·rename_i s hs;rw [zJ5] at hfo;have := zJ6 hfo.1;rw [e, zMN] at this;simp at this
    ·cases hfo
   let ob : PO := ⟨el, true, cs.map .f⟩
   have zBA : ¬ (ob.gr = true ∧ ob.cs = []) := fun h => hcs (by simpa [ob] using h.2)
   obtain ⟨x1, x2, x3, x4⟩ : m' k0 < H'.size ∧ H'.base <= m' k0 ∧ ¬ Z' (m' k0) ∧ Lay P Z' H' (own m' p) (m' k0) ob := (b1.obj k0 (m' k0) ob (qN hk0)).resolve_left zBA;have hge : ¬ m' k0 < H.size := fun h => qS6 (b3.onew _ ⟨k0, ob, qN hk0, zBA⟩ h)
   let m2 : Nat -> Nat := fun j => if j = k then m' k0 else m j
   have hnew : own m2 ((k, ob) :: ph) k = some (m' k0, ob) := by
    show (qA k ((k, ob) :: ph)).map _ = _;simp [qA, m2]
   have hold : ∀ j, j ≠ k -> own m2 ((k, ob) :: ph) j = own m ph j := fun j hj => by
    unfold own;rw [zW hj];simp only [m2, if_neg hj]
   have hkr : KR (fun j => j == k) (own m ph) (own m2 ((k, ob) :: ph)) := fun j b o hk => by
    by_cases hj : j = k
    ·exact .inr (.inr (by simp [hj]))
    ·rw [hold j hj] at hk; exact .inl ⟨o, hk, rfl, rfl, rfl⟩
   have mono : ∀ {xs : List PV} {vs : List Value}, VRL P Z' H' (own m ph) xs vs -> zY k xs = true -> VRL P Z' H' (own m2 ((k, ob) :: ph)) xs vs := fun h hn => h.mono (fun _ h => h) (zJ7 _) (fun _ _ _ => rfl) hkr fun j hj => by
    have : j = k := by simpa using hj
    subst this; exact hn
   have hp2 : Hp P Z' H' (own m2 ((k, ob) :: ph)) := by
    refine ⟨hp1.zlt, fun j b o hk => ?_, fun j j' b b' o o' h1 h2 r1 r2 hne => ?_, hp1.gl⟩
    ·by_cases hj : j = k
     ·subst hj;rw [hnew] at hk; cases hk;exact .inr ⟨x1, x2, x3, x4.mono rfl fun vs hv => FRL.map (qFV hv)⟩
     ·rw [hold j hj] at hk
      rcases hp1.obj j b o hk with h | ⟨a1, a2, a3, a4⟩
      ·exact .inl h
      ·exact .inr ⟨a1, a2, a3, a4.mono rfl fun _ a5 => mono a5 (jM f3 (uF hk).1)⟩
    ·have lt : ∀ {i c q}, own m ph i = some (c, q) -> ¬ (q.gr = true ∧ q.cs = []) -> c < H.size := fun h r => ((hp.obj _ _ _ h).resolve_left r).1
     by_cases hj : j = k
     ·subst hj;rw [hnew] at h1; cases h1;rw [hold j' (Ne.symm hne)] at h2;intro e;exact hge (e ▸ lt h2 r2)
     ·rw [hold j hj] at h1;by_cases hj' : j' = k
      ·subst hj';rw [hnew] at h2; cases h2;intro e;exact hge (e ▸ lt h1 r1)
      ·rw [hold j' hj'] at h2;exact hp1.inj j j' b b' o o' h1 h2 r1 r2 hne
   have hv2 : VR P Z' H' (own m2 ((k, ob) :: ph)) (.own k (n + 1) 0 (n + 1)) u := by
    cases b2 with
    | own y1 y2 =>
      refine .own y1 fun b o hM => ?_
      rw [hnew] at hM; cases hM;exact y2 _ _ (qN hk0)
   have zHS : Step Z H (own m ph) Z' H' (own m2 ((k, ob) :: ph)) := ⟨b3.size, b3.base, b3.zle, fun b hb _ => zEI.get b hb, fun b h hb => .inl (z2 b h hb), fun b ⟨j, o, h1, h2⟩ hb => by
    by_cases hj : j = k
    ·subst hj; rw [hnew] at h1; cases h1; exact absurd hb hge
    ·rw [hold j hj] at h1; exact ⟨j, o, h1, h2⟩⟩
   have zHT : KR (inP nm) (own m ph) (own m2 ((k, ob) :: ph)) := hkr.up fun j hj => by
    rw [show j = k by simpa using hj];exact f1
   exact hK Z' m2 u H' f' v' w' hp2 hv2 (mono he1 f2) zHS zHT k1 k2 k3
end Go.Idl
