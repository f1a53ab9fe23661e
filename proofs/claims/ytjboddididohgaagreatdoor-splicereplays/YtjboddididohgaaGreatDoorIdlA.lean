/- An ideal interpreter of the model's code: its definitions; the relation of an ideal heap and a world. Conditions: none. -/
import Derived.ControlIn
import Derived.Scope
import GoSem.Machine.Frame
import GoSem.Dispatch
import Derived.RangeFuncRecord
import Derived.OrdersIn
set_option linter.all false
namespace Go.Idl
def zJ5 := @Bool.and_eq_true
def zJ6 := @Nat.eq_of_beq_eq_true
def zJ7 := @Nat.le_refl
def zJ8 := @List.all_eq_true
def zJ9 := @List.getElem?_eq_getElem
def zKA := @List.getElem?_eq_some_iff
def zKB := @Nat.lt_of_lt_of_le
def zKC := @Option.some.injEq
def zKD := @List.mem_cons_of_mem
def zKE := @Nat.le_of_ble_eq_true
def zKF := @Option.map_eq_some_iff
def zKG := @Array.getElem?_eq_some_iff
def zKH := @Array.getD_eq_getD_getElem?
def zKI := @List.mem_cons_self
def zKJ := @Option.map_some
def zKK := @Array.getElem?_eq_getElem
def zKL := @List.getElem?_map
def zKM := @List.map_cons
def zKN := @Nat.ble_eq_true_of_le
def zKO := @List.length_cons
def zKP := @Option.bind_some
def zKQ := @List.length_map
def zKR := @Nat.le_trans
def zKS := @List.mem_cons
def zKT := @Nat.zero_add
def zKU := @List.getElem?_cons_zero
def zKV := @List.cons.injEq
def zKW := @List.length_append
def zKX := @List.mem_map
def zKY := @Array.length_toList
def zKZ := @List.flatMap_cons
def zK0 := @List.append_assoc
def zK1 := @Nat.lt_succ_self
def zK2 := @List.getElem?_set
def zK3 := @Option.isSome_iff_exists
def zK4 := @Bool.not_eq_true'
def zK5 := @Option.some.inj
def zK6 := @Array.mem_def
def zK7 := @List.take_of_length_le
def zK8 := @List.mem_of_getElem?
def zK9 := @List.all_cons
def zLA := @Bool.and_self
def zLB := @Bool.or_eq_true
def zLC := @List.map_append
def zLD := @Array.ext'
def zLE := @List.getElem?_eq_none
def zLF := @List.map_congr_left
def zLG := @List.length_take
def zLH := @List.ext_getElem?
def zLI := @List.getElem?_take
def zLJ := @List.mem_append
def zLK := @List.length_eq_zero_iff
def zLL := @List.getElem?_append_right
def zLM := @List.getD_eq_getElem?_getD
def zLN := @List.getElem?_drop
def zLO := @List.foldl_cons
def zLP := @Nat.mul_le_mul_right
def zLQ := @Array.eq_empty_of_size_eq_zero
def zLR := @List.mem_append_left
def zLS := @List.append_nil
def zLT := @List.getElem?_append_left
def zLU := @List.replicate_succ
def zLV := @Nat.lt_succ_of_lt
def zLW := @Bool.false_eq_true
def zLX := @Option.bind_eq_some_iff
def zLY := @Nat.add_assoc
def zLZ := @List.take_succ_cons
def zL0 := @List.mem_append_right
def zL1 := @Option.getD_some
def zL2 := @List.cons_append
def zL3 := @Int.toNat_natCast
def zL4 := @Nat.min_eq_left
def zL5 := @Nat.zero_le
def zL6 := @Array.all_eq_true_iff_forall_mem
def zL7 := @Array.mem_append
def zL8 := @List.getElem?_toArray
def zL9 := @List.mem_singleton
def zMA := @Array.foldl_toList
def zMB := @List.mem_filterMap
def zMC := @Array.getElem?_setIfInBounds_ne
def zMD := @List.mk_mem_zipIdx_iff_getElem?
def zME := @Nat.add_zero
def zMF := @List.map_nil
def zMG := @Bool.and_true
def zMH := @List.map_drop
def zMI := @List.map_take
def zMJ := @List.getElem_mem
def zMK := @Array.toList_map
def zML := @List.length_drop
def zMM := @List.drop_zero
def zMN := @Nat.succ_mul
def zMO := @Bool.false_ne_true
def zMP := @List.length_replicate
def zMQ := @Array.toList_setIfInBounds
def zMR := @List.size_toArray
def zMS := @List.mem_iff_getElem
def zMT := @List.getElem?_eq_none_iff
def zMU := @List.drop_eq_getElem_cons
def zMV := @List.mem_of_mem_drop
def zMW := @Nat.add_mul
def zMX := @List.set_eq_take_append_cons_drop
def zMY := @List.mem_range
def zMZ := @Nat.add_comm
def zM0 := @List.filter_cons
def zM1 := @Array.toList_modify
def zM2 := @Array.toList_filter
def zM3 := @List.getElem?_cons_succ
def zM4 := @List.getElem?_replicate
def zM5 := @List.mem_singleton_self
def zM6 := @Bool.false_or
def zM7 := @List.length_set
def zM8 := @Option.isSome_some
def zM9 := @List.length_nil
def zNA := @Array.getElem?_toList
def zNB := @List.zipIdx_cons
def zNC := @List.countP_cons
def zND := @List.mem_of_mem_take
def zNE := @Nat.min_eq_right
def zNF := @Nat.lt_irrefl
def zNG := @List.countP_eq_zero
def zNH := @List.flatMap_append
def zNI := @Nat.mul_eq_zero
def zNJ := @List.all_append
def zNK := @List.map_map
def zNL := @Array.getElem?_replicate
def zNM := @List.drop_drop
def zNN := @Nat.add_sub_cancel_left
def zNO := @Bool.eq_false_iff
def zNP := @List.flatten_cons
def zNQ := @Array.size_modify
def zNR := @Array.getElem?_eq_none
def zNS := @Nat.le_succ
def zNT := @Bool.not_true
def zNU := @Bool.or_false
def zNV := @List.mem_flatten
def zNW := @Nat.succ_lt_succ
def zNX := @Nat.le_of_not_lt
def zNY := @List.take_succ_eq_append_getElem
def zNZ := @List.mem_iff_getElem?
def zN0 := @List.take_append_drop
def zN1 := @List.countP_le_length
def zN2 := @List.getElem?_append
def zN3 := @List.getElem?_modify
def zN4 := @Array.size_push
def zN5 := @Option.map_none
def zN6 := @Bool.or_eq_false_iff
def zN7 := @List.mem_map_of_mem
def zN8 := @List.getElem?_range
def zN9 := @List.filterMap_cons
def zOA := @List.mapM_cons
def zOB := @List.take_take
def zOC := @Array.ext_getElem?
def zOD := @Option.isSome_none
def zOE := @Bool.true_and
open Go
variable {c : Code}
section
variable {F : Fence} {n : Nat} {P : Program} {b : Frame} {a : Act} {k : List Item} {cs : List Frame} {w : World} {Q : Exit -> Act -> World -> Prop}
theorem jD : step P (lone (b.atR a (.code (.scope c) :: k)) cs w) = .next (lone (b.atR a (.code c :: .inScope c :: k)) cs w) := step_lone_go (by simp [stepG, stepG.exec, Frame.atR])
theorem qE3 : step P (lone (b.atR a (.inScope c :: k)) cs w) = .next (lone (b.atR a k) cs w) := step_lone_go (by simp [stepG, stepG.exec, Frame.atR])
theorem vQ (h : c.wpIn F n P (Exit.noGoto Q) a w) : (Code.scope c).wpIn F n P Q a w := by
 intro b k cs hro hb hr;have h0 : (lone (b.atR a (.code (.scope c) :: k)) cs w).fenced P F := fenced_calm hb hr rfl;obtain ⟨e, a₁, w₁, hq, harr⟩ := h b (.inScope c :: k) cs hro hb hr
 cases e with
 | normal => exact ⟨.normal, a₁, w₁, hq, .head h0 jD (StepsIn.trans harr (.one (fenced_calm hb hr rfl) qE3))⟩
 | exit id =>
   have hx : exitTo id (.inScope c :: k) = exitTo id k := by simp [exitTo]
   exact ⟨.exit id, a₁, w₁, hq, fun k' hk => .head h0 jD (harr.1 k' (by rw [hx]; exact hk)),
    fun hr' hk => let ⟨k₁, h1, h2⟩ := harr.2 hr' (by rw [hx]; exact hk); ⟨k₁, h1, .head h0 jD h2⟩⟩
 | goto l => exact hq.elim
 | ret => exact ⟨_, a₁, w₁, hq, .of_steps (.one h0 jD) harr⟩
 | panic ch => exact ⟨_, a₁, w₁, hq, .of_steps (.one h0 jD) harr⟩
 | outgrown => exact ⟨_, a₁, w₁, hq, .of_steps (.one h0 jD) harr⟩
end
end Go.Idl
namespace Go.Idl
def q71 : List (Nat × Nat) := [(3, 20)]
noncomputable section
inductive Tr (α : Type) : Type where
 | nil : Tr α
 | node (v : Option α) (l r : Tr α) : Tr α
namespace Tr
variable {α : Type}
def get (t : Tr α) : Nat -> Option α :=
 Tr.rec (fun _ => none) (fun v _ _ ihl ihr n => Nat.casesOn n v fun m => cond (Nat.beq (m % 2) 0) (ihl (m / 2)) (ihr (m / 2))) t
theorem get_nil (n : Nat) : (Tr.nil : Tr α).get n = none := rfl
theorem bM (v : Option α) (l r : Tr α) : (Tr.node v l r).get 0 = v := rfl
theorem wM (v : Option α) (l r : Tr α) (n : Nat) : (Tr.node v l r).get (n + 1) = if n % 2 = 0 then l.get (n / 2) else r.get (n / 2) := by
 show cond (Nat.beq (n % 2) 0) (l.get (n / 2)) (r.get (n / 2)) = _;by_cases h : n % 2 = 0
 ·rw [if_pos h, h]; rfl
 ·rw [if_neg h];have : n % 2 = 1 := by omega
  rw [this]; rfl
def qOB (f : Nat) : Tr α -> Nat -> α -> Tr α :=
 Nat.rec (fun t _ _ => t) (fun _ ih t n a => Tr.casesOn t
  (Nat.casesOn n (.node (some a) .nil .nil) fun m => cond (Nat.beq (m % 2) 0) (.node none (ih .nil (m / 2) a) .nil) (.node none .nil (ih .nil (m / 2) a)))
  (fun v l r => Nat.casesOn n (.node (some a) l r) fun m => cond (Nat.beq (m % 2) 0) (.node v (ih l (m / 2) a) r) (.node v l (ih r (m / 2) a)))) f
theorem qGS (f : Nat) (a : α) : qOB (f + 1) .nil 0 a = .node (some a) .nil .nil := rfl
theorem qCI (f : Nat) (v : Option α) (l r : Tr α) (a : α) : qOB (f + 1) (.node v l r) 0 a = .node (some a) l r := rfl
theorem rE (n : Nat) : Nat.beq (n % 2) 0 = decide (n % 2 = 0) := by
 by_cases h : n % 2 = 0
 ·rw [h]; rfl
 ·rw [decide_eq_false h];have : n % 2 = 1 := by omega
  rw [this]; rfl
theorem mD (f n : Nat) (a : α) : qOB (f + 1) .nil (n + 1) a = if n % 2 = 0 then .node none (qOB f .nil (n / 2) a) .nil else .node none .nil (qOB f .nil (n / 2) a) := by
 show cond (Nat.beq (n % 2) 0) (Tr.node none (qOB f .nil (n / 2) a) .nil) (Tr.node none .nil (qOB f .nil (n / 2) a)) = _;rw [rE]; by_cases h : n % 2 = 0 <;> simp [h]
theorem dD (f n : Nat) (v : Option α) (l r : Tr α) (a : α) : qOB (f + 1) (.node v l r) (n + 1) a = if n % 2 = 0 then .node v (qOB f l (n / 2) a) r else .node v l (qOB f r (n / 2) a) := by
 show cond (Nat.beq (n % 2) 0) (Tr.node v (qOB f l (n / 2) a) r) (Tr.node v l (qOB f r (n / 2) a)) = _;rw [rE]; by_cases h : n % 2 = 0 <;> simp [h]
def set (t : Tr α) (n : Nat) (a : α) : Tr α := qOB (n + 1) t n a
theorem qYR (f : Nat) : ∀ (t : Tr α) (n m : Nat) (a : α), n < f -> (qOB f t n a).get m = if m = n then some a else t.get m := by
 induction f with
 | zero => intro t n m a h; omega
 | succ f ih =>
   intro t n m a h
   cases t with
   | nil =>
     cases n with
     | zero => cases m <;> simp [qGS, bM, wM, get_nil]
     | succ n =>
       have hlt : n / 2 < f := by omega
       by_cases hn : n % 2 = 0
       ·rw [mD, if_pos hn]
        cases m with
        | zero => simp [bM, get_nil]
        | succ m =>
          rw [wM];by_cases hm : m % 2 = 0
          ·rw [if_pos hm, ih _ _ _ _ hlt];by_cases e : m = n
           ·simp [e]
           ·rw [if_neg (by omega), if_neg (by omega), get_nil, get_nil]
          ·rw [if_neg hm, if_neg (by omega), get_nil, get_nil]
       ·rw [mD, if_neg hn]
        cases m with
        | zero => simp [bM, get_nil]
        | succ m =>
          rw [wM];by_cases hm : m % 2 = 0
          ·rw [if_pos hm, if_neg (by omega), get_nil, get_nil]
          ·rw [if_neg hm, ih _ _ _ _ hlt];by_cases e : m = n
           ·simp [e]
           ·rw [if_neg (by omega), if_neg (by omega), get_nil, get_nil]
   | node v l r =>
     cases n with
     | zero => cases m <;> simp [qCI, bM, wM]
     | succ n =>
       have hlt : n / 2 < f := by omega
       by_cases hn : n % 2 = 0
       ·rw [dD, if_pos hn]
        cases m with
        | zero => simp [bM]
        | succ m =>
          rw [wM, wM];by_cases hm : m % 2 = 0
          ·rw [if_pos hm, if_pos hm, ih _ _ _ _ hlt];by_cases e : m = n
           ·simp [e]
           ·rw [if_neg (by omega), if_neg (by omega)]
          ·rw [if_neg hm, if_neg hm, if_neg (by omega)]
       ·rw [dD, if_neg hn]
        cases m with
        | zero => simp [bM]
        | succ m =>
          rw [wM, wM];by_cases hm : m % 2 = 0
          ·rw [if_pos hm, if_pos hm, if_neg (by omega)]
          ·rw [if_neg hm, if_neg hm, ih _ _ _ _ hlt];by_cases e : m = n
           ·simp [e]
           ·rw [if_neg (by omega), if_neg (by omega)]
theorem zBL (t : Tr α) (n m : Nat) (a : α) : (t.set n a).get m = if m = n then some a else t.get m := qYR _ t n m a (zK1 n)
end Tr
structure IH where
 tr : Tr Obj
 size : Nat
 base : Nat
 log : List Nat
def yV : Obj := .pending #[] 0
def IH.get (H : IH) (b : Nat) : Option Obj := H.tr.get b
def IH.put (H : IH) (b : Nat) (o : Obj) : IH := { H with tr := H.tr.set b o, log := b :: H.log }
def IH.push (H : IH) (o : Obj) : IH := { H with tr := H.tr.set H.size o, size := H.size + 1 }
def oneCell : Value -> Bool
 | .agg _ | .tuple _ => false
 | _ => true
def aI (fz : Nat × Nat) : Bool := fz.2 <= fz.1
def IH.load (H : IH) (b i : Nat) : Option Value :=
 match H.get b with
 | some (.cells c _ _) => c[i]?
 | _ => none
def IH.loads (H : IH) (b i n : Nat) : Option (List Value) :=
 match H.get b with
 | some (.cells c _ _) => if i + n <= c.size then some ((c.toList.drop i).take n) else none
 | _ => none
def overwrite (l : List Value) (i : Nat) (vs : List Value) : List Value := l.take i ++ vs ++ l.drop (i + vs.length)
def IH.stores (H : IH) (b i : Nat) (vs : List Value) : Option IH :=
 match H.get b with
 | some (.cells c el fz) =>
   if i + vs.length <= c.size && aI fz && decide (H.base <= b) && vs.all oneCell then some (H.put b (.cells (overwrite c.toList i vs).toArray el fz)) else none
 | _ => none
def kM {α : Type} (p : α -> Bool) (l : List α) : Bool := List.rec true (fun a _ ih => cond (p a) ih false) l
theorem qWX {α : Type} (p : α -> Bool) : kM p [] = true := rfl
theorem xB {α : Type} (p : α -> Bool) (a : α) (l : List α) : kM p (a :: l) = (p a && kM p l) := by
 show cond (p a) (kM p l) false = _;cases p a <;> rfl
theorem xG {α : Type} {p : α -> Bool} {l : List α} : kM p l = true ↔ ∀ a ∈ l, p a = true := by
 induction l with
 | nil => simp [qWX]
 | cons a l ih => simp [xB, ih]
def zC {α : Type} (l : List α) : Nat -> Option α :=
 List.rec (fun _ => none) (fun a _ ih n => Nat.casesOn n (some a) fun m => ih m) l
theorem qF {α : Type} (l : List α) : ∀ n, zC l n = l[n]? := by
 induction l with
 | nil => intro n; simp; rfl
 | cons a l ih =>
   intro n
   cases n with
   | zero => simp; rfl
   | succ n => have : zC (a :: l) (n + 1) = zC l n := rfl
               rw [this, ih]; simp
def xA {α : Type} (l : List α) : Nat -> α -> List α :=
 List.rec (fun _ _ => []) (fun a t ih n v => Nat.casesOn n (v :: t) fun m => a :: ih m v) l
theorem zA {α : Type} (l : List α) : ∀ n v, xA l n v = l.set n v := by
 induction l with
 | nil => intro n v; simp; rfl
 | cons a l ih =>
   intro n v
   cases n with
   | zero => simp; rfl
   | succ n => have : xA (a :: l) (n + 1) v = a :: xA l n v := rfl
               rw [this, ih]; simp
def kF {α β : Type} (g : α -> β) (l : List α) : List β := List.rec [] (fun a _ ih => g a :: ih) l
theorem yZ {α β : Type} (g : α -> β) (l : List α) : kF g l = l.map g := by
 induction l with
 | nil => rfl
 | cons a l ih => show g a :: kF g l = _; rw [ih]; rfl
def qD7 {α : Type} (l m : List α) : List α := List.rec m (fun a _ ih => a :: ih) l
theorem dY {α : Type} (l m : List α) : qD7 l m = l ++ m := by
 induction l with
 | nil => rfl
 | cons a l ih => show a :: qD7 l m = _; rw [ih]; rfl
def q5T : Fn -> Bool
 | .func _ => true
 | _ => false
def xD (n : Nat) : Value -> Bool :=
 Nat.rec (fun _ => false) (fun _ ih v => match v with
  | .bool _ | .int _ _ | .float _ _ | .complex _ _ _ | .string _ | .nilFunc | .nilIface => true
  | .pointer a => a.isNone
  | .slice a l c => a.isNone && (Nat.beq l 0 && Nat.beq c 0)
  | .map r | .chan r => r.isNone
  | .func fn first captured => q5T fn && (kM ih first.toList && kM ih captured.toList)
  | .iface _ v => ih v
  | .agg cs => kM ih cs.toList
  | .tuple _ => false) n
def zO (v : Value) : Bool := xD 3 v
def zL (l : List Value) : Bool := kM zO l
def yE {α : Type} (P : Program) (s : Sem α) : Option α :=
 Sem.rec (motive := fun _ => Option α) (fun a => some a) (fun _ _ _ _ => none) (fun _ _ _ _ _ => none) (fun _ _ _ => none) (fun _ _ _ => none) (fun _ _ _ _ => none) (fun _ _ _ => none)
  (fun _ _ _ => none) (fun _ _ _ _ => none) (fun q _ ih => cond q.forced (ih 0) none) (fun _ _ _ => none) (fun _ ih => ih P) (fun _ _ ih => ih) (fun _ => none) s
abbrev Env := List Value
def unk : Value := .tuple #[.tuple #[]]
def Env.val (env : Env) : Operand -> Value
 | .tmp t => (zC env t).getD undef
 | .const v => v
 | .global g => .pointer (some ⟨g, 0, none⟩)
 | .func f => .func (.func f) #[] #[]
def Env.zAR (env : Env) (d : Option Tmp) (v : Value) : Env :=
 match d with
 | some t => xA env t v
 | none => env
def qUC (want : Bool) : Value -> Option Bool
 | .bool b => some (b == want)
 | .tuple vs => cond vs.isEmpty (some false) none
 | _ => none
def xU (ops : Array Oper) (o : Oper) (env : Env) : Option Bool :=
 match o.guard with
 | none => some true
 | some (j, want) => match (ops[j]?).bind (·.dst) with
   | some t => match zC env t with
     | some v => qUC want v
     | none => none
   | none => some false
def qKT (P : Program) (t : TypeId) : Option Bool :=
 match P.underlying t with
 | some (.struct _) | some (.array _ _) => some true
 | some _ => some false
 | none => none
def vV (P : Program) (t : TypeId) : Option Value := (P.info? t).bind (·.zero)
def qB7 (P : Program) (t : TypeId) : Option Value :=
 match vV P t with
 | some z => if zL z.cells.toList then some z else none
 | none => none
def szT (P : Program) (t : TypeId) : Option Nat := (P.info? t).map (·.size)
inductive zAF where
 | val (v : Value) (H : IH)
 | enter (f : FuncId) (args : List Value) (H : IH)
 | round (l : Nat) (args : List Value) (H : IH)
 | choice (n : Nat) (k : Nat -> Option (Value × IH))
def zAF.ofO (H : IH) : Option Value -> Option zAF
 | some v => some (.val v H)
 | none => none
def kC (P : Program) (t : TypeId) (a : Value) (H : IH) : Option Value :=
 match a with
 | .pointer (some ⟨b, i, none⟩) =>
   match qKT P t with
   | some true => match szT P t with
     | some n => match H.loads b i n with
       | some l => some (.agg l.toArray)
       | none => none
     | none => none
   | some false => H.load b i
   | none => none
 | _ => none
def gP (P : Program) (t : TypeId) (a v : Value) (H : IH) : Option IH :=
 match a with
 | .pointer (some ⟨b, i, none⟩) =>
   if szT P t = some v.cells.size then H.stores b i v.cells.toList else none
 | _ => none
def qY : Value -> Bool
 | .tuple _ => false
 | _ => true
def qHS (P : Program) (t : TypeId) (parts : List (Nat × Value)) : Option Value :=
 match qB7 P t, P.underlying t with
 | some zero, some (.struct fields) =>
   match fields.toList.mapM (fun f => (szT P f.type).map fun s => (f.offset, s)) with
   | some places => if parts.all (fun p => qY p.2) then (Instr.fill (fun i => places.toArray[i]?) zero.cells parts).map .agg else none
   | none => none
 | some zero, some (.array _ elem) =>
   match szT P elem with
   | some size => if parts.all (fun p => qY p.2) then (Instr.fill (fun i => some (i * size, size)) zero.cells parts).map .agg else none
   | none => none
 | _, _ => none
def fJ (P : Program) (elem : TypeId) (n : Nat) : Option (Array Value) :=
 if n = 0 then some #[] else (qB7 P elem).map fun z => (Array.range n).map fun i => z.cells[i % z.cells.size]!
def kD (P : Program) (t : TypeId) (len : Nat) (parts : List (Nat × Value)) (H : IH) : Option zAF :=
 match P.underlying t with
 | some (.slice elem) =>
   match szT P elem with
   | some size =>
     if len * size <= 65536 && parts.all (fun p => qY p.2) then
      match fJ P elem (len * size) with
      | some z => match Instr.fill (fun i => some (i * size, size)) z parts with
        | some cells => some (.val (.slice (some ⟨H.size, 0, none⟩) len len) (H.push (.cells cells elem)))
        | none => none
      | none => none
     else none
   | none => none
 | _ => none
def jI (P : Program) (t : TypeId) (l c : Value) (H : IH) : Option zAF :=
 match P.underlying t, l, c with
 | some (.slice elem), .int _ l, .int _ c =>
   match P.info? elem with
   | some i =>
     if 0 <= l && l <= c && (i.bytes : Int) * c <= 2 ^ 47 && c <= 2 ^ 47 then
      match fJ P elem (c.toNat * i.size) with
      | some z => some (.val (.slice (some ⟨H.size, 0, none⟩) l.toNat c.toNat) (H.push (.cells z elem)))
      | none => none
     else none
   | none => none
 | _, _, _ => none
def uN (d : Nat) (most : Nat) : Option Value -> Option Nat
 | none => some d
 | some (.int _ i) => if 0 <= i && i <= (most : Int) then some i.toNat else none
 | some _ => none
def zJ : Nat × Nat := (1, 1)
def wO (P : Program) (t : TypeId) (x : Value) (lo hi mx : Option Value) : Option Value :=
 match P.underlying t, x, mx with
 | some (.slice elem), .slice none 0 0, none =>
   match szT P elem, uN 0 0 hi with
   | some _, some h => match uN 0 h lo with
     | some _ => some (.slice none 0 0)
     | none => none
   | _, _ => none
 | some (.slice elem), .slice (some ⟨b, o, sp⟩) len cap, none =>
   match szT P elem, uN len cap hi with
   | some size, some h => match uN 0 h lo with
     | some l => if sp.all (· == elem) && Nat.ble h cap then some (.slice (some ⟨b, if cap = l then o else o + l * size, sp⟩) (h - l) (cap - l)) else none
     | none => none
   | _, _ => none
 | some (.array n elem), .pointer (some ⟨b, o, none⟩), none =>
   match szT P elem, uN n n hi with
   | some size, some h => match uN 0 h lo with
     | some l => some (.slice (some ⟨b, if n = l then o else o + l * size, none⟩) (h - l) (n - l))
     | none => none
   | _, _ => none
 | _, _, _ => none
def bK (P : Program) (s : TypeId) (x : Value) (fd : Nat) : Option Value :=
 match P.underlying s, x with
 | some (.struct fields), .pointer (some ⟨b, o, none⟩) =>
   match fields[fd]? with
   | some f => match szT P f.type with
     | some sz => if sz = 0 then none else some (.pointer (some ⟨b, o + f.offset, none⟩))
     | none => none
   | none => none
 | _, _ => none
def qP5 (P : Program) (t : TypeId) (cs : Array Value) (off : Nat) : Option Value :=
 match qKT P t with
 | some true => match szT P t with
   | some n => if off + n <= cs.size then some (.agg (cs.extract off (off + n))) else none
   | none => none
 | some false => cs[off]?
 | none => none
def qRN (P : Program) (t : TypeId) (x : Value) (fd : Nat) : Option Value :=
 match P.underlying t, x with
 | some (.struct fields), .agg cs => match fields[fd]? with
   | some f => qP5 P f.type cs f.offset
   | none => none
 | _, _ => none
def xR (P : Program) (t : TypeId) (x ix : Value) : Option Value :=
 match P.underlying t, x, ix with
 | some (.array n elem), .pointer (some ⟨b, o, none⟩), .int _ i =>
   match szT P elem with
   | some size => if 0 <= i && i < (n : Int) then some (.pointer (some ⟨b, o + i.toNat * size, none⟩)) else none
   | none => none
 | some (.slice elem), .slice (some ⟨b, o, _⟩) len _, .int _ i =>
   match szT P elem with
   | some size => if 0 <= i && i < (len : Int) then some (.pointer (some ⟨b, o + i.toNat * size, none⟩)) else none
   | none => none
 | _, _, _ => none
def rD (P : Program) (t : TypeId) (x ix : Value) : Option Value :=
 match P.underlying t, x, ix with
 | some (.array n elem), .agg cs, .int _ i =>
   match szT P elem with
   | some size => if 0 <= i && i < (n : Int) then qP5 P elem cs (i.toNat * size) else none
   | none => none
 | _, _, _ => none
def wE (P : Program) (kt : TypeId) (k : Value) (es : List MapEntry) : Option (Option Nat) :=
 if zO k && es.all (fun e => zO e.key) then
  match yE P (Instr.checkKey es.isEmpty 10000 kt k), yE P (Instr.checkKey false 10000 kt k), yE P (Instr.findKey kt k es) with
  | some _, some _, some r => some (r.map (·.1))
  | _, _, _ => none
 else none
def qZ4 (ok : Bool) (v : Value) (b : Bool) : Value := cond ok (.tuple #[v, .bool b]) v
def tL (P : Program) (t : TypeId) (x k : Value) (ok : Bool) (H : IH) : Option Value :=
 match P.underlying t, x with
 | some (.map kt et), .map (some r) =>
   match H.get r with
   | some (.map es _) => match wE P kt k es.toList with
     | some (some i) => match es[i]? with
       | some e => some (qZ4 ok e.val true)
       | none => none
     | some none => match vV P et with
       | some z => if zO z then some (qZ4 ok z false) else none
       | none => none
     | none => none
   | _ => none
 | _, _ => none
def xI (P : Program) (t : TypeId) (x k v : Value) (H : IH) : Option IH :=
 match P.underlying t, x with
 | some (.map kt _), .map (some r) =>
   match H.get r with
   | some (.map es clock) =>
     if decide (H.base <= r) && qY v then
      match wE P kt k es.toList with
      | some (some i) => match es[i]? with
        | some e => if Instr.sameBits 10000 e.key k then some (H.put r (.map (es.modify i fun e => { e with key := k, val := v }) clock)) else none
        | none => none
      | some none => some (H.put r (.map (es.push { key := k, val := v, born := clock }) (clock + 1)))
      | none => none
     else none
   | _ => none
 | _, _ => none
def vW (P : Program) (t : TypeId) (x k : Value) (H : IH) : Option zAF :=
 match P.underlying t, x with
 | some (.map kt et), .map (some r) =>
   match H.get r with
   | some (.map es clock) =>
     if decide (H.base <= r) then
      match wE P kt k es.toList with
      | some (some i) => match es[i]? with
        | some e => if Instr.sameBits 10000 e.key k then some (.val (.tuple #[e.val, goInt e.born]) (H.put r (.map (es.modify i fun e => { e with key := k }) clock))) else none
        | none => none
      | some none => match vV P et with
        | some z => if zO z then some (.val (.tuple #[z, goInt clock]) (H.put r (.map (es.push { key := k, val := z, born := clock }) (clock + 1)))) else none
        | none => none
      | none => none
     else none
   | _ => none
 | _, _ => none
def gD (x stamp v : Value) (H : IH) : Option IH :=
 match x, stamp with
 | .map (some r), .int _ born =>
   match H.get r with
   | some (.map es clock) =>
     if decide (H.base <= r) && qY v then
      match es.findIdx? (fun e => (e.born : Int) == born) with
      | some i => some (H.put r (.map (es.modify i fun e => { e with val := v }) clock))
      | none => none
     else none
   | _ => none
 | _, _ => none
def qHL (P : Program) (t : TypeId) (x : Value) (H : IH) : Option zAF :=
 match P.underlying t, x with
 | some .string, .string s => some (.val (.pointer (some ⟨H.size, 0, none⟩)) (H.push (.stringIter s 0)))
 | some (.map _ _), .map (some m) => match H.get m with
   | some (.map _ clock) => some (.val (.pointer (some ⟨H.size, 0, none⟩)) (H.push (.mapIter (some m) clock #[] 0)))
   | _ => none
 | _, _ => none
def insertSorted (n : Nat) : List Nat -> List Nat
 | [] => [n]
 | m :: l => if n < m then n :: m :: l else m :: insertSorted n l
def qFL (m r since : Nat) (seen : Array Nat) (left : Array MapEntry) (H : IH) : Option zAF :=
 if left.isEmpty then some (.val (.tuple #[.bool false]) (H.put r (.mapIter (some m) since seen 0)))
 else some (.choice left.size fun i => match left[i]? with
  | some e => if !zO e.key then none else some (.tuple #[.bool true, e.key, e.val], H.put r (.mapIter (some m) since (insertSorted e.born seen.toList).toArray (e.born + 1)))
  | none => none)
def qHT (x : Value) (isString : Bool) (H : IH) : Option zAF :=
 match x with
 | .pointer (some ⟨r, 0, none⟩) =>
   match H.get r, isString with
   | some (.stringIter s pos), true =>
     if decide (H.base <= r) then
      if pos < s.size then
       some (.val (.tuple #[.bool true, goInt pos, .int .i32 (Utf8.decode s pos).1]) (H.put r (.stringIter s (pos + (Utf8.decode s pos).2))))
      else some (.val (.tuple #[.bool false]) H)
     else none
   | some (.mapIter (some m) since seen _), false =>
     match H.get m with
     | some (.map es clock) =>
       if decide (H.base <= r) && clock == since && es.all (fun e => e.born < since) then
        qFL m r since seen (es.filter fun e => !seen.contains e.born) H
       else none
     | _ => none
   | _, _ => none
 | _ => none
def qC9 (x : Value) (H : IH) : Option Value :=
 match x with
 | .pointer (some ⟨r, 0, none⟩) =>
   match H.get r with
   | some (.mapIter (some m) since _ (last + 1)) => match H.get m with
     | some (.map es clock) => if clock == since then (match es.find? (·.born == last) with
       | some e => if zO e.key then some (.tuple #[e.key, e.val]) else none
       | none => none) else none
     | _ => none
   | _ => none
 | _ => none
def qSN (P : Program) (t : TypeId) : Value -> Value -> Option Bool
 | .pointer (some a), .pointer (some b) =>
   match P.underlying t with
   | some (.pointer el) => match szT P el with
     | some n => if n != 0 && a.block == b.block && a.spot.isNone && b.spot.isNone then some (a.off == b.off) else none
     | none => none
   | _ => none
 | _, _ => none
def wG : Value -> Value -> Option Bool
 | .pointer none, .pointer b | .pointer b, .pointer none => some b.isNone
 | .slice none _ _, .slice b _ _ | .slice b _ _, .slice none _ _ => some b.isNone
 | .map none, .map b | .map b, .map none => some b.isNone
 | .nilFunc, .nilFunc => some true
 | .nilFunc, .func _ _ _ | .func _ _ _, .nilFunc => some false
 | _, _ => none
def zM : List Value -> Option (List UInt8)
 | [] => some []
 | .int .u8 n :: l => (zM l).map (UInt8.ofNat n.toNat :: ·)
 | _ => none
def kP : Value -> Option Nat
 | .slice _ n _ => some n
 | .string s => some s.size
 | _ => none
def wK (size n : Nat) (H : IH) : Value -> Option (List Value)
 | .slice (some ⟨b, o, _⟩) _ _ => H.loads b o (n * size)
 | .slice none _ _ => if n = 0 then some [] else none
 | .string s => some (((s.extract 0 n).data.toList).map fun b => .int .u8 b.toNat)
 | _ => none
def vU (size n : Nat) (H : IH) (x : Value) : Option (List Value) := if n = 0 then (if (kP x).isSome then some [] else none) else wK size n H x
def qJZ (elem : TypeId) (H : IH) : Option Addr -> Option IH
 | none => some H
 | some ⟨_, _, none⟩ => some H
 | some ⟨b, _, some el⟩ => match H.get b with
   | some (.cells _ el' fz) => if aI fz && decide (H.base <= b) && el == elem && el' == elem then some (H.put b yV) else none
   | _ => none
def qUH (size : Nat) : Value -> Bool
 | .string _ => Nat.beq size 1
 | _ => true
def qKY (P : Program) (elem : TypeId) (info : TypeInfo) (xd : TypeDesc) (x : Value) (H : IH) : Option (Nat × List Value) :=
 match xd with
 | .int _ => (match x with
   | .int _ l => if 0 <= l && l <= 65536 && l.toNat * info.bytes <= 2 ^ 40 then
      (if l.toNat * info.size = 0 then some (l.toNat, []) else (qB7 P elem).map fun z => (l.toNat, (Builtin.zeroCells z.cells l.toNat).toList)) else none
   | _ => none)
 | _ => (match kP x with
   | some n => cond (qUH info.size x) ((vU info.size n H x).map fun l => (n, l)) none
   | none => none)
def qME (elem : TypeId) (size : Nat) (base : Option Addr) (len cap need : Nat) (new : List Value) (H : IH) : Option zAF :=
 match base with
 | some a => if a.spot.all (· == elem) then
    (if new.isEmpty then some (.val (.slice base need cap) H) else match H.stores a.block (a.off + len * size) new with
      | some H' => some (.val (.slice base need cap) H')
      | none => none) else none
 | none => if len == 0 && cap == 0 then some (.val (.slice none 0 0) H) else none
def qPO (P : Program) (elem : TypeId) (info : TypeInfo) (base : Option Addr) (len cap need : Nat) (new : List Value) (H : IH) : Option zAF :=
 if need <= 2 ^ 40 && need * info.bytes <= 2 ^ 45 && new.all oneCell && ((vV P elem).map (·.cells.size)) == some info.size then
  match wK info.size len H (.slice base len cap), qJZ elem H base with
  | some old, some H' => some (.val (.slice (some ⟨H'.size, 0, some elem⟩) need need) (H'.push (.cells (old ++ new).toArray elem zJ)))
  | _, _ => none
 else none
def vG (P : Program) (elem : TypeId) (info : TypeInfo) (base : Option Addr) (len cap : Nat) (H : IH) (r : Option (Nat × List Value)) : Option zAF :=
 match r with
 | some (n, new) => if len + n <= cap then qME elem info.size base len cap (len + n) new H else qPO P elem info base len cap (len + n) new H
 | none => none
def uD (P : Program) (argTypes : Array TypeId) (args : List Value) (H : IH) : Option zAF :=
 match argTypes.toList, args with
 | [st, xt], [.slice base len cap, x] =>
   match P.underlying st with
   | some (.slice elem) =>
     match P.info? elem, P.underlying xt with
     | some info, some xd => vG P elem info base len cap H (qKY P elem info xd x H)
     | _, _ => none
   | _ => none
 | _, _ => none
def sO (base : Option Addr) (n : Nat) (l : List Value) (H : IH) : Option zAF :=
 match base with
 | some a => if l.isEmpty then some (.val (goInt n) H) else match H.stores a.block a.off l with
   | some H' => some (.val (goInt n) H')
   | none => none
 | none => some (.val (goInt n) H)
def qL4 (P : Program) (argTypes : Array TypeId) (args : List Value) (H : IH) : Option zAF :=
 match argTypes.toList, args with
 | [st, _], [.slice base qOD _, x] =>
   match P.underlying st with
   | some (.slice elem) =>
     match szT P elem, kP x with
     | some size, some m =>
       match vU size (Nat.min m qOD) H x with
       | some l => sO base (Nat.min m qOD) l H
       | none => none
     | _, _ => none
   | _ => none
 | _, _ => none
def qF9 (P : Program) (src dst : TypeId) (x : Value) (H : IH) : Option Value :=
 match x with
 | .pointer (some ⟨b, o, none⟩) =>
   match H.get b with
   | some (.cells c el fz) =>
     match P.underlying src, P.underlying dst with
     | some (.pointer t), some .unsafePointer => match szT P t with
       | some n => if n != 0 && decide (o < c.size) then some x else none
       | none => none
     | some .unsafePointer, some (.pointer u) => match szT P u with
       | some n => if n != 0 && fz == (0, 0) && liesAt P P.depth el (c.size / P.cellsOf el) o u 1 then some x else none
       | none => none
     | _, _ => none
   | _ => none
 | _ => none
def xE (P : Program) (argTypes : Array TypeId) (args : List Value) (H : IH) : Option zAF :=
 match argTypes[0]?, args with
 | some pt, [.pointer none, .int _ n] => if n = 0 && (P.underlying pt).isSome then some (.val (.string .empty) H) else none
 | some pt, [.pointer (some ⟨b, o, none⟩), .int _ n] =>
   match P.underlying pt with
   | some (.pointer u) =>
     if n = 0 then some (.val (.string .empty) H)
     else if 0 < n && n <= 2 ^ 60 then
      match H.get b with
      | some (.cells c el fz) =>
        if aI fz && P.cellsOf el == 1 && sameLayout P P.depth el u && decide (H.base <= b) then
         match (H.loads b o n.toNat).bind zM with
         | some bs => some (.val (.string ⟨bs.toArray⟩) (H.put b (.cells c el (0, 1))))
         | none => none
        else none
      | _ => none
     else none
   | _ => none
 | _, _ => none
def nZ (P : Program) (ts : Array TypeId) (args : List Value) (H : IH) : Option zAF :=
 match (ts[0]?).bind P.underlying, args with
  | some (.slice _), [.slice _ n _] => some (.val (goInt n) H)
  | some (.map _ _), [.map (some r)] => match H.get r with
    | some (.map es _) => some (.val (goInt es.size) H)
    | _ => none
  | some (.array n _), [_] => some (.val (goInt n) H)
  | _, _ => none
def zV (P : Program) (b : Builtin) (c : Call) (args : List Value) (H : IH) : Option zAF :=
 match b with
 | .append => uD P c.argTypes args H
 | .copy => qL4 P c.argTypes args H
 | .len => nZ P c.argTypes args H
 | .unsafeSliceData => match args with
   | [.slice none _ _] => some (.val (.pointer none) H)
   | [.slice (some a) _ c] => if c != 0 then some (.val (.pointer (some ⟨a.block, a.off, none⟩)) H) else none
   | _ => none
 | .unsafeString => xE P c.argTypes args H
 | _ => none
def uZ (P : Program) (c : Call) (env : Env) (H : IH) : Option zAF :=
 let args := kF env.val c.args.toList
 match c.callee with
 | .builtin b => zV P b c args H
 | .invoke _ _ => none
 | .value f => match env.val f with
   | .func (.func g) first captured =>
     match P.funcs[g]? with
     | some fn => if fn.body.isSome then (if fn.name != "runtime.NumGoroutine" then some (.enter g (qD7 first.toList (qD7 args captured.toList)) H) else none)
       else if fn.name == "internal/abi.NoEscape" && fn.origin == "" then (match qD7 first.toList (qD7 args captured.toList) with
        | [v] => some (.val v H)
        | _ => none)
       else none
     | none => none
   | .func (.yield l) first captured => if first.isEmpty && captured.isEmpty then some (.round l args H) else none
   | _ => none
def qJE : Value -> Bool
 | .tuple vs => zL vs.toList
 | v => zO v
def qBL (H : IH) (v : Value) : Option zAF :=
 cond (qJE v) (some (.val v H)) none
def qEU (H : IH) : Option Next -> Option zAF
 | some (.value v) => qBL H v
 | _ => none
def kG (P : Program) (o : Oper) (env : Env) (H : IH) : Option zAF :=
 if zL (kF env.val o.op.operands.toList) then qEU H (yE P (execOp env.val o)) else none
def cO (op : BinOp) (k : IntKind) (a b : Int) : Option Value :=
 match op with
 | .add => some (.int k (k.wrap (a + b)))
 | .sub => some (.int k (k.wrap (a - b)))
 | .mul => some (.int k (k.wrap (a * b)))
 | .quo => if b = 0 then none else some (.int k (k.wrap (a.tdiv b)))
 | .rem => if b = 0 then none else some (.int k (a.tmod b))
 | .eql => some (.bool (a == b))
 | .neq => some (.bool (a != b))
 | .lss => some (.bool (a < b))
 | .leq => some (.bool (a <= b))
 | .gtr => some (.bool (a > b))
 | .geq => some (.bool (a ≥ b))
 | _ => none
def q08 : IntKind -> Nat
 | .i8 => 0 | .i16 => 1 | .i32 => 2 | .i64 => 3 | .u8 => 4 | .u16 => 5 | .u32 => 6 | .u64 => 7
theorem qXD {a b : IntKind} (h : Nat.beq (q08 a) (q08 b) = true) : a = b := by
 cases a <;> cases b <;> first | rfl | (exact absurd h (by decide))
theorem qSS (a : IntKind) : Nat.beq (q08 a) (q08 a) = true := by cases a <;> rfl
def asI : Value -> Option (IntKind × Int)
 | .int k n => some (k, n)
 | _ => none
def uE (P : Program) (t : TypeId) (x : Value) : Bool :=
 match P.underlying t, x with
 | some (.pointer _), .pointer _ => true
 | some (.slice _), .slice _ _ _ => true
 | some (.map _ _), .map _ => true
 | some (.func _ _ _), .nilFunc => true
 | some (.func _ _ _), .func _ _ _ => true
 | _, _ => false
def cZ (P : Program) (t : TypeId) (x y : Value) : Option Bool :=
 match wG x y with
 | some b => cond (uE P t x) (some b) none
 | none => qSN P t x y
def zAO (P : Program) (o : Oper) (op : BinOp) (t : TypeId) (x y : Value) (env : Env) (H : IH) : Option zAF :=
 match op with
 | .eql => (match cZ P t x y with
   | some b => some (.val (.bool b) H)
   | none => kG P o env H)
 | .neq => (match cZ P t x y with
   | some b => some (.val (.bool !b) H)
   | none => kG P o env H)
 | _ => kG P o env H
def zA1 (P : Program) (o : Oper) (op : BinOp) (k k' : IntKind) (a b : Int) (env : Env) (H : IH) : Option zAF :=
 cond (Nat.beq (q08 k) (q08 k')) (match cO op k a b with
  | some v => some (.val v H)
  | none => kG P o env H) (kG P o env H)
def yO (P : Program) (o : Oper) (op : BinOp) (t : TypeId) (x y : Value) (env : Env) (H : IH) : Option zAF :=
 match asI x with
 | some (k, a) => (match asI y with
   | some (k', b) => zA1 P o op k k' a b env H
   | none => zAO P o op t x y env H)
 | none => zAO P o op t x y env H
def qKU (c a b : Value) (H : IH) : Option zAF :=
 match c with
 | .bool t => some (.val (cond t a b) H)
 | _ => none
def rA (P : Program) (elem : TypeId) (H : IH) : Option zAF :=
 match qB7 P elem with
 | some z => some (.val (.pointer (some ⟨H.size, 0, none⟩)) (H.push (.cells z.cells elem)))
 | none => none
def q4A (elem : TypeId) (v : Value) (H : IH) : Option zAF :=
 if qY v then some (.val (.pointer (some ⟨H.size, 0, none⟩)) (H.push (.cells v.cells elem))) else none
def qED : Option IH -> Option zAF
 | some H' => some (.val undef H')
 | none => none
def uR (v : Value) (H : IH) : Option zAF :=
 match v with
 | .pointer (some a) => some (.val (.pointer (some a)) H)
 | .func (.func g) f c => some (.val (.func (.func g) f c) H)
 | .func (.yield l) f c => some (.val (.func (.yield l) f c) H)
 | _ => none
def gT (P : Program) (o : Oper) (src dst : TypeId) (v : Value) (env : Env) (H : IH) : Option zAF :=
 match v with
 | .pointer a => zAF.ofO H (qF9 P src dst (.pointer a) H)
 | _ => kG P o env H
def vM (fn : Fn) (first captured : Array Value) (H : IH) : Option zAF :=
 match fn with
 | .func g => some (.val (.func (.func g) first captured) H)
 | _ => none
def wT (P : Program) (o : Oper) (t : TypeId) (v : Value) (lo hi mx : Option Value) (env : Env) (H : IH) : Option zAF :=
 match v with
 | .string _ => kG P o env H
 | v => zAF.ofO H (wO P t v lo hi mx)
def wV (P : Program) (o : Oper) (t : TypeId) (v ix : Value) (env : Env) (H : IH) : Option zAF :=
 match v with
 | .string _ => kG P o env H
 | v => zAF.ofO H (rD P t v ix)
def wB (H : IH) : Option Value -> Option zAF
 | some v => cond (qY v) (some (.val v H)) none
 | none => none
def gM (v : Value) (ix : Nat) (H : IH) : Option zAF :=
 match v with
 | .tuple vs => wB H (zC vs.toList ix)
 | _ => none
def yD (P : Program) (o : Oper) (c : Call) (env : Env) (H : IH) : Option zAF :=
 match uZ P c env H with
 | some r => some r
 | none => kG P o env H
def bD (r : Option Operand) (H : IH) : Option zAF :=
 match r with
 | none => some (.val (.map (some H.size)) (H.push (.map #[] 0)))
 | some _ => none
def iop (P : Program) (o : Oper) (env : Env) (H : IH) : Option zAF :=
 match o.op with
 | .move x => some (.val (env.val x) H)
 | .assign x => some (.val (env.val x) H)
 | .pick c a b => qKU (env.val c) (env.val a) (env.val b) H
 | .alloc elem => rA P elem H
 | .box elem x => q4A elem (env.val x) H
 | .build t parts => zAF.ofO H (qHS P t (parts.toList.map fun p => (p.1, env.val p.2)))
 | .buildSlice t len parts => kD P t len (parts.toList.map fun p => (p.1, env.val p.2)) H
 | .load t a => zAF.ofO H (kC P t (env.val a) H)
 | .store t a x => qED (gP P t (env.val a) (env.val x) H)
 | .nilCheck x => uR (env.val x) H
 | .binOp op t x y _ => yO P o op t (env.val x) (env.val y) env H
 | .convert src dst x => gT P o src dst (env.val x) env H
 | .makeFunc fn first captured => vM fn (first.map env.val) (captured.map env.val) H
 | .makeMap _ r => bD r H
 | .makeSlice t l c => jI P t (env.val l) (env.val c) H
 | .slice t x lo hi mx => wT P o t (env.val x) (lo.map env.val) (hi.map env.val) (mx.map env.val) env H
 | .fieldAddr s x f => zAF.ofO H (bK P s (env.val x) f)
 | .field t x f => zAF.ofO H (qRN P t (env.val x) f)
 | .indexAddr t x ix => zAF.ofO H (xR P t (env.val x) (env.val ix))
 | .index t x ix => wV P o t (env.val x) (env.val ix) env H
 | .lookup t x k ok => zAF.ofO H (tL P t (env.val x) (env.val k) ok H)
 | .mapUpdate t m k x => qED (xI P t (env.val m) (env.val k) (env.val x) H)
 | .insert t m k x => qED (xI P t (env.val m) (env.val k) (env.val x) H)
 | .mapEntry t m k => vW P t (env.val m) (env.val k) H
 | .entryStore _ m st x => qED (gD (env.val m) (env.val st) (env.val x) H)
 | .range t x => qHL P t (env.val x) H
 | .next it isString => qHT (env.val it) isString H
 | .entry it => zAF.ofO H (qC9 (env.val it) H)
 | .extract t ix => gM (env.val t) ix H
 | .call c => yD P o c env H
 | .unOp _ _ _ => kG P o env H
 | _ => none
inductive T (α : Type) : Type where
 | fail : T α
 | ret (a : α) : T α
 | ch (n : Nat) (k : Nat -> T α) : T α
 | sp (p : Value × IH -> Prop) (k : Value × IH -> T α) : T α
def T.bind {α β : Type} (t : T α) (f : α -> T β) : T β := T.rec .fail f (fun n _ ih => .ch n ih) (fun p _ ih => .sp p ih) t
def T.ofO {α : Type} : Option α -> T α
 | some a => .ret a
 | none => .fail
inductive zA8 where
 | normal
 | exit (id : Nat)
 | goto (l : Nat)
 | ret
 deriving DecidableEq
structure Out where
 e : zA8
 env : Env
 H : IH
inductive Job where
 | code (c : Code) (env : Env)
 | call (f : FuncId) (args : List Value)
 | round (l : Nat) (args : List Value)
abbrev y7 := FuncId -> Option (List Value -> IH -> T (Value × IH))
def qYV (P : Program) (env : Env) (H : IH) : ResultVar -> Option Value
 | .tmp t => some ((zC env t).getD undef)
 | .cell a t => kC P t ((zC env a).getD undef) H
def qJ8 (P : Program) (env : Env) (H : IH) : List ResultVar -> Option (List Value)
 | [] => some []
 | r :: l => match qYV P env H r with
   | some v => (match qJ8 P env H l with
     | some vs => some (v :: vs)
     | none => none)
   | none => none
def one (l : List Value) : Value :=
 match l with
 | [v] => v
 | vs => .tuple vs.toArray
def jK (P : Program) (fn : Func) (env : Env) (H : IH) : Option Value := (qJ8 P env H fn.results.toList).map one
inductive Cls where
 | pure | read | alloc | call | fresh | write
 deriving DecidableEq
def y8 (o : Oper) : Cls :=
 match o.op with
 | .move _ | .assign _ | .pick .. | .nilCheck _ | .binOp .. | .unOp .. | .makeFunc .. | .fieldAddr .. | .field .. | .indexAddr .. | .index .. | .extract .. | .slice .. | .build .. => .pure
 | .load .. | .lookup .. | .entry _ | .convert .. => .read
 | .alloc _ => if o.guard.isNone then .alloc else .fresh
 | .box .. | .buildSlice .. | .makeMap .. | .makeSlice .. | .range .. => .fresh
 | .call c => match c.callee with
   | .builtin .len => .read
   | .builtin .min | .builtin .max | .builtin .unsafeSliceData => .pure
   | .value _ => .call
   | _ => .write
 | _ => .write
def Cls.eff : Cls -> Bool
 | .call | .fresh | .write => true
 | _ => false
def wQ (ops : Array Oper) (o : Oper) : List Tmp :=
 (o.op.operands.toList.filterMap fun | .tmp t => some t | _ => none) ++
 (match o.guard with
  | some (g, _) => ((ops[g]?).bind (·.dst)).toList
  | none => [])
def qI (o : Oper) : Bool := decide (y8 o = .alloc)
def jZ (b : Array Nat) (i j : Nat) : Bool := (b.getD j 0).testBit i
def qO6 (b : Array Nat) (i j : Nat) : Bool := jZ b i j || jZ b j i
def qRG (ops : Array Oper) (b : Array Nat) : Bool :=
 let l := ops.toList.zipIdx
 l.all fun (o, i) =>
  -- each edge leads back
  (o.after.all fun e => !Region.binds .any e || decide (e.on < i)) &&
  l.all fun (p, j) =>
   (decide (i = j) ||
     ((match o.dst with
       | some d => p.dst != some d && (!((wQ ops p).contains d) || cond (qI o) (jZ b i j) (qO6 b i j))
       | none => true) &&
      (!((y8 o).eff && (y8 p).eff) || qO6 b i j) &&
      true))
def fA (ops : Array Oper) : Bool := qRG ops (Region.before ops)
def vP (r : Out) : T (Value × IH) :=
 match r.env with
 | [v] => .ret (v, r.H)
 | _ => .fail
def yS (run : Job -> IH -> T Out) (nat : y7) (f : FuncId) (args : List Value) (H : IH) : T (Value × IH) :=
 match nat f with
 | some g => g args H
 | none => (run (.call f args) H).bind vP
def qHU (run : Job -> IH -> T Out) (nat : y7) (s : Option zAF) : T (Value × IH) :=
 match s with
 | some (.val v H) => .ret (v, H)
 | some (.enter f args H) => yS run nat f args H
 | some (.round l args H) => (run (.round l args) H).bind vP
 | some (.choice n k) => .ch n fun i => T.ofO (k i)
 | none => .fail
def rT (P : Program) (run : Job -> IH -> T Out) (nat : y7) (o : Oper) (env : Env) (H : IH) : T (Value × IH) :=
 qHU run nat (iop P o env H)
def jW {α : Type} (c : Option Bool) (yes no bad : α) : α :=
 match c with
 | some true => yes
 | some false => no
 | none => bad
def q06 (P : Program) (run : Job -> IH -> T Out) (nat : y7) (ops : Array Oper) (l : List Oper) : Env -> IH -> T (Env × IH) :=
 List.rec (fun env H => .ret (env, H)) (fun o _ ih env H =>
  jW (xU ops o env) ((rT P run nat o env H).bind fun r => ih (env.zAR o.dst r.1) r.2) (ih (env.zAR o.dst undef) H) .fail) l
theorem qJ3 {P : Program} {run : Job -> IH -> T Out} {nat : y7} {ops : Array Oper} {o : Oper} {l : List Oper} {env : Env} {H : IH} :
 q06 P run nat ops (o :: l) env H = jW (xU ops o env) ((rT P run nat o env H).bind fun r => q06 P run nat ops l (env.zAR o.dst r.1) r.2)
  (q06 P run nat ops l (env.zAR o.dst undef) H) .fail := rfl
def q0D (t : T (Value × IH)) : Option (Value × IH) :=
 match t with
 | .ret r => some r
 | _ => none
def qE7 (P : Program) : List Oper -> Env -> IH -> Option (Env × IH)
 | [], env, H => some (env, H)
 | o :: rest, env, H =>
   if qI o then
    match iop P o env H with
    | some (.val v H') => qE7 P rest (env.zAR o.dst v) H'
    | _ => none
   else qE7 P rest env H
structure Rec where
 i : Nat
 o : Oper
 env : Env
 v : Value
def qMF (ops : Array Oper) (b : Array Nat) : List (Nat × Nat × Nat) :=
 (ops.toList.zipIdx.filter fun p => decide (y8 p.1 = .read)).filterMap fun p =>
   let zD7 := ops.toList.zipIdx.filter fun q => (y8 q.1).eff
   let lo := (zD7.filter fun q => jZ b q.2 p.2).length
   let hi := (zD7.filter fun q => !jZ b p.2 q.2).length
   if lo = hi then none else some (p.2, lo, hi)
def loose (ops : Array Oper) : List (Nat × Nat × Nat) := qMF ops (Region.before ops)
def qAW (i : Nat) (l : List (Nat × Nat × Nat)) : Option (Nat × Nat) :=
 List.rec none (fun a _ ih => cond (Nat.beq a.1 i) (some a.2) ih) l
def qDS {α : Type} (c : Bool) (a : α) (l : List α) : List α := cond c (a :: l) l
def qZO (c : Option (Nat × Nat)) (i : Nat) (o : Oper) (env : Env) (v : Value) (l : List Rec) : List Rec :=
 match c with
 | some _ => ⟨i, o, env, v⟩ :: l
 | none => l
def q2E (o : Oper) (i : Nat) (env : Env) (v : Value) (H' : IH) (lo : List (Nat × Nat × Nat)) (r : Option (Env × IH × List IH × List Rec)) : Option (Env × IH × List IH × List Rec) :=
 match r with
 | some (e, h, hs, rs) => some (e, h, qDS (y8 o).eff H' hs, qZO (qAW i lo) i o env v rs)
 | none => none
def qW2 (o : Oper) (H : IH) (r : Option (Env × IH × List IH × List Rec)) : Option (Env × IH × List IH × List Rec) :=
 match r with
 | some (e, h, hs, rs) => some (e, h, qDS (y8 o).eff H hs, rs)
 | none => none
def qXI (o : Oper) (i : Nat) (env : Env) (lo : List (Nat × Nat × Nat)) (ih : Env -> IH -> Option (Env × IH × List IH × List Rec)) (r : Option (Value × IH)) : Option (Env × IH × List IH × List Rec) :=
 match r with
 | some r => q2E o i env r.1 r.2 lo (ih (env.zAR o.dst r.1) r.2)
 | none => none
def qMH (P : Program) (run : Job -> IH -> T Out) (nat : y7) (ops : Array Oper) (lo : List (Nat × Nat × Nat)) (l : List Oper) : Nat -> Env -> IH -> Option (Env × IH × List IH × List Rec) :=
 List.rec (fun _ env H => some (env, H, [], [])) (fun o _ ih i env H =>
  cond (qI o) (ih (i + 1) env H)
   (jW (xU ops o env) (qXI o i env lo (ih (i + 1)) (q0D (rT P run nat o env H)))
     (qW2 o H (ih (i + 1) (env.zAR o.dst undef) H)) none)) l
def eqL {α : Type} (eq : α -> α -> Bool) (l : List α) : List α -> Bool :=
 List.rec (fun m => m.isEmpty) (fun a _ ih m => match m with | [] => false | b :: m => cond (eq a b) (ih m) false) l
theorem mX {α : Type} {eq : α -> α -> Bool} (h : ∀ a b, eq a b = true -> a = b) {l : List α} : ∀ {m : List α}, eqL eq l m = true -> l = m := by
 induction l with
 | nil => intro m hm; cases m with
   | nil => rfl
   | cons b m => exact absurd hm (by show ¬ ((b :: m).isEmpty = true); simp)
 | cons a l ih => intro m hm; cases m with
   | nil => exact absurd hm (by show ¬ (false = true); simp)
   | cons b m =>
     have hm' : cond (eq a b) (eqL eq l m) false = true := hm
     cases he : eq a b with
     | false => rw [he] at hm'; cases hm'
     | true => rw [he] at hm'; rw [h a b he, ih hm']
def q5N (n : Nat) : Value -> Value -> Bool :=
 Nat.rec (fun _ _ => false) (fun _ ih v w => match v, w with
 | .bool a, .bool b => a == b
 | .int k a, .int k' b => k == k' && a == b
 | .string a, .string b => eqL (· == ·) a.data.toList b.data.toList
 | .pointer a, .pointer b => a == b
 | .slice a l c, .slice a' l' c' => a == a' && (l == l' && c == c')
 | .map a, .map b => a == b
 | .func f a b, .func f' a' b' => f == f' && (eqL ih a.toList a'.toList && eqL ih b.toList b'.toList)
 | .nilFunc, .nilFunc => true
 | .nilIface, .nilIface => true
 | .agg a, .agg b => eqL ih a.toList b.toList
 | .tuple a, .tuple b => eqL ih a.toList b.toList
 | _, _ => false) n
def veq (v w : Value) : Bool := q5N 4 v w
def q63 (l m : List Value) : Bool := eqL veq l m
def oeq : Obj -> Obj -> Bool
 | .cells c e f, .cells c' e' f' => q63 c.toList c'.toList && e == e' && f == f'
 | .pending c e, .pending c' e' => q63 c.toList c'.toList && e == e'
 | .stringIter s p, .stringIter s' p' => eqL (· == ·) s.data.toList s'.data.toList && p == p'
 | .mapIter m s a l, .mapIter m' s' a' l' => m == m' && s == s' && a.toList == a'.toList && l == l'
 | .map es c, .map es' c' => c == c' && q63 (es.toList.map (·.key)) (es'.toList.map (·.key)) && q63 (es.toList.map (·.val)) (es'.toList.map (·.val)) && es.toList.map (·.born) == es'.toList.map (·.born)
 | _, _ => false
def q4R : Option Obj -> Option Obj -> Bool
 | none, none => true
 | some a, some b => oeq a b
 | _, _ => false
def dJ (v : Value) (r : Option zAF) : Bool :=
 match r with
 | some (.val u _) => veq v u
 | _ => false
def uP (P : Program) (lo hi : Nat) (r : Rec) (hs : List IH) : Nat -> Bool :=
 List.rec (fun _ => true) (fun E _ ih m => cond (Nat.ble lo m && Nat.ble m hi) (cond (dJ r.v (iop P r.o r.env E)) (ih (m + 1)) false) (ih (m + 1))) hs
def sH (P : Program) (lo : List (Nat × Nat × Nat)) (hs : List IH) (r : Rec) : Bool :=
 match qAW r.i lo with
 | some p => uP P p.1 p.2 r hs 0
 | none => true
def qAK (b : Nat) (o : Option Obj) (hs : List IH) : Nat -> Bool :=
 List.rec (fun _ => true) (fun h _ ih n => Nat.casesOn n true fun m => cond (q4R (h.get b) o) (ih m) false) hs
def eT (H1 : IH) (hs : List IH) (al : List Nat) : Nat -> Bool :=
 List.rec (fun _ => true) (fun hi _ ih b => cond (qAK b (H1.get b) hs hi) (ih (b + 1)) false) al
def qNA (ops : Array Oper) (b : Array Nat) : List Nat :=
 (ops.toList.zipIdx.filter fun p => qI p.1).map fun p =>
   ((ops.toList.zipIdx.filter fun q => (y8 q.1).eff).filter fun q => !jZ b p.2 q.2).length
def qDA (ops : Array Oper) : List Nat := qNA ops (Region.before ops)
def qLX (P : Program) (lo : List (Nat × Nat × Nat)) (al : List Nat) (n : Nat) (H1 : IH) (r : Option (Env × IH × List IH × List Rec)) : Option (Env × IH) :=
 match r with
 | some (zA0, H2, hs, rs) => cond (cond (kM (sH P lo (H1 :: hs)) rs) (eT H1 hs al n) false) (some (zA0, H2)) none
 | none => none
def qP8 (P : Program) (run : Job -> IH -> T Out) (nat : y7) (ops : Array Oper) (env : Env) (H : IH) : Option (Env × IH) :=
 match qE7 P ops.toList env H with
 | some (zAG, H1) => qLX P (loose ops) (qDA ops) H.size H1 (qMH P run nat ops (loose ops) ops.toList 0 zAG H1)
 | none => none
def T.leaves {α : Type} : T α -> Option (List α)
 | .fail => none
 | .ret a => some [a]
 | .ch n k => ((List.range n).mapM fun i => (k i).leaves).map List.flatten
 | .sp _ _ => none
def eB : Env -> Env -> Env
 | a :: l, b :: m => (if veq a b then a else unk) :: eB l m
 | _, _ => []
def IH.since (H : IH) (n : Nat) : List Nat := H.log.take (H.log.length - n)
def q0W (H H' : IH) (l : List Nat) : Bool := l.all fun b => q4R (H.get b) (H'.get b)
def qLL (H0 : IH) (n : Nat) : List Out -> Option Out
 | [] => none
 | o :: rest =>
   if ((o.H.since n).filter (· < H0.size)).all (fun b => (o.H.get b).isSome) && rest.all (fun p => decide (p.e = o.e) && decide (p.env.length = o.env.length) &&
       q0W o.H p.H ((o.H.since n).filter (· < H0.size)) && q0W o.H p.H ((p.H.since n).filter (· < H0.size))) then
    some ⟨o.e, rest.foldl (fun e p => eB e p.env) o.env,
     { tr := ((o.H.since n).filter (· < H0.size)).foldl (fun t b => match o.H.get b with
        | some ob => t.set b ob
        | none => t) H0.tr,
       size := (o :: rest).foldl (fun m p => Nat.max m p.H.size) 0, base := H0.base, log := (o.H.since n).filter (· < H0.size) ++ H0.log }⟩
   else none
def join (H0 : IH) : T Out -> T Out
 | .ch n k => match (T.ch n k).leaves with
   | some l => match qLL H0 H0.log.length l with
     | some o => .ret o
     | none => .ch n k
   | none => .ch n k
 | t => t
def qEW (run : Job -> IH -> T Out) (b : Code) (r : Out) : T Out :=
 match r.e with
 | .normal => run (.code b r.env) r.H
 | _ => .ret r
def eY (id : Nat) (r : Out) : T Out :=
 match r.e with
 | .exit id' => cond (Nat.beq id' id) (.ret ⟨.normal, r.env, r.H⟩) (.ret r)
 | _ => .ret r
def aX (run : Job -> IH -> T Out) (a : Code) (r : Out) : T Out :=
 match r.e with
 | .normal => run (.code (.loop a) r.env) r.H
 | _ => .ret r
def nR (r : Out) : T Out :=
 match r.e with
 | .goto _ => .fail
 | _ => .ret r
def rY (run : Job -> IH -> T Out) (v : Value) (a b : Code) (env : Env) (H : IH) : T Out :=
 match v with
 | .bool t => run (.code (cond t a b) env) H
 | _ => .fail
def qFK (r : Option (Env × IH)) : T Out :=
 match r with
 | some (zA0, H2) => .ret ⟨.normal, zA0, H2⟩
 | none => .fail
def bJ (P : Program) (run : Job -> IH -> T Out) (nat : y7) (ops : Array Oper) (draw : Bool) (env : Env) (H : IH) : T Out :=
 cond draw (qFK (qP8 P run nat ops env H)) ((q06 P run nat ops ops.toList env H).bind fun r => .ret ⟨.normal, r.1, r.2⟩)
def jH (run : Job -> IH -> T Out) (l : Nat) (env : Env) (r : Value × IH) : T Out :=
 match r.2.get l with
 | some (.loop lp) => if lp.state == .busy then .fail else
   (match lp.pending with
   | none => .ret ⟨.normal, env, r.2.put l (.loop { lp with state := .exhausted })⟩
   | some c => run (.code c env) (r.2.put l (.loop { lp with state := .exhausted })))
 | _ => .fail
def entered (P : Program) (g : FuncId) : Bool :=
 match P.funcs[g]? with
 | some fn => fn.body.isSome && fn.name != "runtime.NumGoroutine"
 | none => false
def uL (P : Program) (run : Job -> IH -> T Out) (nat : y7) (v : Value) (params : Array Tmp) (assign body : Code) (env : Env) (H : IH) : T Out :=
 match v with
 | .func (.func g) first captured => cond (entered P g)
   ((yS run nat g (qD7 first.toList (.func (.yield H.size) #[] #[] :: captured.toList))
     (H.push (.loop { state := .ready, pending := none, fn := 0, tmps := env.toArray, params, assign, body, defers := 0 }))).bind (jH run H.size env)) .fail
 | _ => .fail
def sS (P : Program) (run : Job -> IH -> T Out) (nat : y7) (c : Code) (env : Env) (H : IH) : T Out :=
 match c with
 | .skip => .ret ⟨.normal, env, H⟩
 | .label _ => .ret ⟨.normal, env, H⟩
 | .ret => .ret ⟨.ret, env, H⟩
 | .exit id => .ret ⟨.exit id, env, H⟩
 | .seq a b => (run (.code a env) H).bind (qEW run b)
 | .cond x a b => rY run (env.val x) a b env H
 | .block id a => (run (.code a env) H).bind (eY id)
 | .loop a => join H ((run (.code a env) H).bind (aX run a))
 | .scope a => (run (.code a env) H).bind nR
 | .region _ ops draw => bJ P run nat ops draw env H
 | .rangeFunc f params assign body => uL P run nat (env.val f) params assign body env H
 | _ => .fail
def qA0 (P : Program) (fn : Func) (r : Out) : T Out :=
 match r.e with
 | .normal => (match jK P fn r.env r.H with
   | some v => .ret ⟨.normal, [v], r.H⟩
   | none => .fail)
 | .ret => (match jK P fn r.env r.H with
   | some v => .ret ⟨.normal, [v], r.H⟩
   | none => .fail)
 | _ => .fail
def nC (P : Program) (good : FuncId -> Bool) (run : Job -> IH -> T Out) (f : FuncId) (args : List Value) (H : IH) : T Out :=
 match P.funcs[f]? with
 | some fn => (match fn.body with
   | some c => cond (good f) (join H ((run (.code c (qD7 args (List.replicate (fn.ntmps - args.length) undef))) H).bind (qA0 P fn))) .fail
   | none => .fail)
 | none => .fail
def yN : zA8 -> Option Code
 | .normal => none
 | .ret => some .ret
 | .exit id => some (.exit id)
 | .goto t => some (.goto t)
def roundEnd (l : Nat) (s : Out) : T Out :=
 match s.H.get l with
 | some (.loop lp2) => .ret ⟨.normal, [.bool (yN s.e).isNone], s.H.put l (.loop { lp2 with state := if (yN s.e).isNone then .ready else .done, pending := yN s.e })⟩
 | _ => .fail
def qAS (run : Job -> IH -> T Out) (l : Nat) (body : Code) (r : Out) : T Out :=
 match r.e with
 | .normal => (match r.H.get l with
   | some (.loop lp1) => if lp1.state == .ready then (run (.code body r.env) (r.H.put l (.loop { lp1 with state := .busy }))).bind (roundEnd l) else .fail
   | _ => .fail)
 | _ => .fail
def fK (run : Job -> IH -> T Out) (l : Nat) (args : List Value) (H : IH) : T Out :=
 match H.get l with
 | some (.loop lp) =>
   if lp.state == .ready && (decide (H.base <= l) && Nat.beq args.length lp.params.size) then
    (run (.code lp.assign ((lp.params.toList.zip args).foldl (fun e p => xA e p.1 p.2) lp.tmps.toList)) H).bind (qAS run l lp.body)
   else .fail
 | _ => .fail
def jJ (G : Nat -> Bool) : Operand -> Bool
 | .const v => zO v
 | .global g => G g
 | _ => true
def w9 (G : Nat -> Bool) (ops : Array Oper) : Bool := ops.toList.all fun o => o.op.operands.toList.all (jJ G)
def codeOk (G : Nat -> Bool) (round : Bool) : Code -> Bool
 | .seq a b => codeOk G round a && codeOk G round b
 | .cond x a b => jJ G x && (codeOk G round a && codeOk G round b)
 | .block _ a => codeOk G round a
 | .loop a => codeOk G round a
 | .scope a => codeOk G round a
 | .region _ ops draw => w9 G ops && (!draw || fA ops)
 | .rangeFunc f _ x y => !round && (jJ G f && (codeOk G true x && codeOk G true y))
 | _ => true
def qG4 : Code -> Bool
 | .ret => true
 | .exit _ => true
 | .goto _ => true
 | _ => false
def qK5 (P : Program) (good : FuncId -> Bool) (nat : y7) (run : Job -> IH -> T Out) (j : Job) (H : IH) : T Out :=
 match j with
 | .code c env => sS P run nat c env H
 | .call f args => nC P good run f args H
 | .round l args => fK run l args H
def iex (P : Program) (good : FuncId -> Bool) (nat : y7) (n : Nat) : Job -> IH -> T Out :=
 Nat.rec (fun _ _ => .fail) (fun _ ih j H => qK5 P good nat ih j H) n
theorem qW1 {P : Program} {good : FuncId -> Bool} {nat : y7} {n : Nat} {j : Job} {H : IH} : iex P good nat (n + 1) j H = qK5 P good nat (iex P good nat n) j H := rfl
end
end Go.Idl
namespace Go.Idl
variable {G G' : Nat -> Bool} {H : IH} {P : Program} {a a' : Array Value} {b x : Nat} {l l' m : List Value} {o : Obj} {v v' : Value}
structure Emb where
 r : Nat
 shift : Nat
 N : Nat
 ro : Bool
abbrev Inj := Nat -> Option Emb
def Inj.le (f g : Inj) : Prop := ∀ b e, f b = some e -> g b = some e
theorem Inj.le_refl (f : Inj) : f.le f := fun _ _ h => h
theorem Inj.le_trans {f g h : Inj} (a : f.le g) (b : g.le h) : f.le h := fun x e hx => b x e (a x e hx)
def Inj.add (f : Inj) (b : Nat) (e : Emb) : Inj := fun x => if x = b then some e else f x
theorem Inj.zBD {f : Inj} {e : Emb} (h : f b = none) : f.le (f.add b e) := fun x y hx => by
 unfold Inj.add;by_cases hb : x = b
 ·subst hb; rw [h] at hx; cases hx
 ·simp [hb, hx]
theorem Inj.add_same {f : Inj} {e : Emb} : f.add b e b = some e := by simp [Inj.add]
theorem Inj.zAC {f : Inj} {e : Emb} (h : x ≠ b) : f.add b e x = f x := by simp [Inj.add, h]
inductive zAA (P : Program) (f : Inj) : Value -> Value -> Prop
 | any (v : Value) : zAA P f unk v
 | undef : zAA P f undef undef
 | base (v : Value) (h : zO v = true) : zAA P f v v
 | ptr {b o : Nat} {e : Emb} (h : f b = some e) : zAA P f (.pointer (some ⟨b, o, none⟩)) (.pointer (some ⟨e.r, o + e.shift, none⟩))
 | sl {b o len cap : Nat} {e : Emb} (h : f b = some e) : zAA P f (.slice (some ⟨b, o, none⟩) len cap) (.slice (some ⟨e.r, o + e.shift, none⟩) len cap)
 | room {b o el len cap cap' : Nat} {e : Emb} (h : f b = some e) (hc : cap <= cap') (hn : o + e.shift + cap' * P.cellsOf el <= e.N) :
    zAA P f (.slice (some ⟨b, o, some el⟩) len cap) (.slice (some ⟨e.r, o + e.shift, none⟩) len cap')
 | zAX {b o o' el cap' : Nat} {e : Emb} (h : f b = some e) (hs : e.shift <= o') (hn : o' + cap' * P.cellsOf el <= e.N) :
    zAA P f (.slice (some ⟨b, o, some el⟩) 0 0) (.slice (some ⟨e.r, o', none⟩) 0 cap')
 | gh {b : Nat} {a' : Addr} {e : Emb} (h : f b = some e) (hg : e.N < e.shift) : zAA P f (.slice (some ⟨b, 0, none⟩) 0 0) (.slice (some a') 0 0)
 | map {b : Nat} {e : Emb} (h : f b = some e) : zAA P f (.map (some b)) (.map (some e.r))
 | func {g : FuncId} {a a' c c' : Array Value} (ha : a.size = a'.size) (hc : c.size = c'.size)
    (hav : ∀ (i : Nat) v v', a[i]? = some v -> a'[i]? = some v' -> zAA P f v v') (hcv : ∀ (i : Nat) v v', c[i]? = some v -> c'[i]? = some v' -> zAA P f v v') :
    zAA P f (.func (.func g) a c) (.func (.func g) a' c')
 | yield {l : Nat} {e : Emb} (h : f l = some e) : zAA P f (.func (.yield l) #[] #[]) (.func (.yield e.r) #[] #[])
 | iface {t : TypeId} {v v' : Value} (h : zAA P f v v') : zAA P f (.iface t v) (.iface t v')
 | agg {a a' : Array Value} (ha : a.size = a'.size) (hav : ∀ (i : Nat) v v', a[i]? = some v -> a'[i]? = some v' -> zAA P f v v') : zAA P f (.agg a) (.agg a')
 | tuple {a a' : Array Value} (ha : a.size = a'.size) (hav : ∀ (i : Nat) v v', a[i]? = some v -> a'[i]? = some v' -> zAA P f v v') : zAA P f (.tuple a) (.tuple a')
theorem zAA.mono {f g : Inj} (h : zAA P f v v') (hl : f.le g) : zAA P g v v' := by
 induction h with
 | any v => exact .any v
 | undef => exact .undef
 | base v h => exact .base v h
 | ptr h => exact .ptr (hl _ _ h)
 | sl h => exact .sl (hl _ _ h)
 | room h hc hn => exact .room (hl _ _ h) hc hn
 | zAX h hs hn => exact .zAX (hl _ _ h) hs hn
 | gh h hg => exact .gh (hl _ _ h) hg
 | map h => exact .map (hl _ _ h)
 | func ha hc _ _ i1 i2 => exact .func ha hc i1 i2
 | yield h => exact .yield (hl _ _ h)
 | iface _ ih => exact .iface ih
 | agg ha _ ih => exact .agg ha ih
 | tuple ha _ ih => exact .tuple ha ih
def qC (P : Program) (f : Inj) (l l' : List Value) : Prop := l.length = l'.length ∧ ∀ (i : Nat) v v', l[i]? = some v -> l'[i]? = some v' -> zAA P f v v'
theorem qC.nil {f : Inj} : qC P f [] [] := ⟨rfl, fun i v v' h => by simp at h⟩
theorem qC.cons {f : Inj} (h : zAA P f v v') (t : qC P f l l') : qC P f (v :: l) (v' :: l') :=
 ⟨by simp [t.1], fun i u u' hu hu' => by
   cases i with
   | zero => simp at hu hu'; subst hu hu'; exact h
   | succ i => exact t.2 i u u' (by simpa using hu) (by simpa using hu')⟩
theorem qC.zAB {f : Inj} (h : qC P f (v :: l) m) : ∃ v' l', m = v' :: l' ∧ zAA P f v v' ∧ qC P f l l' := by
 cases m with
 | nil => simp [qC] at h
 | cons v' l' => exact ⟨v', l', rfl, h.2 0 v v' rfl rfl, by have := h.1; simpa using this, fun i u u' hu hu' => h.2 (i + 1) u u' (by simpa using hu) (by simpa using hu')⟩
theorem qC.zAE {f : Inj} (h : qC P f [] m) : m = [] := by
 cases m with
 | nil => rfl
 | cons a b => simp [qC] at h
theorem qC.mono {P : Program} {f g : Inj} {l l' : List Value} (h : qC P f l l') (hl : f.le g) : qC P g l l' := ⟨h.1, fun i v v' a b => (h.2 i v v' a b).mono hl⟩
theorem qC.get {f : Inj} (h : qC P f l l') {i : Nat} (hv : l[i]? = some v) : ∃ v', l'[i]? = some v' ∧ zAA P f v v' := by
 have hlt : i < l.length := (zKA.1 hv).1;have hlt' : i < l'.length := h.1 ▸ hlt;exact ⟨l'[i], zJ9 hlt', h.2 i v _ hv (zJ9 hlt')⟩
theorem qC.append {f : Inj} {m' : List Value} (h : qC P f l l') (k : qC P f m m') : qC P f (l ++ m) (l' ++ m') := by
 induction l generalizing l' with
 | nil => rw [h.zAE]; exact k
 | cons v l ih => obtain ⟨v', t', rfl, hv, ht⟩ := h.zAB; exact .cons hv (ih ht)
theorem qC.take {f : Inj} (h : qC P f l l') (n : Nat) : qC P f (l.take n) (l'.take n) := by
 induction n generalizing l l' with
 | zero => simpa using qC.nil
 | succ n ih =>
   cases l with
   | nil => rw [h.zAE]; simpa using qC.nil
   | cons v l => obtain ⟨v', t', rfl, hv, ht⟩ := h.zAB; simpa using qC.cons hv (ih ht)
theorem qC.drop {f : Inj} (h : qC P f l l') (n : Nat) : qC P f (l.drop n) (l'.drop n) := by
 induction n generalizing l l' with
 | zero => simpa using h
 | succ n ih =>
   cases l with
   | nil => rw [h.zAE]; simpa using qC.nil
   | cons v l => obtain ⟨v', t', rfl, hv, ht⟩ := h.zAB; simpa using ih ht
theorem qC.set {f : Inj} (h : qC P f l l') (hv : zAA P f v v') (n : Nat) : qC P f (l.set n v) (l'.set n v') := by
 induction n generalizing l l' with
 | zero =>
   cases l with
   | nil => rw [h.zAE]; simpa using qC.nil
   | cons u l => obtain ⟨u', t', rfl, hu, ht⟩ := h.zAB; simpa using qC.cons hv ht
 | succ n ih =>
   cases l with
   | nil => rw [h.zAE]; simpa using qC.nil
   | cons u l => obtain ⟨u', t', rfl, hu, ht⟩ := h.zAB; simpa using qC.cons hu (ih ht)
theorem dN : zL (v :: l) = (zO v && zL l) := xB _ _ _
theorem xK {l : List Value} : zL l = true ↔ ∀ v ∈ l, zO v = true := xG
theorem qC.zAQ {f : Inj} (h : zL l = true) : qC P f l l := by
 induction l with
 | nil => exact .nil
 | cons v l ih => rw [dN, zJ5] at h; exact .cons (.base v h.1) (ih h.2)
theorem qA1 (n : Nat) : ∀ v, xD n v = true -> xD (n + 1) v = true := by
 induction n with
 | zero => intro v h; exact absurd h (by show ¬ (false = true); simp)
 | succ n ih =>
   intro v h;have hall : ∀ (l : List Value), kM (xD n) l = true -> kM (xD (n + 1)) l = true := fun l hl => xG.2 fun a ha => ih a (xG.1 hl a ha)
   cases v <;> first | exact h | skip
   case func fn first captured =>
    have h' : (q5T fn && (kM (xD n) first.toList && kM (xD n) captured.toList)) = true := h;show (q5T fn && (kM (xD (n + 1)) first.toList && kM (xD (n + 1)) captured.toList)) = true;simp only [zJ5] at h' ⊢;exact ⟨h'.1, hall _ h'.2.1, hall _ h'.2.2⟩
   case iface t v => exact ih v h
   case agg cs => exact hall _ h
theorem zAA.zE5 {f : Inj} (h : zAA P f v v') : ∀ n, xD n v = true -> v' = v := by
 induction h with
 | any v => intro n hp; cases n <;> exact absurd hp (by show ¬ (false = true); simp)
 | undef => intro n hp; rfl
 | base v _ => intro n hp; rfl
 | ptr _ => intro n hp; cases n <;> exact absurd hp (by show ¬ (false = true); simp)
 | sl _ => intro n hp; cases n <;> exact absurd hp (by show ¬ (false = true); simp)
 | room _ _ _ => intro n hp; cases n <;> exact absurd hp (by show ¬ (false = true); simp)
 | zAX _ _ _ => intro n hp; cases n <;> exact absurd hp (by show ¬ (false = true); simp)
 | gh _ _ => intro n hp; cases n <;> exact absurd hp (by show ¬ (false = true); simp)
 | map _ => intro n hp; cases n <;> exact absurd hp (by show ¬ (false = true); simp)
 | @func g a a' c c' ha hc hav hcv i1 i2 =>
   intro n hp
   cases n with
   | zero => exact absurd hp (by show ¬ (false = true); simp)
   | succ n =>
     have hp' : (q5T (.func g) && (kM (xD n) a.toList && kM (xD n) c.toList)) = true := hp;simp only [zJ5, xG] at hp';have e1 : a' = a := Array.ext ha.symm fun i h1 h2 => i1 i a[i] a'[i] (by simp [h2]) (by simp [h1]) n (hp'.2.1 _ (by simp))
     have e2 : c' = c := Array.ext hc.symm fun i h1 h2 => i2 i c[i] c'[i] (by simp [h2]) (by simp [h1]) n (hp'.2.2 _ (by simp))
     rw [e1, e2]
 | yield _ =>
   intro n hp
   cases n with
   | zero => exact absurd hp (by show ¬ (false = true); simp)
   | succ n => have hp' : false = true := hp; cases hp'
 | iface _ ih =>
   intro n hp
   cases n with
   | zero => exact absurd hp (by show ¬ (false = true); simp)
   | succ n => rw [ih n hp]
 | @agg a a' ha hav i1 =>
   intro n hp
   cases n with
   | zero => exact absurd hp (by show ¬ (false = true); simp)
   | succ n =>
     have hp' : kM (xD n) a.toList = true := hp;simp only [xG] at hp';have e1 : a' = a := Array.ext ha.symm fun i h1 h2 => i1 i a[i] a'[i] (by simp [h2]) (by simp [h1]) n (hp' _ (by simp))
     rw [e1]
 | tuple _ _ _ => intro n hp; cases n <;> exact absurd hp (by show ¬ (false = true); simp)
theorem zAA.plain {f : Inj} (h : zAA P f v v') (hp : zO v = true) : v' = v := h.zE5 3 hp
theorem qC.plain {P : Program} {f : Inj} {l l' : List Value} (h : qC P f l l') (hp : zL l = true) : l' = l := by
 induction l generalizing l' with
 | nil => exact h.zAE
 | cons v l ih =>
   obtain ⟨v', t', rfl, hv, ht⟩ := h.zAB;rw [dN, zJ5] at hp;rw [hv.plain hp.1, ih ht hp.2]
theorem qIO (h : zO (.agg a) = true) : zL a.toList = true := by
 have h' : kM (xD 2) a.toList = true := h;exact xK.2 fun v hv => qA1 2 v (xG.1 h' v hv)
theorem zAA.zCU {f : Inj} (h : zAA P f (.agg a) v') : ∃ a', v' = .agg a' ∧ qC P f a.toList a'.toList := by
 cases h with
 | base _ hp => exact ⟨a, rfl, .zAQ (qIO hp)⟩
 | agg ha hav => exact ⟨_, rfl, by simpa using ha, fun i v v' h1 h2 => hav i v v' (by simpa using h1) (by simpa using h2)⟩
theorem zAA.zCA {f : Inj} (h : qC P f a.toList a'.toList) : zAA P f (.agg a) (.agg a') :=
 .agg (by simpa using h.1) fun i v v' h1 h2 => h.2 i v v' (by simpa using h1) (by simpa using h2)
theorem zAA.zAS {f : Inj} (h : qC P f a.toList a'.toList) : zAA P f (.tuple a) (.tuple a') :=
 .tuple (by simpa using h.1) fun i v v' h1 h2 => h.2 i v v' (by simpa using h1) (by simpa using h2)
theorem zAA.cells {P : Program} {f : Inj} {v v' : Value} (h : zAA P f v v') (hn : qY v = true) : qC P f v.cells.toList v'.cells.toList := by
 cases h with
 | any v => simp [unk, qY] at hn
 | undef => simp [Go.undef, qY] at hn
 | base v hp =>
   cases v <;> first
    | (simp only [Value.cells]; exact .cons (.base _ hp) .nil)
    | exact .zAQ (qIO hp)
    | (simp [qY] at hn)
 | ptr h => exact .cons (.ptr h) .nil
 | sl h => exact .cons (.sl h) .nil
 | room h a b => exact .cons (.room h a b) .nil
 | zAX h a b => exact .cons (.zAX h a b) .nil
 | gh h a => exact .cons (.gh h a) .nil
 | map h => exact .cons (.map h) .nil
 | func a b c d => exact .cons (.func a b c d) .nil
 | yield h => exact .cons (.yield h) .nil
 | iface h => exact .cons (.iface h) .nil
 | agg ha hav => exact ⟨by simpa [Value.cells] using ha, fun i v v' h1 h2 => hav i v v' (by simpa [Value.cells] using h1) (by simpa [Value.cells] using h2)⟩
 | tuple _ _ => simp [qY] at hn
def live : Obj -> Bool
 | .pending _ _ => false
 | _ => true
def q7T (g : Nat) : List (Nat × Nat) -> Option Nat
 | [] => none
 | (k, n) :: l => cond (Nat.beq k g) (some n) (q7T g l)
def q7U (g N : Nat) : Bool := match q7T g q71 with
 | some n => Nat.beq N n
 | none => true
def q6G (g : Nat) : Nat := (q7T g q71).getD 0
theorem q6X (g : Nat) : q7U g (q6G g) = true := by
 unfold q7U q6G
 cases q7T g q71 with
 | none => rfl
 | some n => exact Nat.beq_refl n
def zB (f : Inj) (g : Nat) : Bool :=
 match f g with
 | some e => decide (e.r = g) && (decide (e.shift = 0) && q7U g e.N)
 | none => false
theorem bR {f : Inj} {g : Nat} : zB f g = true ↔ ∃ e, f g = some e ∧ e.r = g ∧ e.shift = 0 ∧ q7U g e.N = true := by
 unfold zB;split
 ·rename_i e he; simp [he]
 ·rename_i he; simp [he]
theorem zI {f f' : Inj} (hl : f.le f') (g : Nat) (h : zB f g = true) : zB f' g = true := by
 rw [bR] at h ⊢;obtain ⟨e, h1, h2⟩ := h;exact ⟨e, hl _ _ h1, h2⟩
theorem jA (h : ∀ g, G g = true -> G' g = true) {x : Operand} (hx : jJ G x = true) : jJ G' x = true := by
 cases x <;> first | exact hx | exact h _ hx
theorem kE (h : ∀ g, G g = true -> G' g = true) {ops : Array Oper} (hx : w9 G ops = true) : w9 G' ops = true := by
 simp only [w9, zJ8] at hx ⊢;exact fun o ho x hxx => jA h (hx o ho x hxx)
theorem qO {G G' : Nat -> Bool} (h : ∀ g, G g = true -> G' g = true) : ∀ (c : Code) (b : Bool), codeOk G b c = true -> codeOk G' b c = true
 | .skip, _, _ => rfl
 | .label _, _, _ => rfl
 | .ret, _, _ => rfl
 | .exit _, _, _ => rfl
 | .goto _, _, _ => rfl
 | .refuse _, _, _ => rfl
 | .seq x y, b, hc => by
   simp only [codeOk, zJ5] at hc ⊢;exact ⟨qO h x b hc.1, qO h y b hc.2⟩
 | .cond v x y, b, hc => by
   simp only [codeOk, zJ5] at hc ⊢;exact ⟨jA h hc.1, qO h x b hc.2.1, qO h y b hc.2.2⟩
 | .block _ x, b, hc => by simp only [codeOk] at hc ⊢; exact qO h x b hc
 | .loop x, b, hc => by simp only [codeOk] at hc ⊢; exact qO h x b hc
 | .scope x, b, hc => by simp only [codeOk] at hc ⊢; exact qO h x b hc
 | .region _ ops draw, b, hc => by
   simp only [codeOk, zJ5] at hc ⊢;exact ⟨kE h hc.1, hc.2⟩
 | .rangeFunc v _ x y, b, hc => by
   simp only [codeOk, zJ5] at hc ⊢;exact ⟨hc.1, jA h hc.2.1, qO h x true hc.2.2.1, qO h y true hc.2.2.2⟩
def qGT (P : Program) (f : Inj) (e : Emb) (o : Obj) (ro : Option Obj) : Prop :=
 match o with
 | .cells c el fz => ∃ c' el' fz', ro = some (.cells c' el' fz') ∧ c'.size = e.N ∧ e.shift + c.size <= c'.size ∧
    (∀ (i : Nat) v, c[i]? = some v -> ∃ v', c'[e.shift + i]? = some v' ∧ zAA P f v v') ∧
    (aI fz = true -> e.ro = false ∧ el' = el ∧ ∀ j, j < c'.size -> ¬(fz'.1 <= j ∧ j < fz'.2)) ∧
    (fz = (0, 0) -> e.shift = 0 ∧ c.size = c'.size)
 | .pending _ _ => True
 | .map es clk => e.ro = false ∧ ∃ es', ro = some (.map es' clk) ∧ es'.size = es.size ∧
    ∀ (i : Nat) x, es[i]? = some x -> ∃ x', es'[i]? = some x' ∧ x'.key = x.key ∧ x'.born = x.born ∧ zAA P f x.val x'.val
 | .stringIter s p => e.ro = false ∧ e.shift = 0 ∧ ro = some (.stringIter s p)
 | .mapIter (some m) since seen last => e.ro = false ∧ e.shift = 0 ∧ ∃ em seen' stepped, f m = some em ∧ ro = some (.mapIter (some em.r) since seen' stepped) ∧
    (∀ x, x ∈ seen' ↔ x ∈ seen.toList) ∧ (∀ n, last = n + 1 -> seen'.back? = some n) ∧ (seen'.isEmpty = false -> stepped = since) ∧ (∀ x, x ∈ seen' -> x < since)
 | .loop lp => e.ro = false ∧ ∃ lp', ro = some (.loop lp') ∧ lp'.state = lp.state ∧ lp'.pending = lp.pending ∧ lp'.params = lp.params ∧ lp'.assign = lp.assign ∧ lp'.body = lp.body ∧
    qC P f lp.tmps.toList lp'.tmps.toList ∧ codeOk (zB f) true lp.assign = true ∧ codeOk (zB f) true lp.body = true ∧ (∀ c, lp.pending = some c -> qG4 c = true) ∧ e.shift = 0
 | _ => False
theorem qGT.mono {P : Program} {f g : Inj} {e : Emb} {o : Obj} {ro : Option Obj} (h : qGT P f e o ro) (hl : f.le g) : qGT P g e o ro := by
 cases o <;> simp only [qGT] at h ⊢
 case cells c el fz =>
  obtain ⟨c', el', fz', h1, h2, h3, h4, h5, h6⟩ := h;exact ⟨c', el', fz', h1, h2, h3, fun i v hv => let ⟨v', a, b⟩ := h4 i v hv; ⟨v', a, b.mono hl⟩, h5, h6⟩
 case map es clk =>
  obtain ⟨h0, es', h1, h2, h3⟩ := h;exact ⟨h0, es', h1, h2, fun i x hx => let ⟨x', a, b, c, d⟩ := h3 i x hx; ⟨x', a, b, c, d.mono hl⟩⟩
 case stringIter s p => exact h
 case mapIter m since seen last =>
  cases m with
  | none => simp only at h
  | some m =>
    obtain ⟨h0, h01, em, seen', st, h1, h2, h3⟩ := h;exact ⟨h0, h01, em, seen', st, hl _ _ h1, h2, h3⟩
 case loop lp =>
  obtain ⟨h0, lp', h1, h2, h3, h4, h5, h6, h7, h8, h9, h10⟩ := h;exact ⟨h0, lp', h1, h2, h3, h4, h5, h6, h7.mono hl, qO (zI hl) _ _ h8, qO (zI hl) _ _ h9, h10⟩
structure Rel (P : Program) (f : Inj) (H : IH) (w : World) : Prop where
 dom : ∀ b e, f b = some e -> b < H.size
 fresh : ∀ b, H.size <= b -> H.get b = none
 bound : ∀ b e, f b = some e -> e.r < w.heap.size
 obj : ∀ b e o, f b = some e -> H.get b = some o -> qGT P f e o w.heap[e.r]?
 sep : ∀ b1 b2 e1 e2 o1 o2, b1 ≠ b2 -> f b1 = some e1 -> f b2 = some e2 -> H.get b1 = some o1 -> H.get b2 = some o2 -> live o1 = true -> live o2 = true -> e1.r = e2.r ->
  e1.ro = true ∧ e2.ro = true
 zAU : ∀ b1 b2 e1 e2, f b1 = some e1 -> f b2 = some e2 -> e1.r = e2.r -> e1.ro = e2.ro
def Own (f : Inj) (r : Nat) : Prop := ∃ b e, f b = some e ∧ e.r = r ∧ e.ro = false
structure Grow (f : Inj) (H : IH) (w : World) (f' : Inj) (H' : IH) (w' : World) : Prop where
 zA5 : H.size <= H'.size
 stay : ∀ b, b < H.size -> f b = none -> f' b = none
 le : f.le f'
 size : w.heap.size <= w'.heap.size
 keep : ∀ r, r < w.heap.size -> ¬ Own f r -> ¬ Own f' r ∧ w'.heap[r]? = w.heap[r]?
 un : ∀ r, r < w.heap.size -> (∀ b e, f b = some e -> e.r ≠ r) -> ∀ b e, f' b = some e -> e.r ≠ r
 out : w'.os = w.os ∧ w'.output = w.output ∧ w'.tape = w.tape
theorem Grow.refl (f : Inj) (H : IH) (w : World) : Grow f H w f H w := ⟨zJ7 _, fun _ _ h => h, f.le_refl, zJ7 _, fun _ _ h => ⟨h, rfl⟩, fun _ _ h => h, ⟨rfl, rfl, rfl⟩⟩
theorem Grow.trans {f f1 f2 : Inj} {H H1 H2 : IH} {w w1 w2 : World} (a : Grow f H w f1 H1 w1) (b : Grow f1 H1 w1 f2 H2 w2) : Grow f H w f2 H2 w2 :=
 ⟨zKR a.zA5 b.zA5, fun x hx hn => b.stay x (zKB hx a.zA5) (a.stay x hx hn), Inj.le_trans a.le b.le, zKR a.size b.size, fun r hr ho => by
   obtain ⟨h1, h2⟩ := a.keep r hr ho;obtain ⟨h3, h4⟩ := b.keep r (zKB hr a.size) h1
   exact ⟨h3, h4.trans h2⟩, fun r hr hu => b.un r (zKB hr a.size) (a.un r hr hu),
   ⟨b.out.1.trans a.out.1, b.out.2.1.trans a.out.2.1, b.out.2.2.trans a.out.2.2⟩⟩
def Keep (f : Inj) (H H' : IH) : Prop := H.size <= H'.size ∧ ∀ b, b < H.size -> f b = none -> H'.get b = H.get b
theorem Keep.refl (f : Inj) (H : IH) : Keep f H H := ⟨zJ7 _, fun _ _ _ => rfl⟩
theorem IH.get_put : (H.put b o).get x = if x = b then some o else H.get x := by
 simp [IH.get, IH.put, Tr.zBL]
theorem IH.zAJ : (H.push o).get x = if x = H.size then some o else H.get x := by
 simp [IH.get, IH.push, Tr.zBL]
@[simp] theorem IH.size_put {H : IH} {b : Nat} {o : Obj} : (H.put b o).size = H.size := rfl
@[simp] theorem IH.size_push {H : IH} {o : Obj} : (H.push o).size = H.size + 1 := rfl
theorem Keep.put {f : Inj} {e : Emb} (h : f b = some e) : Keep f H (H.put b o) :=
 ⟨zJ7 _, fun x _ hn => by
   rw [IH.get_put];by_cases hb : x = b
   ·subst hb; rw [h] at hn; cases hn
   ·simp [hb]⟩
theorem Keep.push {f : Inj} : Keep f H (H.push o) :=
 ⟨by simp, fun x hx _ => by rw [IH.zAJ, if_neg (by omega)]⟩
def World.put (w : World) (r : Nat) (o : Obj) : World := { w with heap := w.heap.setIfInBounds r o }
theorem heap_put {w : World} {r : Nat} (h : r < w.heap.size) : (World.put w r o).heap[x]? = if x = r then some o else w.heap[x]? := by
 unfold World.put;by_cases e : x = r
 ·subst e; simp [h]
 ·simp only [e, if_false]; rw [zMC (Ne.symm e)]
theorem heap_alloc {w : World} : (w.alloc o).heap[x]? = if x = w.heap.size then some o else w.heap[x]? := by
 show (w.heap.push o)[x]? = _;rw [Array.getElem?_push]
theorem Rel.push {f : Inj} {w : World} {o' : Obj} {e : Emb} (h : Rel P f H w) (her : e.r = w.heap.size)
 (ho : qGT P (f.add H.size e) e o (some o')) : Rel P (f.add H.size e) (H.push o) (w.alloc o') ∧ Grow f H w (f.add H.size e) (H.push o) (w.alloc o') := by
 have hnone : f H.size = none := by
  cases hx : f H.size with
  | none => rfl
  | some y => have := h.dom _ _ hx; omega
 have hle : f.le (f.add H.size e) := Inj.zBD hnone;have old : ∀ b y, f b = some y -> y.r ≠ w.heap.size := fun b y hb => by have := h.bound b y hb; omega
 refine ⟨⟨?_, ?_, ?_, ?_, ?_, ?_⟩, ⟨by simp, (fun b hb hn => by rw [Inj.zAC (by omega)]; exact hn), hle, by simp, ?_, ?_, ⟨rfl, rfl, rfl⟩⟩⟩
 ·intro b y hb;by_cases e1 : b = H.size
  ·subst e1; simp
  ·rw [Inj.zAC e1] at hb; have := h.dom b y hb; simp; omega
 ·intro b hb;simp only [IH.size_push] at hb;rw [IH.zAJ, if_neg (by omega)];exact h.fresh b (by omega)
 ·intro b y hb;by_cases e1 : b = H.size
  ·subst e1; rw [Inj.add_same] at hb; cases hb; rw [her]; simp
  ·rw [Inj.zAC e1] at hb; have := h.bound b y hb; simp; omega
 ·intro b y ob hb hob;by_cases e1 : b = H.size
  ·subst e1; rw [Inj.add_same] at hb; cases hb;rw [IH.zAJ, if_pos rfl] at hob; cases hob;rw [heap_alloc, if_pos her]; exact ho
  ·rw [Inj.zAC e1] at hb;rw [IH.zAJ, if_neg e1] at hob;rw [heap_alloc, if_neg (old b y hb)];exact (h.obj b y ob hb hob).mono hle
 ·intro b1 b2 e1 e2 o1 o2 hne h1 h2 g1 g2 l1 l2 hr;by_cases x1 : b1 = H.size
  ·subst x1;rw [Inj.add_same] at h1; cases h1;rw [Inj.zAC (Ne.symm hne)] at h2;exact absurd (hr.symm.trans her) (old b2 e2 h2)
  ·rw [Inj.zAC x1] at h1;by_cases x2 : b2 = H.size
   ·subst x2;rw [Inj.add_same] at h2; cases h2;exact absurd (hr.trans her) (old b1 e1 h1)
   ·rw [Inj.zAC x2] at h2;rw [IH.zAJ, if_neg x1] at g1;rw [IH.zAJ, if_neg x2] at g2;exact h.sep b1 b2 e1 e2 o1 o2 hne h1 h2 g1 g2 l1 l2 hr
 ·intro b1 b2 e1 e2 h1 h2 hr;by_cases x1 : b1 = H.size
  ·subst x1;rw [Inj.add_same] at h1; cases h1;by_cases x2 : b2 = H.size
   ·subst x2; rw [Inj.add_same] at h2; cases h2; rfl
   ·rw [Inj.zAC x2] at h2; exact absurd (hr.symm.trans her) (old b2 e2 h2)
  ·rw [Inj.zAC x1] at h1;by_cases x2 : b2 = H.size
   ·subst x2; rw [Inj.add_same] at h2; cases h2; exact absurd (hr.trans her) (old b1 e1 h1)
   ·rw [Inj.zAC x2] at h2; exact h.zAU b1 b2 e1 e2 h1 h2 hr
 ·intro r hr hno;refine ⟨?_, by rw [heap_alloc, if_neg (by omega)]⟩;rintro ⟨b, y, hb, hyr, hro⟩;by_cases e1 : b = H.size
  ·subst e1; rw [Inj.add_same] at hb; cases hb; omega
  ·rw [Inj.zAC e1] at hb; exact hno ⟨b, y, hb, hyr, hro⟩
 ·intro r hr hu b y hb;by_cases e1 : b = H.size
  ·subst e1; rw [Inj.add_same] at hb; cases hb; omega
  ·rw [Inj.zAC e1] at hb; exact hu b y hb
theorem Rel.put {P : Program} {f : Inj} {H : IH} {w w' : World} {o o1 o1' : Obj} {b : Nat} {e : Emb} (h : Rel P f H w) (hb : f b = some e) (hg : H.get b = some o) (hlive : live o = true)
 (hro : e.ro = false) (ho : qGT P f e o1 (some o1')) (hw : ∀ x : Nat, w'.heap[x]? = if x = e.r then some o1' else w.heap[x]?) (hws : w'.heap.size = w.heap.size)
 (hout : w'.os = w.os ∧ w'.output = w.output ∧ w'.tape = w.tape := by exact ⟨rfl, rfl, rfl⟩) :
 Rel P f (H.put b o1) w' ∧ Grow f H w f (H.put b o1) w' ∧ Keep f H (H.put b o1) := by
 refine ⟨⟨h.dom, ?_, ?_, ?_, ?_, h.zAU⟩, ⟨zJ7 _, fun _ _ h => h, f.le_refl, by omega, ?_, fun _ _ h => h, hout⟩, Keep.put hb⟩
 ·intro x hx;rw [IH.get_put, if_neg]
  ·exact h.fresh x hx
  ·intro e1; subst e1; have := h.dom _ _ hb; simp at hx; omega
 ·intro x y hx; rw [hws]; exact h.bound x y hx
 ·intro x y ox hx hox;rw [hw];by_cases e1 : x = b
  ·subst e1;rw [hb] at hx; cases hx;rw [IH.get_put, if_pos rfl] at hox; cases hox;rw [if_pos rfl]; exact ho
  ·rw [IH.get_put, if_neg e1] at hox;by_cases e2 : y.r = e.r
   ·-- another block at the same place: dead
    by_cases hlx : live ox = true
    ·have := h.sep x b y e ox o e1 hx hb hox hg hlx hlive e2;rw [hro] at this; exact absurd this.2 (by simp)
    ·cases ox <;> simp [live] at hlx;simp [qGT]
   ·rw [if_neg e2]; exact h.obj x y ox hx hox
 ·intro b1 b2 e1 e2 o1' o2' hne h1 h2 g1 g2 l1 l2 hr;rw [IH.get_put] at g1 g2;by_cases x1 : b1 = b
  ·subst x1;rw [hb] at h1; cases h1;rw [if_neg (Ne.symm hne)] at g2;exact h.sep b1 b2 e e2 o o2' hne hb h2 hg g2 hlive l2 hr
  ·rw [if_neg x1] at g1;by_cases x2 : b2 = b
   ·subst x2;rw [hb] at h2; cases h2;exact h.sep b1 b2 e1 e o1' o hne h1 hb g1 hg l1 hlive hr
   ·rw [if_neg x2] at g2;exact h.sep b1 b2 e1 e2 o1' o2' hne h1 h2 g1 g2 l1 l2 hr
 ·intro r _ hno;refine ⟨hno, ?_⟩;rw [hw, if_neg];intro e1; exact hno ⟨b, e, hb, e1.symm, hro⟩
theorem Rel.kill {f : Inj} {w : World} {e : Emb} (h : Rel P f H w) (hb : f b = some e) : Rel P f (H.put b yV) w := by
 refine ⟨h.dom, ?_, h.bound, ?_, ?_, h.zAU⟩
 ·intro x hx;rw [IH.get_put, if_neg]
  ·exact h.fresh x hx
  ·intro e1; subst e1; have := h.dom _ _ hb; simp at hx; omega
 ·intro x y ox hx hox;rw [IH.get_put] at hox;by_cases e1 : x = b
  ·rw [if_pos e1] at hox; cases hox; simp [qGT, yV]
  ·rw [if_neg e1] at hox; exact h.obj x y ox hx hox
 ·intro b1 b2 e1 e2 o1 o2 hne h1 h2 g1 g2 l1 l2 hr;rw [IH.get_put] at g1 g2;by_cases x1 : b1 = b
  ·rw [if_pos x1] at g1; cases g1; simp [live, yV] at l1
  ·by_cases x2 : b2 = b
   ·rw [if_pos x2] at g2; cases g2; simp [live, yV] at l2
   ·rw [if_neg x1] at g1; rw [if_neg x2] at g2;exact h.sep b1 b2 e1 e2 o1 o2 hne h1 h2 g1 g2 l1 l2 hr
theorem Rel.world {f : Inj} {w w' : World} (h : Rel P f H w) (hw : w'.heap = w.heap) : Rel P f H w' :=
 ⟨h.dom, h.fresh, fun b e hb => by rw [hw]; exact h.bound b e hb, fun b e o hb ho => by rw [hw]; exact h.obj b e o hb ho, h.sep, h.zAU⟩
theorem Grow.sizes {f f' : Inj} {H' H0 H1 : IH} {w w' : World} (h : Grow f H w f' H' w') (h0 : H0.size <= H.size) (h1 : H'.size <= H1.size) : Grow f H0 w f' H1 w' :=
 ⟨zKR h0 (zKR h.zA5 h1), fun b hb hn => h.stay b (zKB hb h0) hn, h.le, h.size, h.keep, h.un, h.out⟩
theorem Grow.world {f : Inj} {w w' : World} (hw : w'.heap = w.heap) (hout : w'.os = w.os ∧ w'.output = w.output ∧ w'.tape = w.tape := by exact ⟨rfl, rfl, rfl⟩) : Grow f H w f H w' := ⟨zJ7 _, fun _ _ h => h, f.le_refl, by rw [hw]; exact zJ7 _, fun r _ h => ⟨h, by rw [hw]⟩, fun _ _ h => h, hout⟩
end Go.Idl
