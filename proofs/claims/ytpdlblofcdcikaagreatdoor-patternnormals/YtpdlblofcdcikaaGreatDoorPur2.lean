/- Operations on values without a heap. Conditions: none. -/
import Derived.Test.YtpdlblofcdcikaaGreatDoorPur1
set_option linter.unusedSimpArgs false
set_option linter.unusedVariables false
namespace Go.Idl
noncomputable section
variable {P : Program}

def fvv (v : Value) : PV := .f (.v v)
def okC (v : Value) : Bool := plainV v && oneCell v
/-- a constant, or what a run without addresses yields -/
def ofC1 (v : Value) : PV := cond (okC v) (fvv v) .unk
def ofC : Value → PV
  | .agg cs => cond (allR okC cs.toList) (.agg (mapR fvv cs.toList)) .unk
  | .tuple cs => cond (allR okC cs.toList) (.tup (mapR fvv cs.toList)) .unk
  | v => ofC1 v
def pval (env : List PV) : Operand → PV
  | .tmp t => (nthR env t).getD .unk
  | .const v => ofC v
  | .global _ => .unk
  | .func g => fvv (.func (.func g) #[] #[])
def pputD (env : List PV) (d : Option Tmp) (v : PV) : List PV :=
  match d with
  | some t => setR env t v
  | none => env

/-- a value without addresses, as the model has it -/
def pl1 : PV → Option Value
  | .f (.v x) => some x
  | _ => none
def pl1L : List PV → Option (List Value)
  | [] => some []
  | x :: l => match pl1 x with
    | some v => (match pl1L l with
      | some vs => some (v :: vs)
      | none => none)
    | none => none
def pl : PV → Option Value
  | .f (.v x) => some x
  | .agg cs => (match pl1L cs with
    | some vs => some (.agg vs.toArray)
    | none => none)
  | _ => none
def plL : List PV → Option (List Value)
  | [] => some []
  | x :: l => match pl x with
    | some v => (match plL l with
      | some vs => some (v :: vs)
      | none => none)
    | none => none
def H00 : IH := ⟨.nil, 0, 0, []⟩
def cop (op : Op) (ty : TypeId := 0) : Oper := ⟨none, op, ty, "", #[], none⟩
def isIf : Value → Bool
  | .nilIface => true
  | _ => false
/-- what the model's own run yields, without a heap -/
def val1 : Option Step1 → Option PV
  | some (.val v _) => some (ofC v)
  | _ => none
def pdry (P : Program) (op : Op) (ty : TypeId := 0) : Option PV := val1 (idry P (cop op ty) [] H00)

def pone : PV → Bool
  | .agg _ | .tup _ | .yl _ | .unk => false
  | _ => true
def pnt : PV → Bool
  | .tup _ | .yl _ | .unk => false
  | _ => true
def pcells : PV → List PV
  | .agg cs => cs
  | v => [v]
def pover (l : List PV) (i : Nat) (vs : List PV) : List PV := l.take i ++ vs ++ l.drop (i + vs.length)

/-! ### Types -/
def elemT (P : Program) (t : TypeId) : Option TypeId := match P.underlying t with
  | some (.slice el) => some el
  | _ => none
def arrT (P : Program) (t : TypeId) : Option (Nat × TypeId) := match P.underlying t with
  | some (.array n el) => some (n, el)
  | _ => none
def fldT (P : Program) (t : TypeId) (i : Nat) : Option (Nat × TypeId) := match P.underlying t with
  | some (.struct fields) => (match fields[i]? with
    | some f => some (f.offset, f.type)
    | none => none)
  | _ => none
/-- the cells of the zero value -/
def zc (P : Program) (t : TypeId) : Option (List PV) := match zeroP P t with
  | some z => cond (allR okC z.cells.toList) (some (mapR fvv z.cells.toList)) none
  | none => none
/-- where a part is built in -/
def placeT (P : Program) (t : TypeId) (i : Nat) : Option (Nat × Nat) := match P.underlying t with
  | some (.struct fields) => (match fields[i]? with
    | some f => (szT P f.type).map fun s => (f.offset, s)
    | none => none)
  | some (.array _ el) => (szT P el).map fun s => (i * s, s)
  | _ => none
def buildOk (P : Program) (t : TypeId) : Bool := match P.underlying t with
  | some (.struct fields) => (fields.toList.mapM (fun f => (szT P f.type).map fun s => (f.offset, s))).isSome
  | some (.array _ el) => (szT P el).isSome
  | _ => false
def smallT (P : Program) (el : TypeId) : Bool := match P.info? el with
  | some i => decide (i.bytes ≤ 4096) && (match zeroT P el with
    | some z => Nat.beq z.cells.size i.size
    | none => false)
  | none => false
/-! ### Memory -/
def ppart (P : Program) (t : TypeId) (cs : List PV) (off : Nat) : Option PV := match aggT P t with
  | some true => (match szT P t with
    | some n => cond (Nat.ble (off + n) cs.length) (some (.agg ((cs.drop off).take n))) none
    | none => none)
  | some false => nthR cs off
  | none => none
/-- a part of a list that is not written -/
def fpart (P : Program) (t : TypeId) (cs : List FV) (off : Nat) : Option PV := match aggT P t with
  | some true => (match szT P t with
    | some n => cond (Nat.ble (off + n) cs.length) (some (.agg (((cs.drop off).take n).map .f))) none
    | none => none)
  | some false => (match cs[off]? with
    | some x => some (.f x)
    | none => none)
  | none => none
def pload (P : Program) (t : TypeId) (a : PV) (ph : PHp) : Option PV := match a with
  | .ref k tt off => (match plook k ph with
    | some ob => cond (Nat.beq tt ob.cs.length) (ppart P t ob.cs off) none
    | none => none)
  | .lp cs off => fpart P t cs off
  | _ => none
def pstore (P : Program) (t : TypeId) (a x : PV) (ph : PHp) : Option PHp := match a with
  | .ref k tt off => (match plook k ph with
    | some ob => (match szT P t with
      | some n => cond (Nat.beq tt ob.cs.length && (Nat.beq n (pcells x).length && (Nat.ble (off + n) ob.cs.length && (pnt x && (pcells x).all pone)))) (some (pset k { ob with cs := pover ob.cs off (pcells x) } ph)) none
      | none => none)
    | none => none)
  | _ => none
def pfill (place : Nat → Option (Nat × Nat)) : List PV → List (Nat × PV) → Option (List PV)
  | cells, [] => some cells
  | cells, (i, v) :: rest => match place i with
    | some (off, size) => cond (Nat.beq (pcells v).length size && (Nat.ble (off + size) cells.length && (pnt v && (pcells v).all pone))) (pfill place (pover cells off (pcells v)) rest) none
    | none => none
def pbuild (P : Program) (t : TypeId) (parts : List (Nat × PV)) : Option PV := match zc P t with
  | some z => cond (buildOk P t) (match pfill (placeT P t) z parts with
    | some cs => some (.agg cs)
    | none => none) none
  | none => none
def prow (n : Nat) (z : List PV) : List PV := (List.replicate n z).flatten
def pnew (k : Nat) (ob : PO) (v : PV) (ph : PHp) : Option (PV × PHp) := some (v, (k, ob) :: ph)
def pbuildSlice (P : Program) (t : TypeId) (len : Nat) (parts : List (Nat × PV)) (k : Nat) (ph : PHp) : Option (PV × PHp) := match elemT P t with
  | some el => (match szT P el, zc P el with
    | some (s + 1), some z => cond (Nat.beq z.length (s + 1) && Nat.ble (len * (s + 1)) 65536) (match pfill (fun i => some (i * (s + 1), s + 1)) (prow len z) parts with
      | some cs => pnew k ⟨el, false, cs⟩ (.own k len 0 len) ph
      | none => none) none
    | _, _ => none)
  | none => none
/-- the length of a new slice -/
def mkN (n : Int) : Option Nat := if 0 ≤ n ∧ n ≤ 65536 then some n.toNat else none
def pmakeSlice (P : Program) (t : TypeId) (l c : PV) (k : Nat) (ph : PHp) : Option (PV × PHp) := match elemT P t, l, c with
  | some el, .f (.v (.int _ n)), .f (.v (.int _ m)) => cond (decide (n = m)) (match mkN n, szT P el, zc P el with
    | some n, some (s + 1), some z => cond (smallT P el && Nat.beq z.length (s + 1)) (pnew k ⟨el, false, prow n z⟩ (.own k n 0 n) ph) none
    | _, _, _ => none) none
  | _, _, _ => none
def palloc (P : Program) (el : TypeId) (k : Nat) (ph : PHp) : Option (PV × PHp) := match zc P el with
  | some z => pnew k ⟨el, false, z⟩ (.ref k z.length 0) ph
  | none => none
def pbox (el : TypeId) (v : PV) (k : Nat) (ph : PHp) : Option (PV × PHp) :=
  cond (pnt v && (pcells v).all pone) (pnew k ⟨el, false, pcells v⟩ (.ref k (pcells v).length 0) ph) none
/-- is a reference as it was -/
def live? (k t : Nat) (ph : PHp) : Bool := match plook k ph with
  | some ob => Nat.beq t ob.cs.length
  | none => false
def pnilCheck (v : PV) (ph : PHp) : Option PV := match v with
  | .ref k t off => cond (live? k t ph) (some v) none
  | .lp cs off => some v
  | .fn _ _ _ => some v
  | .f (.v (.func (.func g) a c)) => some v
  | _ => none
def pmakeFunc (fn : Fn) (first cap : List PV) : Option PV := match fn with
  | .func g => some (match first, cap with
    | [], [] => fvv (.func (.func g) #[] #[])
    | _, _ => .fn g first cap)
  | _ => none
/-- the bound of a slice expression -/
def bnd (d most : Nat) : Option PV → Option Nat
  | none => some d
  | some (.f (.v (.int _ i))) => if 0 ≤ i ∧ i ≤ (most : Int) then some i.toNat else none
  | some _ => none
def pslice (P : Program) (t : TypeId) (x : PV) (lo hi : Option PV) (ph : PHp) : Option PV := match x with
  | .f (.l el n cs) => (match elemT P t, szT P el, bnd n n hi with
    | some el', some s, some h => (match bnd 0 h lo with
      | some l => cond (Nat.beq el' el && Nat.beq (n * s) cs.length) (some (.f (cond (Nat.beq l h) (.l el 0 []) (.l el (h - l) ((cs.drop (l * s)).take ((h - l) * s)))))) none
      | none => none)
    | _, _, _ => none)
  | .f (.v (.slice none 0 0)) => (match elemT P t, bnd 0 0 hi, bnd 0 0 lo with
    | some el, some _, some _ => cond ((szT P el).isSome) (some x) none
    | _, _, _ => none)
  | .own k tt o n => (match plook k ph with
    | some ob => (match elemT P t, szT P ob.el, bnd n n hi with
      | some el', some s, some h => (match bnd 0 h lo with
        | some l => cond (Nat.beq el' ob.el && Nat.beq (tt * s) ob.cs.length) (some (cond (Nat.beq l 0) (.own k tt o h) (cond (Nat.beq l h) (.f (.l ob.el 0 [])) (.own k tt (o + l) (h - l))))) none
        | none => none)
      | _, _, _ => none)
    | none => none)
  | .ref k tt 0 => (match plook k ph with
    | some ob => (match arrT P t with
      | some (m, el) => (match szT P el, bnd m m hi with
        | some (s + 1), some h => (match bnd 0 h lo with
          | some l => cond (Nat.beq el ob.el && (Nat.beq tt ob.cs.length && (Nat.beq (m * (s + 1)) tt && !ob.gr))) (some (cond (Nat.beq l 0) (.own k m 0 h) (cond (Nat.beq l h) (.f (.l el 0 [])) (.own k m l (h - l))))) none
          | none => none)
        | _, _ => none)
      | none => none)
    | none => none)
  | _ => none
def pfieldAddr (P : Program) (t : TypeId) (x : PV) (i : Nat) (ph : PHp) : Option PV := match fldT P t i with
  | some (off, ft) => (match szT P ft with
    | some (_ + 1) => (match x with
      | .ref k tt o => cond (live? k tt ph) (some (.ref k tt (o + off))) none
      | .lp cs o => some (.lp cs (o + off))
      | _ => none)
    | _ => none)
  | none => none
def pfield (P : Program) (t : TypeId) (x : PV) (i : Nat) : Option PV := match fldT P t i, x with
  | some (off, ft), .agg cs => ppart P ft cs off
  | _, _ => none
/-- an index -/
def idx (n : Nat) (i : Int) : Option Nat := if 0 ≤ i ∧ i < (n : Int) then some i.toNat else none
def pindexAddr (P : Program) (t : TypeId) (x ix : PV) (ph : PHp) : Option PV := match ix with
  | .f (.v (.int _ i)) => (match x with
    | .f (.l el n cs) => (match elemT P t with
      | some el' => (match szT P el' with
        | some s => (match idx n i with
          | some j => some (.lp cs (j * s))
          | none => none)
        | none => none)
      | none => none)
    | .own k tt o n => (match elemT P t, plook k ph with
      | some el', some ob => (match szT P ob.el with
        | some s => (match idx n i with
          | some j => cond (Nat.beq el' ob.el && Nat.beq (tt * s) ob.cs.length) (some (.ref k ob.cs.length ((o + j) * s))) none
          | none => none)
        | none => none)
      | _, _ => none)
    | .ref k tt off => (match arrT P t with
      | some (n, el) => (match szT P el, idx n i with
        | some s, some j => cond (live? k tt ph) (some (.ref k tt (off + j * s))) none
        | _, _ => none)
      | none => none)
    | .lp cs off => (match arrT P t with
      | some (n, el) => (match szT P el, idx n i with
        | some s, some j => some (.lp cs (off + j * s))
        | _, _ => none)
      | none => none)
    | _ => none)
  | _ => none
def pindex (P : Program) (t : TypeId) (x ix : PV) : Option PV := match arrT P t, x, ix with
  | some (n, el), .agg cs, .f (.v (.int _ i)) => (match szT P el, idx n i with
    | some s, some j => ppart P el cs (j * s)
    | _, _ => none)
  | _, _, _ => none
def pextract (v : PV) (i : Nat) : Option PV := match v with
  | .tup cs => (match nthR cs i with
    | some x => cond (pnt x) (some x) none
    | none => none)
  | _ => none
def pp1 (ph : PHp) : Option PV → Option (PV × PHp)
  | some v => some (v, ph)
  | none => none
def ppS : Option PHp → Option (PV × PHp)
  | some ph => some (.tup [], ph)
  | none => none

/-! ### Comparisons with nil -/
def isNil (v : PV) (ph : PHp) : Option Bool := match v with
  | .f (.v (.slice none _ _)) => some true
  | .f (.l _ (_ + 1) (_ :: _)) => some false
  | .own k t _ _ => (match plook k ph with
    | some ob => (match szT P ob.el with
      | some s => cond (Nat.beq (t * s) ob.cs.length) (some (ob.gr && Nat.beq t 0)) none
      | none => none)
    | none => none)
  | _ => none
def isNilF (v : PV) : Option Bool := match v with
  | .f (.v .nilFunc) => some true
  | .f (.v (.func _ _ _)) => some false
  | .fn _ _ _ => some false
  | _ => none
def funcT (P : Program) (t : TypeId) : Bool := match P.underlying t with
  | some (.func _ _ _) => true
  | _ => false
/-- a slice or a function, held against nil -/
def pnil (P : Program) (t : TypeId) (a b : PV) (ph : PHp) : Option Bool := match b with
  | .f (.v (.slice none _ _)) => cond (elemT P t).isSome (isNil (P := P) a ph) none
  | .f (.v .nilFunc) => cond (funcT P t) (isNilF a) none
  | _ => none
def pbin (P : Program) (op : BinOp) (t t2 : TypeId) (x y : PV) (ph : PHp) : Option PV := match pl x, pl y with
  | some a, some b => cond (isIf a) none (val1 (ibinOp P (cop (.binOp op t (.const a) (.const b) t2)) op t a b [] H00))
  | _, _ => (match op with
    | .eql => (pnil P t x y ph).map fun b => fvv (.bool b)
    | .neq => (pnil P t x y ph).map fun b => fvv (.bool !b)
    | _ => none)
def pdry1 (P : Program) (mk : Operand → Op) (x : PV) (ty : TypeId := 0) : Option PV := match pl x with
  | some a => pdry P (mk (.const a)) ty
  | none => none

/-! ### Builtins -/
def plen (P : Program) (ts : Array TypeId) (x : PV) (ph : PHp) : Option PV := match ts[0]? with
  | some t => (match elemT P t with
    | some _ => (match x with
      | .f (.l _ n _) => some (fvv (.int .i64 (n : Int)))
      | .f (.v (.slice _ n _)) => some (fvv (.int .i64 (n : Int)))
      | .own k tt _ n => (match plook k ph with
        | some ob => (match szT P ob.el with
          | some s => cond (Nat.beq (tt * s) ob.cs.length) (some (fvv (.int .i64 (n : Int)))) none
          | none => none)
        | none => none)
      | _ => none)
    | none => (match arrT P t with
      | some (n, _) => some (fvv (.int .i64 (n : Int)))
      | none => none))
  | none => none
/-- the elements of a slice that is appended, or copied: how many, their cells -/
def pnews (P : Program) (s : Nat) (x : PV) (ph : PHp) : Option (Nat × List PV) := match x with
  | .f (.l _ n cs) => cond (Nat.beq (n * s) cs.length) (some (n, cs.map .f)) none
  | .f (.v (.slice none 0 _)) => some (0, [])
  | .own k tt o n => (match plook k ph with
    | some ob => (match szT P ob.el with
      | some s' => cond (Nat.beq (tt * s') ob.cs.length && Nat.beq s s') (some (n, (ob.cs.drop (o * s)).take (n * s))) none
      | none => none)
    | none => none)
  | _ => none
def pgrow (P : Program) (el : TypeId) (s : Nat) (old : List PV) (n : Nat) (new : List PV) (m : Nat) (k : Nat) (ph : PHp) : Option (PV × PHp) :=
  cond (Nat.ble (n + m) 1048576 && (smallT P el && (Nat.beq (old.length) (n * s) && (Nat.beq new.length (m * s) && new.all pone)))) (pnew k ⟨el, true, old ++ new⟩ (.own k (n + m) 0 (n + m)) ph) none
/-- append: to nil a new object k; to an object that grew, the same object; to another one, a new object k -/
def pappend (P : Program) (ts : List TypeId) (base x : PV) (k : Nat) (ph : PHp) : Option (PV × PHp) := match ts with
  | [st, xt] => (match elemT P st, elemT P xt with
    | some el, some _ => (match szT P el with
      | some (s + 1) => (match pnews P (s + 1) x ph with
        | some (m, new) => (match base with
          | .f (.v (.slice none 0 0)) => cond (Nat.beq m 0) (some (base, ph)) (pgrow P el (s + 1) [] 0 new m k ph)
          | .own j tt o n => (match plook j ph with
            | some ob => cond (Nat.beq ob.el el && (Nat.beq (tt * (s + 1)) ob.cs.length && Nat.beq o 0))
                (cond (Nat.beq m 0) (some (base, ph))
                  (cond (Nat.ble (n + m) tt) (cond (Nat.beq new.length (m * (s + 1)) && new.all pone) (some (.own j tt 0 (n + m), pset j { ob with cs := pover ob.cs (n * (s + 1)) new } ph)) none)
                    (cond (Nat.beq n tt) (cond ob.gr (pgrow P el (s + 1) ob.cs n new m j (pdel j ph)) (pgrow P el (s + 1) ob.cs n new m k ph)) none))) none
            | none => none)
          | _ => none)
        | none => none)
      | _ => none)
    | _, _ => none)
  | _ => none
def pcopy (P : Program) (ts : List TypeId) (base x : PV) (ph : PHp) : Option (PV × PHp) := match ts with
  | [st, xt] => (match elemT P st, elemT P xt with
    | some el, some _ => (match szT P el with
      | some (s + 1) => (match pnews P (s + 1) x ph with
        | some (m, new) => (match base with
          | .own j tt o n => (match plook j ph with
            | some ob => cond (Nat.beq ob.el el && (Nat.beq (tt * (s + 1)) ob.cs.length && (Nat.beq new.length (m * (s + 1)) && new.all pone)))
                (some (fvv (.int .i64 ((Nat.min m n : Nat) : Int)), pset j { ob with cs := pover ob.cs (o * (s + 1)) (new.take (Nat.min m n * (s + 1))) } ph)) none
            | none => none)
          | .f (.l _ 0 []) => some (fvv (.int .i64 0), ph)
          | .f (.v (.slice none 0 _)) => some (fvv (.int .i64 0), ph)
          | _ => none)
        | none => none)
      | _ => none)
    | _, _ => none)
  | _ => none
/-- a new object's label may be reused: it is borne by nothing -/
def needs : Op → Bool
  | .alloc _ | .box _ _ | .buildSlice _ _ _ | .makeSlice _ _ _ => true
  | .call c => match c.callee with
    | .builtin .append => true
    | _ => false
  | _ => false

def strT (P : Program) (ts : Array TypeId) : Bool := match (ts[0]?).bind P.underlying with
  | some .string => true
  | _ => false
def isPtr : PV → Bool
  | .f (.v (.pointer _)) => true
  | _ => false
def erV (x : PV) : Value := (pl x).getD undef
def eenv (env : List PV) : Env := mapR erV env
def pcallD (P : Program) (b : Builtin) (c : Call) (args : List PV) (env : List PV) (ty : TypeId) (ph : PHp) : Option (PV × PHp) := match plL args with
  | some _ => pp1 ph (val1 (idry P (cop (.call c) ty) (eenv env) H00))
  | none => none
def pcallB (P : Program) (b : Builtin) (c : Call) (args : List PV) (env : List PV) (ty : TypeId) (k : Nat) (ph : PHp) : Option (PV × PHp) := match b with
  | .append => (match args with
    | [x, y] => pappend P c.argTypes.toList x y k ph
    | _ => none)
  | .copy => (match args with
    | [x, y] => pcopy P c.argTypes.toList x y ph
    | _ => none)
  | .len => (match args with
    | [x] => cond (strT P c.argTypes) (pcallD P b c args env ty ph) (pp1 ph (plen P c.argTypes x ph))
    | _ => none)
  | .min => pcallD P b c args env ty ph
  | .max => pcallD P b c args env ty ph
  | _ => none

/-- one operation, no call of a function -/
def pop1 (P : Program) (o : Oper) (env : List PV) (k : Nat) (ph : PHp) : Option (PV × PHp) :=
  match o.op with
  | .move x => some (pval env x, ph)
  | .assign x => some (pval env x, ph)
  | .pick c a b => (match pval env c with
    | .f (.v (.bool t)) => some (cond t (pval env a) (pval env b), ph)
    | _ => none)
  | .alloc el => palloc P el k ph
  | .box el x => pbox el (pval env x) k ph
  | .build t parts => pp1 ph (pbuild P t (parts.toList.map fun p => (p.1, pval env p.2)))
  | .buildSlice t len parts => pbuildSlice P t len (parts.toList.map fun p => (p.1, pval env p.2)) k ph
  | .load t a => pp1 ph (pload P t (pval env a) ph)
  | .store t a x => ppS (pstore P t (pval env a) (pval env x) ph)
  | .nilCheck x => pp1 ph (pnilCheck (pval env x) ph)
  | .binOp op t x y t2 => pp1 ph (pbin P op t t2 (pval env x) (pval env y) ph)
  | .unOp op t x => pp1 ph (pdry1 P (fun a => .unOp op t a) (pval env x))
  | .convert s d x => cond (isPtr (pval env x)) none (pp1 ph (pdry1 P (fun a => .convert s d a) (pval env x)))
  | .makeFunc fn first cap => pp1 ph (pmakeFunc fn (first.toList.map (pval env)) (cap.toList.map (pval env)))
  | .makeSlice t l c => pmakeSlice P t (pval env l) (pval env c) k ph
  | .slice t x lo hi none => (match pval env x with
    | .f (.v (.string s)) => (match plL ((lo.toList ++ hi.toList).map (pval env)) with
      | some _ => pp1 ph (pdry P (.slice t (.const (.string s)) (lo.map fun a => .const ((pl (pval env a)).getD undef)) (hi.map fun a => .const ((pl (pval env a)).getD undef)) none))
      | none => none)
    | v => pp1 ph (pslice P t v (lo.map (pval env)) (hi.map (pval env)) ph))
  | .fieldAddr t x i => pp1 ph (pfieldAddr P t (pval env x) i ph)
  | .field t x i => pp1 ph (pfield P t (pval env x) i)
  | .indexAddr t x ix => pp1 ph (pindexAddr P t (pval env x) (pval env ix) ph)
  | .index t x ix => (match pval env x, pl (pval env ix) with
    | .f (.v (.string s)), some j => pp1 ph (pdry P (.index t (.const (.string s)) (.const j)))
    | v, _ => pp1 ph (pindex P t v (pval env ix)))
  | .extract t i => pp1 ph (pextract (pval env t) i)
  | .call c => (match c.callee with
    | .builtin b => pcallB P b c (c.args.toList.map (pval env)) env o.type k ph
    | _ => none)
  | _ => none
end
end Go.Idl
