/- The fixed examples of the chapter, run in pieces. Conditions: none. -/
import Derived.Test.YtjgfemghlhmlbaaGreatDoorBase
set_option linter.all false
namespace Go.Proofs.YtjgfemghlhmlbaaGreatDoor
open Go.Idl
noncomputable section
abbrev iV (n : Int) : Value := .int .i64 n
abbrev sV (b l c : Nat) : Value := .slice (some ⟨b, 0, none⟩) l c
abbrev cO (l : List Value) (t : TypeId) : Obj := .cells l.toArray t (0, 0)
abbrev nE : List (Nat × Value) -> Env := zFD 266
abbrev xA (k : Nat) (e : Env) (h : List (Nat × Obj)) (n : Nat) (e' : Env) (h' : List (Nat × Obj)) (n' : Nat) : Bool := qLQ (iex Tryz.prog good qSZ 10000 (.code (q8W (jS k c18)) e) (qP6 h n)) e' h' n'
abbrev xC (k : Nat) : Code := .seq (q8W (jS k c18)) (jS (k + 1) c18)
abbrev xO (k : Nat) : Bool := codeOk (wP 3) false (q8W (jS k c18))
def lH0 : List (Nat × Obj) := []
def lE1 : List (Nat × Value) := [(0, .bool false)]
def lH1 : List (Nat × Obj) := []
def lE2 := lE1 ++ [(1, .slice (some ⟨51, 0, some 22⟩) 4 4), (2, iV 0)]
def lH2 : List (Nat × Obj) := [(49, .cells #[iV 0, iV 2] 3 (1, 1)), (42, .cells #[iV 2, iV 1] 3 (1, 1)), (35, .cells #[iV 1, iV 0] 3 (1, 1)), (28, .cells #[iV 0, iV 2] 3 (1, 1)), (51, .cells #[.slice (some ⟨28, 0, some 3⟩) 2 2, .slice (some ⟨35, 0, some 3⟩) 2 2, .slice (some ⟨42, 0, some 3⟩) 2 2, .slice (some ⟨49, 0, some 3⟩) 2 2] 22 (1, 1))]
def lE3 := lE2 ++ [(3, iV 3), (4, iV 0)]
def lH3 := lH2
def lE4 := lE3 ++ [(5, .slice (some ⟨128, 0, some 22⟩) 3 3), (6, iV 0)]
def lH4 := [(126, .cells #[iV 1, iV 1] 3 (1, 1)), (115, .cells #[iV 1, iV 0] 3 (1, 1)), (104, .cells #[iV 0, iV 1] 3 (1, 1)), (128, .cells #[.slice (some ⟨104, 0, some 3⟩) 2 2, .slice (some ⟨115, 0, some 3⟩) 2 2, .slice (some ⟨126, 0, some 3⟩) 2 2] 22 (1, 1))] ++ lH3
def lE5 := lE4 ++ [(7, .pointer (some ⟨199, 0, none⟩)), (8, iV 0)]
def lH5 := [(199, cO [iV 3, iV 2] 43)] ++ lH4
def lE6 := lE5 ++ [(9, .slice (some ⟨273, 0, some 22⟩) 3 3), (10, iV 0)]
def lH6 := [(271, cO [iV 1, iV 1] 3), (268, cO [iV 1, iV 0] 3), (265, cO [iV 0, iV 1] 3), (273, .cells #[sV 265 2 2, sV 268 2 2, sV 271 2 2] 22 (1, 1))] ++ lH5
def lE7 := lE6 ++ [(11, .slice (some ⟨570, 0, some 22⟩) 3 3), (12, iV 0)]
def lH7 := [(564, cO [iV 1, iV 1, iV 0] 3), (463, cO [iV 1, iV 0, iV 1] 3), (355, cO [iV 0, iV 1, iV 1] 3), (570, .cells #[sV 355 3 3, sV 463 3 3, sV 564 3 3] 22 (1, 1))] ++ lH6
def lE8 := lE7 ++ [(13, .pointer (some ⟨671, 0, none⟩)), (14, iV 0)]
def lH8 := [(671, cO [iV 0, iV 0, iV 1, iV 1] 49)] ++ lH7
def lE9 := lE8 ++ [(15, .slice (some ⟨737, 0, some 3⟩) 3 3), (16, iV 1), (17, iV 0)]
def lH9 := [(737, .cells #[iV 0, iV 1, iV 1] 3 (1, 1))] ++ lH8
def zFQ : List (Nat × Value) := [(0, .bool false)]
def zGT : List (Nat × Obj) := []
def zER := zFQ ++ [(18, sV 775 3 3), (19, iV 0)]
def zFP : List (Nat × Obj) := [(775, cO [iV 1, iV 1, iV 0] 3)]
def zFI := zER ++ [(20, iV 4), (21, iV 0)]
def zFH := zFP
def zFC := zFI ++ [(22, iV 1), (23, iV 0)]
def zFJ := zFH
def zFW := zFC ++ [(24, .slice (some ⟨973, 0, some 22⟩) 4 4), (25, iV 0)]
def zEN := [(969, cO [iV 1, iV 1, iV 1] 3), (945, cO [iV 0, iV 1, iV 1] 3), (929, cO [iV 0, iV 0, iV 1] 3), (924, cO [iV 0, iV 0, iV 0] 3), (973, .cells #[sV 924 3 3, sV 929 3 3, sV 945 3 3, sV 969 3 3] 22 (1, 1))] ++ zFJ
def zFN := zFW ++ [(26, iV 1), (27, iV 0)]
def zD1 := zEN
def zES := zFN ++ [(29, iV 7)]
def zDZ := zD1
def zFY := zES ++ [(30, sV 1013 2 2), (31, iV 0)]
def zFM := [(1013, cO [iV 2, iV 4] 3)] ++ zDZ
def zFV := zFY ++ [(32, .string ⟨#[97, 98, 10, 98, 97, 10, 98, 98, 10]⟩), (33, iV 0)]
def zEH := zFM
def zGE := zFV ++ [(35, iV 2), (36, iV 25)]
def zF8 := zEH
def zGH : List (Nat × Value) := [(0, .bool true)]
def zF6 : List (Nat × Obj) := []
end
end Go.Proofs.YtjgfemghlhmlbaaGreatDoor
