/- What the cards' proofs of chapter 9 share. Conditions: none. -/
import Derived.Test.YtfcipnpcakejoaaGreatDoorBG3
import Derived.Test.YtfcipnpcakejoaaGreatDoorBG1
import Derived.Test.YtfcipnpcakejoaaGreatDoorCards
import Derived.Test.YtfcipnpcakejoaaGreatDoorTie
import Derived.ProofKit
import Derived.LaidMore
import Derived.Lay
import Derived.OpenShut
import Derived.Stop.Joined
import Derived.Lib.SmallJoins
import Derived.Lib.LaidTab
import Derived.Carry
import Derived.SevenTiedAt
set_option linter.all false
namespace Go.Proofs.YtfcipnpcakejoaaGreatDoor
open Go.ChangeShapes Go.WideShapes Go.ChangeAt Go.RowKit Go.Joins Go.Deep Go.Idl Go.Sv
theorem own:ownKnob Tryz.prog.godebug=none:=by kernel_rfl
theorem laidOut:laidOutB Tryz.prog=true:=by kernel_rfl
abbrev Dx:=Rows.worksConvergesRow.laid
theorem gDb:Tryz.prog.globalNamed "math/bits.deBruijn64tab"=some 9:=by kernel_rfl
theorem EP:Tryz.prog.globalNamed "internal/strconv.uint64pow10"=some 7:=by kernel_rfl
theorem Dl{W:World}{n g a}(d:Tryz.prog.globalNamed n=some g)(h:W.var? Tryz.prog n=some a):∃e b,W.heap[g]?=some (.cells a e b):=by unfold World.var? at h;rw[d]at h;simp only[qH1]at h;split at h;{rename_i c;cases h;exact⟨_,_,c⟩};cases h
theorem RA{W}(h:laidMetH Tryz.prog Dx W):10<=W.heap.size/\∃a b,W.heap[7]?=some (.cells (Lib.pow10Tab.map λz=>Value.int .u64 z).toArray a b):=by rw[MakeChecks.laidMetH_plain _ _ _ (by kernel_rfl)]at h;obtain⟨_,⟨_,_,_,_,_,_,_,_,_,_,⟨_,_,_,_,_,_,_,_,i,_,⟨g,t,f,m,p,q,j,e,c,k,_⟩,_⟩,_⟩,_,_⟩:=h;constructor;{obtain⟨a,b,d⟩:=Dl gDb i;have:=(qHF.1 d).1;omega};obtain⟨a,b,d⟩:=Dl EP c;obtain rfl:=qHB (EP.symm.trans j);obtain rfl:=qHB ((show(Tryz.prog.globals[7]?).map (·.type)=some 264 by kernel_rfl).symm.trans e);refine⟨a,b,?_⟩;have l:f.toList=Lib.pow10Tab.map λz=>Value.int .u64 z:=Lib.cells_of_tab (n:=20) (e:=182) (show Tryz.prog.underlying 264=_ by kernel_rfl) (show Tryz.prog.underlying 182=_ by kernel_rfl) (by kernel_rfl) (by kernel_rfl) k;rw[d,<-l]
theorem qBF:∀g o,Gc.gc g=some o->g<10/\(nv [(7,vQ)] 10).get g=some o:=by intro g o h;have h:cond (Nat.beq g 7) (some vQ) none=some o:=h;cases a:Nat.beq g 7 with|false=>rw[a]at h;cases h|true=>have:=qG2 a;subst this;rw[a]at h;cases h;refine⟨by omega,?_⟩;show(Tr.set Tr.nil 7 vQ).get 7=_;rw[Tr.sC];simp
end Go.Proofs.YtfcipnpcakejoaaGreatDoor
