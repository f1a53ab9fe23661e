/- What the cards' proofs of chapter 9 share. Conditions: none. -/
import Derived.Test.YtihofndbgpmloaaGreatDoorBG3
import Derived.Test.YtihofndbgpmloaaGreatDoorBG1
import Derived.Test.YtihofndbgpmloaaGreatDoorCards
import Derived.Test.YtihofndbgpmloaaGreatDoorTie
import Derived.ProofKit
import Derived.LaidMore
import Derived.Lay
import Derived.OpenShut
import Derived.Stop.Joined
import Derived.Lib.SmallJoins
import Derived.Lib.LaidTab
import Derived.Carry
import Derived.SevenTiedAt
set_option linter.all false
namespace Go.Proofs.YtihofndbgpmloaaGreatDoor
open Go.ChangeShapes Go.WideShapes Go.ChangeAt Go.RowKit Go.Joins Go.Deep Go.Idl Go.Sv
theorem own:ownKnob Tryz.prog.godebug=none:=by kernel_rfl
theorem laidOut:laidOutB Tryz.prog=true:=by kernel_rfl
abbrev MU:=Rows.spliceStrengthsRow.laid
theorem gDb:Tryz.prog.globalNamed "math/bits.deBruijn64tab"=some 9:=by kernel_rfl
theorem NC:Tryz.prog.globalNamed "internal/strconv.uint64pow10"=some 3:=by kernel_rfl
theorem Ey{W:World}{n g a}(d:Tryz.prog.globalNamed n=some g)(h:W.var? Tryz.prog n=some a):∃e b,W.heap[g]?=some (.cells a e b):=by unfold World.var? at h;rw[d]at h;simp only[qKP]at h;split at h;{rename_i c;cases h;exact⟨_,_,c⟩};cases h
theorem TE{W}(h:laidMetH Tryz.prog MU W):10<=W.heap.size/\∃a b,W.heap[3]?=some (.cells (Lib.pow10Tab.map λz=>Value.int .u64 z).toArray a b):=by rw[MakeChecks.laidMetH_plain _ _ _ (by kernel_rfl)]at h;obtain⟨_,⟨_,_,_,_,_,_,_,_,_,_,⟨_,_,_,_,_,_,_,_,i,_,⟨g,t,f,m,p,q,j,e,c,k,_⟩,_⟩,_⟩,_,_⟩:=h;constructor;{obtain⟨a,b,d⟩:=Ey gDb i;have:=(qJ_.1 d).1;omega};obtain⟨a,b,d⟩:=Ey NC c;obtain rfl:=qJs (NC.symm.trans j);obtain rfl:=qJs ((show(Tryz.prog.globals[3]?).map (·.type)=some 281 by kernel_rfl).symm.trans e);refine⟨a,b,?_⟩;have l:f.toList=Lib.pow10Tab.map λz=>Value.int .u64 z:=Lib.cells_of_tab (n:=20) (e:=208) (show Tryz.prog.underlying 281=_ by kernel_rfl) (show Tryz.prog.underlying 208=_ by kernel_rfl) (by kernel_rfl) (by kernel_rfl) k;rw[d,<-l]
theorem qCt:∀g o,Gc.gc g=some o->g<10/\(oY [(3,vQ)] 10).get g=some o:=by intro g o h;have h:cond (Nat.beq g 3) (some vQ) none=some o:=h;cases a:Nat.beq g 3 with|false=>rw[a]at h;cases h|true=>have:=qJ9 a;subst this;rw[a]at h;cases h;refine⟨by omega,?_⟩;show(Tr.set Tr.nil 3 vQ).get 3=_;rw[Tr.s_];simp
end Go.Proofs.YtihofndbgpmloaaGreatDoor
