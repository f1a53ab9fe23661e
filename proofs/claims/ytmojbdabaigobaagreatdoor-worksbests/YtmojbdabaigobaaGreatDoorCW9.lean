/- What the cards' proofs of chapter 9 share. Conditions: none. -/
import Derived.Test.YtmojbdabaigobaaGreatDoorBG3
import Derived.Test.YtmojbdabaigobaaGreatDoorBG1
import Derived.Test.YtmojbdabaigobaaGreatDoorCards
import Derived.Test.YtmojbdabaigobaaGreatDoorTie
import Derived.ProofKit
import Derived.LaidMore
import Derived.Lay
import Derived.OpenShut
import Derived.Stop.Joined
import Derived.Lib.SmallJoins
import Derived.Lib.LaidTab
import Derived.Carry
import Derived.SevenTiedAt
set_option linter.all false
namespace Go.Proofs.YtmojbdabaigobaaGreatDoor
open Go.ChangeShapes Go.WideShapes Go.ChangeAt Go.RowKit Go.Joins Go.Deep Go.Idl Go.Sv
theorem own:ownKnob Tryz.prog.godebug=none:=by kernel_rfl
theorem laidOut:laidOutB Tryz.prog=true:=by kernel_rfl
abbrev q9Q:=Rows.worksBestsRow.laid
theorem gDb:Tryz.prog.globalNamed "math/bits.deBruijn64tab" = some 9:=by kernel_rfl
theorem zEG:Tryz.prog.globalNamed "internal/strconv.uint64pow10" = some 5:=by kernel_rfl
theorem q3C {W:World}{n:String}{g:Nat}{cs:Array Value}(hg:Tryz.prog.globalNamed n=some g)(h:W.var? Tryz.prog n=some cs):∃ el fz,W.heap[g]?=some (.cells cs el fz):=by
 unfold World.var? at h;rw[hg] at h;simp only[zO2] at h;split at h
 ·rename_i hc;cases h;exact⟨_,_,hc⟩
 ·cases h
theorem qMR {W:World}(h:laidMetH Tryz.prog q9Q W):10<=W.heap.size∧∃ el fz,W.heap[5]?=some (.cells (Lib.pow10Tab.map fun z=>Value.int .u64 z).toArray el fz):=by
 rw[MakeChecks.laidMetH_plain _ _ _ (by kernel_rfl)] at h;obtain⟨_,⟨_,_,_,_,_,_,_,_,_,_,⟨_,_,_,_,_,_,_,_,hv,_,⟨g,t,cs,fu,p,q,hg,ht,hv3,hd,_⟩,_⟩,_⟩,_,_⟩:=h;constructor
 ·obtain⟨el,fz,h1⟩:=q3C gDb hv;have:=(zOT.1 h1).1;omega
 ·obtain⟨el,fz,h1⟩:=q3C zEG hv3;obtain rfl:=zPC (zEG.symm.trans hg);obtain rfl:=zPC ((show (Tryz.prog.globals[5]?).map (·.type)=some 229 by kernel_rfl).symm.trans ht);refine⟨el,fz,?_⟩;have h7:cs.toList=Lib.pow10Tab.map fun z=>Value.int .u64 z:=Lib.cells_of_tab (n:=20) (e:=161) (show Tryz.prog.underlying 229=_ by kernel_rfl) (show Tryz.prog.underlying 161=_ by kernel_rfl) (by kernel_rfl) (by kernel_rfl) hd
  rw[h1,<-h7]
theorem zEP:∀ g o,Gc.gc g=some o->g < 10∧(q8B [(5,gK)] 10).get g=some o:=by
 intro g o h;have h:cond (Nat.beq g 5) (some gK) none=some o:=h
 cases hb:Nat.beq g 5 with
 | false=>rw[hb] at h;cases h
 | true =>
   have:=zOH hb;subst this;rw[hb] at h;cases h;refine⟨by omega,?_⟩;show (Tr.set Tr.nil 5 gK).get 5=_;rw[Tr.zGA];simp
end Go.Proofs.YtmojbdabaigobaaGreatDoor
