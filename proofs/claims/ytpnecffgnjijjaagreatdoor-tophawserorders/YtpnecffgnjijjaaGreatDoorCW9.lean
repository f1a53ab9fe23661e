/- What the cards' proofs of chapter 9 share. Conditions: none. -/
import Derived.Test.YtpnecffgnjijjaaGreatDoorBG3
import Derived.Test.YtpnecffgnjijjaaGreatDoorBG1
import Derived.Test.YtpnecffgnjijjaaGreatDoorCards
import Derived.Test.YtpnecffgnjijjaaGreatDoorTie
import Derived.ProofKit
import Derived.LaidMore
import Derived.Lay
import Derived.OpenShut
import Derived.Stop.Joined
import Derived.Lib.SmallJoins
import Derived.Lib.LaidTab
import Derived.Carry
import Derived.SevenTiedAt
set_option linter.all false
namespace Go.Proofs.YtpnecffgnjijjaaGreatDoor
open Go.ChangeShapes Go.WideShapes Go.ChangeAt Go.RowKit Go.Joins Go.Deep Go.Idl Go.Sv
theorem own:ownKnob Tryz.prog.godebug=none:=by kernel_rfl
theorem laidOut:laidOutB Tryz.prog=true:=by kernel_rfl
abbrev zAF:=Rows.topHawserOrdersRow.laid
theorem gDb:Tryz.prog.globalNamed "math/bits.deBruijn64tab" = some 9:=by kernel_rfl
theorem zER:Tryz.prog.globalNamed "internal/strconv.uint64pow10" = some 7:=by kernel_rfl
theorem q3Q {W:World}{n:String}{g:Nat}{cs:Array Value}(hg:Tryz.prog.globalNamed n=some g)(h:W.var? Tryz.prog n=some cs):∃ el fz,W.heap[g]?=some (.cells cs el fz):=by
 unfold World.var? at h;rw[hg] at h;simp only[zNI] at h;split at h
 ·rename_i hc;cases h;exact⟨_,_,hc⟩
 ·cases h
theorem qLX {W:World}(h:laidMetH Tryz.prog zAF W):10<=W.heap.size∧∃ el fz,W.heap[7]?=some (.cells (Lib.pow10Tab.map fun z=>Value.int .u64 z).toArray el fz):=by
 rw[MakeChecks.laidMetH_plain _ _ _ (by kernel_rfl)] at h;obtain⟨_,⟨_,_,_,_,_,_,_,_,_,_,⟨_,_,_,_,_,_,_,_,hv,_,⟨g,t,cs,fu,p,q,hg,ht,hv3,hd,_⟩,_⟩,_⟩,_,_⟩:=h;constructor
 ·obtain⟨el,fz,h1⟩:=q3Q gDb hv;have:=(zNB.1 h1).1;omega
 ·obtain⟨el,fz,h1⟩:=q3Q zER hv3;obtain rfl:=zN0 (zER.symm.trans hg);obtain rfl:=zN0 ((show (Tryz.prog.globals[7]?).map (·.type)=some 212 by kernel_rfl).symm.trans ht);refine⟨el,fz,?_⟩;have h7:cs.toList=Lib.pow10Tab.map fun z=>Value.int .u64 z:=Lib.cells_of_tab (n:=20) (e:=135) (show Tryz.prog.underlying 212=_ by kernel_rfl) (show Tryz.prog.underlying 135=_ by kernel_rfl) (by kernel_rfl) (by kernel_rfl) hd
  rw[h1,<-h7]
theorem zET:∀ g o,Gc.gc g=some o->g < 10∧(q8Z [(7,gD)] 10).get g=some o:=by
 intro g o h;have h:cond (Nat.beq g 7) (some gD) none=some o:=h
 cases hb:Nat.beq g 7 with
 | false=>rw[hb] at h;cases h
 | true =>
   have:=zMZ hb;subst this;rw[hb] at h;cases h;refine⟨by omega,?_⟩;show (Tr.set Tr.nil 7 gD).get 7=_;rw[Tr.zGK];simp
end Go.Proofs.YtpnecffgnjijjaaGreatDoor
