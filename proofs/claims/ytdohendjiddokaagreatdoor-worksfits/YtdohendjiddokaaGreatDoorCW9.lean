/- What the cards' proofs of chapter 9 share. Conditions: none. -/
import Derived.Test.YtdohendjiddokaaGreatDoorBG3
import Derived.Test.YtdohendjiddokaaGreatDoorBG1
import Derived.Test.YtdohendjiddokaaGreatDoorCards
import Derived.Test.YtdohendjiddokaaGreatDoorTie
import Derived.ProofKit
import Derived.LaidMore
import Derived.Lay
import Derived.OpenShut
import Derived.Stop.Joined
import Derived.Lib.SmallJoins
import Derived.Lib.LaidTab
import Derived.Carry
import Derived.SevenTiedAt
set_option linter.all false
namespace Go.Proofs.YtdohendjiddokaaGreatDoor
open Go.ChangeShapes Go.WideShapes Go.ChangeAt Go.RowKit Go.Joins Go.Deep Go.Idl Go.Sv
theorem own:ownKnob Tryz.prog.godebug=none:=by kernel_rfl
theorem laidOut:laidOutB Tryz.prog=true:=by kernel_rfl
abbrev zCF:=Rows.worksFitsRow.laid
theorem gDb:Tryz.prog.globalNamed "math/bits.deBruijn64tab" = some 9:=by kernel_rfl
theorem zF0:Tryz.prog.globalNamed "internal/strconv.uint64pow10" = some 5:=by kernel_rfl
theorem q5I {W:World}{n:String}{g:Nat}{cs:Array Value}(hg:Tryz.prog.globalNamed n=some g)(h:W.var? Tryz.prog n=some cs):∃ el fz,W.heap[g]?=some (.cells cs el fz):=by
 unfold World.var? at h;rw[hg] at h;simp only[zQO] at h;split at h
 ·rename_i hc;cases h;exact⟨_,_,hc⟩
 ·cases h
theorem qMX {W:World}(h:laidMetH Tryz.prog zCF W):10<=W.heap.size∧∃ el fz,W.heap[5]?=some (.cells (Lib.pow10Tab.map fun z=>Value.int .u64 z).toArray el fz):=by
 rw[MakeChecks.laidMetH_plain _ _ _ (by kernel_rfl)] at h;obtain⟨_,⟨_,_,_,_,_,_,_,_,_,_,⟨_,_,_,_,_,_,_,_,hv,_,⟨g,t,cs,fu,p,q,hg,ht,hv3,hd,_⟩,_⟩,_⟩,_,_⟩:=h;constructor
 ·obtain⟨el,fz,h1⟩:=q5I gDb hv;have:=(zQA.1 h1).1;omega
 ·obtain⟨el,fz,h1⟩:=q5I zF0 hv3;obtain rfl:=zQZ (zF0.symm.trans hg);obtain rfl:=zQZ ((show (Tryz.prog.globals[5]?).map (·.type)=some 225 by kernel_rfl).symm.trans ht);refine⟨el,fz,?_⟩;have h7:cs.toList=Lib.pow10Tab.map fun z=>Value.int .u64 z:=Lib.cells_of_tab (n:=20) (e:=156) (show Tryz.prog.underlying 225=_ by kernel_rfl) (show Tryz.prog.underlying 156=_ by kernel_rfl) (by kernel_rfl) (by kernel_rfl) hd
  rw[h1,<-h7]
theorem zGE:∀ g o,Gc.gc g=some o->g < 10∧(q9Z [(5,gJ)] 10).get g=some o:=by
 intro g o h;have h:cond (Nat.beq g 5) (some gJ) none=some o:=h
 cases hb:Nat.beq g 5 with
 | false=>rw[hb] at h;cases h
 | true =>
   have:=zPZ hb;subst this;rw[hb] at h;cases h;refine⟨by omega,?_⟩;show (Tr.set Tr.nil 5 gJ).get 5=_;rw[Tr.zH1];simp
end Go.Proofs.YtdohendjiddokaaGreatDoor
