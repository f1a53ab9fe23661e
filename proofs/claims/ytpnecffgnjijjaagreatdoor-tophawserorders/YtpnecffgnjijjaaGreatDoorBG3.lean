/- The table of the powers of ten at a law's start. Conditions: none. -/
import Derived.Test.YtpnecffgnjijjaaGreatDoorLBL
set_option linter.all false
namespace Go.Proofs.YtpnecffgnjijjaaGreatDoor
open Go Go.Idl Go.Sv Go.Proofs
theorem zEB {b:Nat}{o:Obj}(h:(q8Z [(7,gD)] 10).get b=some o):b=7∧o=gD:=by
 have h1:(if b=7 then some gD else none)=some o:=by
  rw[<-h];show _=(Tr.set Tr.nil 7 gD).get b;rw[Tr.zGK];by_cases hb:b=7 <;> simp[hb,Tr.get]
 split at h1
 ·cases h1;exact⟨by assumption,rfl⟩
 ·cases h1
theorem zDA {P:Program}{W:World}(hk:10<=W.heap.size){el:TypeId}{fz:Nat×Nat}(h3:W.heap[7]?=some (.cells (Lib.pow10Tab.map fun z=>Value.int .u64 z).toArray el fz)):Rel P (eX 10) (q8Z [(7,gD)] 10) W:=by
 refine⟨fun b e hb=>(yT hb).1,fun b hb=>?_,fun b e hb=>?_,fun b e o hb ho=>?_,fun b1 b2 e1 e2 o1 o2 _ h1 h2 _ _ _ _ _=>?_,fun b1 b2 e1 e2 h1 h2 _=>?_⟩
 ·cases hq:(q8Z [(7,gD)] 10).get b with
  | none=>rfl
  | some o =>
    have:=(zEB hq).1;have hb:10<=b:=hb;omega
 ·obtain⟨h1,rfl⟩:=yT hb;exact zM4 h1 hk
 ·obtain⟨rfl,rfl⟩:=zEB ho;obtain⟨_,rfl⟩:=yT hb;refine⟨_,el,fz,h3,by simp[Lib.pow10Tab];rfl,by simp,fun i v hi=>⟨v,by simpa using hi,.base _ ?_⟩,(fun hf=>by cases hf),(fun hf=>by cases hf)⟩;rw[zO3,zNC] at hi;obtain⟨z,_,rfl⟩:=zM8.1 hi;rfl
 ·rw[(yT h1).2,(yT h2).2];exact⟨rfl,rfl⟩
 ·rw[(yT h1).2,(yT h2).2]
end Go.Proofs.YtpnecffgnjijjaaGreatDoor
