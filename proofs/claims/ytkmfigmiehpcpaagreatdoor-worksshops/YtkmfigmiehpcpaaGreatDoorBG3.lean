/- The table of the powers of ten at a law's start. Conditions: none. -/
import Derived.Test.YtkmfigmiehpcpaaGreatDoorLBL
set_option linter.all false
namespace Go.Proofs.YtkmfigmiehpcpaaGreatDoor
open Go Go.Idl Go.Sv Go.Proofs
theorem zDF {b:Nat}{o:Obj}(h:(q76 [(5,uZ)] 10).get b=some o):b=5∧o=uZ:=by
 have h1:(if b=5 then some uZ else none)=some o:=by
  rw[<-h];show _=(Tr.set Tr.nil 5 uZ).get b;rw[Tr.zFP];by_cases hb:b=5 <;> simp[hb,Tr.get]
 split at h1
 ·cases h1;exact⟨by assumption,rfl⟩
 ·cases h1
theorem zCY {P:Program}{W:World}(hk:10<=W.heap.size){el:TypeId}{fz:Nat×Nat}(h3:W.heap[5]?=some (.cells (Lib.pow10Tab.map fun z=>Value.int .u64 z).toArray el fz)):Rel P (mM 10) (q76 [(5,uZ)] 10) W:=by
 refine⟨fun b e hb=>(yV hb).1,fun b hb=>?_,fun b e hb=>?_,fun b e o hb ho=>?_,fun b1 b2 e1 e2 o1 o2 _ h1 h2 _ _ _ _ _=>?_,fun b1 b2 e1 e2 h1 h2 _=>?_⟩
 ·cases hq:(q76 [(5,uZ)] 10).get b with
  | none=>rfl
  | some o =>
    have:=(zDF hq).1;have hb:10<=b:=hb;omega
 ·obtain⟨h1,rfl⟩:=yV hb;exact zNY h1 hk
 ·obtain⟨rfl,rfl⟩:=zDF ho;obtain⟨_,rfl⟩:=yV hb;refine⟨_,el,fz,h3,by simp[Lib.pow10Tab];rfl,by simp,fun i v hi=>⟨v,by simpa using hi,.base _ ?_⟩,(fun hf=>by cases hf),(fun hf=>by cases hf)⟩;rw[zP8,zN9] at hi;obtain⟨z,_,rfl⟩:=zN4.1 hi;rfl
 ·rw[(yV h1).2,(yV h2).2];exact⟨rfl,rfl⟩
 ·rw[(yV h1).2,(yV h2).2]
end Go.Proofs.YtkmfigmiehpcpaaGreatDoor
