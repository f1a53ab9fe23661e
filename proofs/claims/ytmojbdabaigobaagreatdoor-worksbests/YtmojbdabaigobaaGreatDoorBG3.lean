/- The table of the powers of ten at a law's start. Conditions: none. -/
import Derived.Test.YtmojbdabaigobaaGreatDoorLBL
set_option linter.all false
namespace Go.Proofs.YtmojbdabaigobaaGreatDoor
open Go Go.Idl Go.Sv Go.Proofs
theorem zD5 {b:Nat}{o:Obj}(h:(q8B [(5,gK)] 10).get b=some o):b=5∧o=gK:=by
 have h1:(if b=5 then some gK else none)=some o:=by
  rw[<-h];show _=(Tr.set Tr.nil 5 gK).get b;rw[Tr.zGA];by_cases hb:b=5 <;> simp[hb,Tr.get]
 split at h1
 ·cases h1;exact⟨by assumption,rfl⟩
 ·cases h1
theorem zDO {P:Program}{W:World}(hk:10<=W.heap.size){el:TypeId}{fz:Nat×Nat}(h3:W.heap[5]?=some (.cells (Lib.pow10Tab.map fun z=>Value.int .u64 z).toArray el fz)):Rel P (mO 10) (q8B [(5,gK)] 10) W:=by
 refine⟨fun b e hb=>(yU hb).1,fun b hb=>?_,fun b e hb=>?_,fun b e o hb ho=>?_,fun b1 b2 e1 e2 o1 o2 _ h1 h2 _ _ _ _ _=>?_,fun b1 b2 e1 e2 h1 h2 _=>?_⟩
 ·cases hq:(q8B [(5,gK)] 10).get b with
  | none=>rfl
  | some o =>
    have:=(zD5 hq).1;have hb:10<=b:=hb;omega
 ·obtain⟨h1,rfl⟩:=yU hb;exact zOM h1 hk
 ·obtain⟨rfl,rfl⟩:=zD5 ho;obtain⟨_,rfl⟩:=yU hb;refine⟨_,el,fz,h3,by simp[Lib.pow10Tab];rfl,by simp,fun i v hi=>⟨v,by simpa using hi,.base _ ?_⟩,(fun hf=>by cases hf),(fun hf=>by cases hf)⟩;rw[zQV,zOX] at hi;obtain⟨z,_,rfl⟩:=zOR.1 hi;rfl
 ·rw[(yU h1).2,(yU h2).2];exact⟨rfl,rfl⟩
 ·rw[(yU h1).2,(yU h2).2]
end Go.Proofs.YtmojbdabaigobaaGreatDoor
