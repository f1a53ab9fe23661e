/- The table of the powers of ten at a law's start. Conditions: none. -/
import Derived.Test.YtihofndbgpmloaaGreatDoorLBL
set_option linter.all false
namespace Go.Proofs.YtihofndbgpmloaaGreatDoor
open Go Go.Idl Go.Sv Go.Proofs
theorem EK{b o}(h:(n7 [(3,vB)] 10).get b=some o):b=3/\o=vB:=by(have a:(if b=3 then some vB else none)=some o:=by rw[<-h];show _=(Tr.set Tr.nil 3 vB).get b;rw[Tr.rX];by_cases c:b=3<;>simp[c,Tr.get]);split at a;{cases a;exact⟨by assumption,rfl⟩};cases a
theorem ic{P W}(l:10<=W.heap.size){j h}(p:W.heap[3]?=some (.cells (Lib.pow10Tab.map λz=>Value.int .u64 z).toArray j h)):Rel P (mR 10) (n7 [(3,vB)] 10) W:=by refine⟨λb e a=>(fy a).1,λb a=>?_,λb e a=>?_,λb e o a k=>?_,λs m q n u t _ c g _ _ _ _ _=>?_,λs m q n c g _=>?_⟩;{cases r:(n7 [(3,vB)] 10).get b with|none=>rfl|some o=>have:=(EK r).1;have a:10<=b:=a;omega};{obtain⟨c,rfl⟩:=fy a;exact qGs c l};{obtain⟨rfl,rfl⟩:=EK k;obtain⟨_,rfl⟩:=fy a;refine⟨_,j,h,p,by simp[Lib.pow10Tab];rfl,by simp,λi v f=>⟨v,by simpa using f,.base _ ?_⟩,(λd=>by cases d),(λd=>by cases d)⟩;rw[qIo,qHr]at f;obtain⟨z,_,rfl⟩:=qHB.1 f;rfl};{rw[(fy c).2,(fy g).2];exact⟨rfl,rfl⟩};rw[(fy c).2,(fy g).2]
end Go.Proofs.YtihofndbgpmloaaGreatDoor
