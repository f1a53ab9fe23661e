/- The table of the powers of ten at a law's start. Conditions: none. -/
import Derived.Test.YtihofndbgpmloaaGreatDoorLBL
set_option linter.all false
namespace Go.Proofs.YtihofndbgpmloaaGreatDoor
open Go Go.Idl Go.Sv Go.Proofs
theorem Mz{b o}(h:(oc [(3,vP)] 10).get b=some o):b=3/\o=vP:=by(have a:(if b=3 then some vP else none)=some o:=by rw[<-h];show _=(Tr.set Tr.nil 3 vP).get b;rw[Tr.tB];by_cases c:b=3<;>simp[c,Tr.get]);split at a;{cases a;exact⟨by assumption,rfl⟩};cases a
theorem qCF{P W}(l:10<=W.heap.size){j h}(p:W.heap[3]?=some (.cells (Lib.pow10Tab.map λz=>Value.int .u64 z).toArray j h)):Rel P (nS 10) (oc [(3,vP)] 10) W:=by refine⟨λb e a=>(aq a).1,λb a=>?_,λb e a=>?_,λb e o a k=>?_,λs m q n u t _ c g _ _ _ _ _=>?_,λs m q n c g _=>?_⟩;{cases r:(oc [(3,vP)] 10).get b with|none=>rfl|some o=>have:=(Mz r).1;have a:10<=b:=a;omega};{obtain⟨c,rfl⟩:=aq a;exact qJM c l};{obtain⟨rfl,rfl⟩:=Mz k;obtain⟨_,rfl⟩:=aq a;refine⟨_,j,h,p,by simp[Lib.pow10Tab];rfl,by simp,λi v f=>⟨v,by simpa using f,.base _ ?_⟩,(λd=>by cases d),(λd=>by cases d)⟩;rw[qLG,qKA]at f;obtain⟨z,_,rfl⟩:=qJV.1 f;rfl};{rw[(aq c).2,(aq g).2];exact⟨rfl,rfl⟩};rw[(aq c).2,(aq g).2]
end Go.Proofs.YtihofndbgpmloaaGreatDoor
