/- The table of the powers of ten at a law's start. Conditions: none. -/
import Derived.Test.YtihofndbgpmloaaGreatDoorLBL
set_option linter.all false
namespace Go.Proofs.YtihofndbgpmloaaGreatDoor
open Go Go.Idl Go.Sv Go.Proofs
theorem N6{b o}(h:(oY [(3,vQ)] 10).get b=some o):b=3/\o=vQ:=by(have a:(if b=3 then some vQ else none)=some o:=by rw[<-h];show _=(Tr.set Tr.nil 3 vQ).get b;rw[Tr.s_];by_cases c:b=3<;>simp[c,Tr.get]);split at a;{cases a;exact⟨by assumption,rfl⟩};cases a
theorem qCc{P W}(l:10<=W.heap.size){j h}(p:W.heap[3]?=some (.cells (Lib.pow10Tab.map λz=>Value.int .u64 z).toArray j h)):Rel P (nU 10) (oY [(3,vQ)] 10) W:=by refine⟨λb e a=>(ad a).1,λb a=>?_,λb e a=>?_,λb e o a k=>?_,λs m q n u t _ c g _ _ _ _ _=>?_,λs m q n c g _=>?_⟩;{cases r:(oY [(3,vQ)] 10).get b with|none=>rfl|some o=>have:=(N6 r).1;have a:10<=b:=a;omega};{obtain⟨c,rfl⟩:=ad a;exact qJf c l};{obtain⟨rfl,rfl⟩:=N6 k;obtain⟨_,rfl⟩:=ad a;refine⟨_,j,h,p,by simp[Lib.pow10Tab];rfl,by simp,λi v f=>⟨v,by simpa using f,.base _ ?_⟩,(λd=>by cases d),(λd=>by cases d)⟩;rw[qL8,qKZ]at f;obtain⟨z,_,rfl⟩:=qJn.1 f;rfl};{rw[(ad c).2,(ad g).2];exact⟨rfl,rfl⟩};rw[(ad c).2,(ad g).2]
end Go.Proofs.YtihofndbgpmloaaGreatDoor
