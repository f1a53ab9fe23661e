/- The table of the powers of ten at a law's start. Conditions: none. -/
import Derived.Test.YtfcipnpcakejoaaGreatDoorLBL
set_option linter.all false
namespace Go.Proofs.YtfcipnpcakejoaaGreatDoor
open Go Go.Idl Go.Sv Go.Proofs
theorem Ea{b o}(h:(nv [(7,vQ)] 10).get b=some o):b=7/\o=vQ:=by(have a:(if b=7 then some vQ else none)=some o:=by rw[<-h];show _=(Tr.set Tr.nil 7 vQ).get b;rw[Tr.sC];by_cases c:b=7<;>simp[c,Tr.get]);split at a;{cases a;exact⟨by assumption,rfl⟩};cases a
theorem qA9{P W}(l:10<=W.heap.size){j h}(p:W.heap[7]?=some (.cells (Lib.pow10Tab.map λz=>Value.int .u64 z).toArray j h)):Rel P (mz 10) (nv [(7,vQ)] 10) W:=by refine⟨λb e a=>(aT a).1,λb a=>?_,λb e a=>?_,λb e o a k=>?_,λs m q n u t _ c g _ _ _ _ _=>?_,λs m q n c g _=>?_⟩;{cases r:(nv [(7,vQ)] 10).get b with|none=>rfl|some o=>have:=(Ea r).1;have a:10<=b:=a;omega};{obtain⟨c,rfl⟩:=aT a;exact qG8 c l};{obtain⟨rfl,rfl⟩:=Ea k;obtain⟨_,rfl⟩:=aT a;refine⟨_,j,h,p,by simp[Lib.pow10Tab];rfl,by simp,λi v f=>⟨v,by simpa using f,.base _ ?_⟩,(λd=>by cases d),(λd=>by cases d)⟩;rw[qI5,qH8]at f;obtain⟨z,_,rfl⟩:=qGf.1 f;rfl};{rw[(aT c).2,(aT g).2];exact⟨rfl,rfl⟩};rw[(aT c).2,(aT g).2]
end Go.Proofs.YtfcipnpcakejoaaGreatDoor
