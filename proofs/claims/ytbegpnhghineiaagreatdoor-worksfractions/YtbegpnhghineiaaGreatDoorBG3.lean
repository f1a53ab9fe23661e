/- The table of the powers of ten at a law's start. Conditions: none. -/
import Derived.Test.YtbegpnhghineiaaGreatDoorLBL
set_option linter.all false
namespace Go.Proofs.YtbegpnhghineiaaGreatDoor
open Go Go.Idl Go.Sv Go.Proofs
theorem DP{b o}(h:(nV [(7,vH)] 10).get b=some o):b=7/\o=vH:=by(have a:(if b=7 then some vH else none)=some o:=by rw[<-h];show _=(Tr.set Tr.nil 7 vH).get b;rw[Tr.rN];by_cases c:b=7<;>simp[c,Tr.get]);split at a;{cases a;exact⟨by assumption,rfl⟩};cases a
theorem Iv{P W}(l:10<=W.heap.size){j h}(p:W.heap[7]?=some (.cells (Lib.pow10Tab.map λz=>Value.int .u64 z).toArray j h)):Rel P (mB 10) (nV [(7,vH)] 10) W:=by refine⟨λb e a=>(aB a).1,λb a=>?_,λb e a=>?_,λb e o a k=>?_,λs m q n u t _ c g _ _ _ _ _=>?_,λs m q n c g _=>?_⟩;{cases r:(nV [(7,vH)] 10).get b with|none=>rfl|some o=>have:=(DP r).1;have a:10<=b:=a;omega};{obtain⟨c,rfl⟩:=aB a;exact qEz c l};{obtain⟨rfl,rfl⟩:=DP k;obtain⟨_,rfl⟩:=aB a;refine⟨_,j,h,p,by simp[Lib.pow10Tab];rfl,by simp,λi v f=>⟨v,by simpa using f,.base _ ?_⟩,(λd=>by cases d),(λd=>by cases d)⟩;rw[qGr,qFz]at f;obtain⟨z,_,rfl⟩:=qFG.1 f;rfl};{rw[(aB c).2,(aB g).2];exact⟨rfl,rfl⟩};rw[(aB c).2,(aB g).2]
end Go.Proofs.YtbegpnhghineiaaGreatDoor
