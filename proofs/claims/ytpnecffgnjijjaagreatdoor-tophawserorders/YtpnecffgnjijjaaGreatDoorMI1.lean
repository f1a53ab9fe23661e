/- Maps with integers as keys. Conditions: none. -/
import Derived.Test.YtpnecffgnjijjaaGreatDoorLBF
import Derived.Test.YtpnecffgnjijjaaGreatDoorPLQ
set_option linter.all false
set_option maxRecDepth 10000
namespace Go.Proofs.YtpnecffgnjijjaaGreatDoor
open Go Go.Idl Go.Sv Go.Proofs
theorem di3:yB Tryz.prog (underlying 3)=some (.int .i64):=by kernel_rfl
theorem diB {α β:Type}(s:Sem α)(g:α->Sem β):yB Tryz.prog (s >>= g)=(yB Tryz.prog s).bind fun a=>yB Tryz.prog (g a):=xY g s
def eM (L:List (Int×Value)):List (Value×Value):=L.map fun p=>(.int .i64 p.1,p.2)
theorem zCZ (b:Bool)(p:Int):yB Tryz.prog (Instr.checkKey b 10000 3 (.int .i64 p))=some ():=by kernel_rfl
def qKK (p:Int):List (Int×Value)->Option Nat
 | []=>none
 | q::L=>cond (decide (q.1=p)) (some 0) ((qKK p L).map (·+1))
theorem q90 (p:Int):∀ (L:List (Int×Value)) (n i:Nat),∃ f:Nat->Value,Instr.findNow (.int .i64) (.int .i64 p) (xU n (eM L)) i=some ((qKK p L).map fun j=>(i+j,f j))
 | [],n,i=>⟨fun _=>.bool true,rfl⟩
 | q::L,n,i=>by
   obtain⟨f,hf⟩:=q90 p L (n+1) (i+1);have e:xU n (eM (q::L))=⟨.int .i64 q.1,q.2,n⟩::xU (n+1) (eM L):=rfl;rw[e];unfold Instr.findNow;have es:Instr.sameNow (.int .i64) (.int .i64 p) (.int .i64 q.1)=some (p==q.1):=rfl;rw[es];unfold qKK;by_cases hp:q.1=p
   ·refine⟨fun _=>q.2,?_⟩;rw[show (p==q.1)=true by simp[hp],decide_eq_true hp];rfl
   ·refine⟨fun j=>f (j - 1),?_⟩;rw[show (p==q.1)=false by simp;exact fun h=>hp h.symm,decide_eq_false hp];simp only[cond_false];rw[hf]
    cases qKK p L with
    | none=>rfl
    | some j =>
      simp only[zNE,Nat.add_sub_cancel];rw[show i+1+j=i+(j+1) by omega]
theorem zBL (p:Int)(L:List (Int×Value)):∃ f:Nat->Value,yB Tryz.prog (Instr.findKey 3 (.int .i64 p) (xU 0 (eM L)))=some ((qKK p L).map fun j=>(j,f j)):=by
 obtain⟨f,hf⟩:=q90 p L 0 0;refine⟨f,?_⟩;unfold Instr.findKey;rw[diB,di3,zNI,hf];simp only[zNY];rfl
theorem qL6 (p:Int)(L:List (Int×Value)):mP Tryz.prog 3 (.int .i64 p) (xU 0 (eM L))=some (qKK p L):=by
 obtain⟨f,hf⟩:=zBL p L
 have hall:∀ (n:Nat) (L:List (Int×Value)),(xU n (eM L)).all (fun e=>yF e.key)=true:=fun n L=>by
  induction L generalizing n with
  | nil=>rfl
  | cons p L ih =>
    show (yF (.int .i64 p.1)&&(xU (n+1) (eM L)).all _)=true;rw[show yF (.int .i64 p.1)=true from rfl,ih];rfl
 have hc:∀ b,yB Tryz.prog (Instr.checkKey b 10000 3 (.int .i64 p))=some ():=fun b=>zCZ b p
 unfold mP;rw[show yF (.int .i64 p)=true from rfl,hall,zNX,if_pos rfl,hc,hc,hf];simp only;cases qKK p L <;> simp
theorem qIP {p:Int}:∀ {L:List (Int×Value)} {i:Nat},qKK p L=some i->∃ v,L[i]?=some (p,v)
 | [],i,h=>by cases h
 | q::L,i,h=>by
   unfold qKK at h;by_cases hp:q.1=p
   ·rw[decide_eq_true hp] at h;cases h;exact⟨q.2,by rw[<-hp];rfl⟩
   ·rw[decide_eq_false hp] at h;obtain⟨j,h1,rfl⟩:=zM8.1 h;obtain⟨v,hv⟩:=qIP h1;exact⟨v,hv⟩
theorem zBE {L:List (Int×Value)}{i:Nat}{p:Int}{v:Value}(h:L[i]?=some (p,v)):(eM L)[i]?=some (.int .i64 p,v):=by
 unfold eM;rw[zNC,h];rfl
theorem q21 (p:Int)(L:List (Int×Value)):q7A Tryz.prog 3 (.int .i64 p) (eM L)=some (qKK p L).isSome:=by
 unfold q7A;rw[qL6];rfl
theorem zAD {p:Int}{L:List (Int×Value)}{i:Nat}{v:Value}{t:Ty}(h:qKK p L=some i)(hv:L[i]?=some (p,v)):q64 Tryz.prog 3 t (.int .i64 p) (eM L)=t.ofV v:=by
 unfold q64;rw[qL6,h];simp only;rw[zBE hv]
theorem q54 {p:Int}{L:List (Int×Value)}(v:Value)(h:qKK p L=none):q8L Tryz.prog 3 (.int .i64 p) v (eM L)=some (eM (L++[(p,v)])):=by
 unfold q8L;rw[qL6,h];simp[eM]
end Go.Proofs.YtpnecffgnjijjaaGreatDoor
