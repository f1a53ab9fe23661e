/- Maps with integers as keys. Conditions: none. -/
import Derived.Test.YtmojbdabaigobaaGreatDoorLBF
import Derived.Test.YtmojbdabaigobaaGreatDoorPLQ
set_option linter.all false
set_option maxRecDepth 10000
namespace Go.Proofs.YtmojbdabaigobaaGreatDoor
open Go Go.Idl Go.Sv Go.Proofs
theorem di3:z8 Tryz.prog (underlying 3)=some (.int .i64):=by kernel_rfl
theorem diB {α β:Type}(s:Sem α)(g:α->Sem β):z8 Tryz.prog (s >>= g)=(z8 Tryz.prog s).bind fun a=>z8 Tryz.prog (g a):=kF g s
def eM (L:List (Int×Value)):List (Value×Value):=L.map fun p=>(.int .i64 p.1,p.2)
theorem zCJ (b:Bool)(p:Int):z8 Tryz.prog (Instr.checkKey b 10000 3 (.int .i64 p))=some ():=by kernel_rfl
def qIG (p:Int):List (Int×Value)->Option Nat
 | []=>none
 | q::L=>cond (decide (q.1=p)) (some 0) ((qIG p L).map (·+1))
theorem q95 (p:Int):∀ (L:List (Int×Value)) (n i:Nat),∃ f:Nat->Value,Instr.findNow (.int .i64) (.int .i64 p) (kC n (eM L)) i=some ((qIG p L).map fun j=>(i+j,f j))
 | [],n,i=>⟨fun _=>.bool true,rfl⟩
 | q::L,n,i=>by
   obtain⟨f,hf⟩:=q95 p L (n+1) (i+1);have e:kC n (eM (q::L))=⟨.int .i64 q.1,q.2,n⟩::kC (n+1) (eM L):=rfl;rw[e];unfold Instr.findNow;have es:Instr.sameNow (.int .i64) (.int .i64 p) (.int .i64 q.1)=some (p==q.1):=rfl;rw[es];unfold qIG;by_cases hp:q.1=p
   ·refine⟨fun _=>q.2,?_⟩;rw[show (p==q.1)=true by simp[hp],decide_eq_true hp];rfl
   ·refine⟨fun j=>f (j - 1),?_⟩;rw[show (p==q.1)=false by simp;exact fun h=>hp h.symm,decide_eq_false hp];simp only[cond_false];rw[hf]
    cases qIG p L with
    | none=>rfl
    | some j =>
      simp only[zOW,Nat.add_sub_cancel];rw[show i+1+j=i+(j+1) by omega]
theorem q9Z (p:Int)(L:List (Int×Value)):∃ f:Nat->Value,z8 Tryz.prog (Instr.findKey 3 (.int .i64 p) (kC 0 (eM L)))=some ((qIG p L).map fun j=>(j,f j)):=by
 obtain⟨f,hf⟩:=q95 p L 0 0;refine⟨f,?_⟩;unfold Instr.findKey;rw[diB,di3,zO2,hf];simp only[zPF];rfl
theorem qME (p:Int)(L:List (Int×Value)):eY Tryz.prog 3 (.int .i64 p) (kC 0 (eM L))=some (qIG p L):=by
 obtain⟨f,hf⟩:=q9Z p L
 have hall:∀ (n:Nat) (L:List (Int×Value)),(kC n (eM L)).all (fun e=>yV e.key)=true:=fun n L=>by
  induction L generalizing n with
  | nil=>rfl
  | cons p L ih =>
    show (yV (.int .i64 p.1)&&(kC (n+1) (eM L)).all _)=true;rw[show yV (.int .i64 p.1)=true from rfl,ih];rfl
 have hc:∀ b,z8 Tryz.prog (Instr.checkKey b 10000 3 (.int .i64 p))=some ():=fun b=>zCJ b p
 unfold eY;rw[show yV (.int .i64 p)=true from rfl,hall,zPG,if_pos rfl,hc,hc,hf];simp only;cases qIG p L <;> simp
theorem qIT {p:Int}:∀ {L:List (Int×Value)} {i:Nat},qIG p L=some i->∃ v,L[i]?=some (p,v)
 | [],i,h=>by cases h
 | q::L,i,h=>by
   unfold qIG at h;by_cases hp:q.1=p
   ·rw[decide_eq_true hp] at h;cases h;exact⟨q.2,by rw[<-hp];rfl⟩
   ·rw[decide_eq_false hp] at h;obtain⟨j,h1,rfl⟩:=zOR.1 h;obtain⟨v,hv⟩:=qIT h1;exact⟨v,hv⟩
theorem q9J {L:List (Int×Value)}{i:Nat}{p:Int}{v:Value}(h:L[i]?=some (p,v)):(eM L)[i]?=some (.int .i64 p,v):=by
 unfold eM;rw[zOX,h];rfl
theorem q3J (p:Int)(L:List (Int×Value)):q5M Tryz.prog 3 (.int .i64 p) (eM L)=some (qIG p L).isSome:=by
 unfold q5M;rw[qME];rfl
theorem zAM {p:Int}{L:List (Int×Value)}{i:Nat}{v:Value}{t:Ty}(h:qIG p L=some i)(hv:L[i]?=some (p,v)):q7S Tryz.prog 3 t (.int .i64 p) (eM L)=t.ofV v:=by
 unfold q7S;rw[qME,h];simp only;rw[q9J hv]
theorem q57 {p:Int}{L:List (Int×Value)}(v:Value)(h:qIG p L=none):q8N Tryz.prog 3 (.int .i64 p) v (eM L)=some (eM (L++[(p,v)])):=by
 unfold q8N;rw[qME,h];simp[eM]
end Go.Proofs.YtmojbdabaigobaaGreatDoor
