/- Maps with integers as keys. Conditions: none. -/
import Derived.Test.YtkmfigmiehpcpaaGreatDoorLBF
import Derived.Test.YtkmfigmiehpcpaaGreatDoorPLQ
set_option linter.all false
set_option maxRecDepth 10000
namespace Go.Proofs.YtkmfigmiehpcpaaGreatDoor
open Go Go.Idl Go.Sv Go.Proofs
theorem di3:yE Tryz.prog (underlying 3)=some (.int .i64):=by kernel_rfl
theorem diB {α β:Type}(s:Sem α)(g:α->Sem β):yE Tryz.prog (s >>= g)=(yE Tryz.prog s).bind fun a=>yE Tryz.prog (g a):=kG g s
def eM (L:List (Int×Value)):List (Value×Value):=L.map fun p=>(.int .i64 p.1,p.2)
theorem zCB (b:Bool)(p:Int):yE Tryz.prog (Instr.checkKey b 10000 3 (.int .i64 p))=some ():=by kernel_rfl
def qIM (p:Int):List (Int×Value)->Option Nat
 | []=>none
 | q::L=>cond (decide (q.1=p)) (some 0) ((qIM p L).map (·+1))
theorem zAD (p:Int):∀ (L:List (Int×Value)) (n i:Nat),∃ f:Nat->Value,Instr.findNow (.int .i64) (.int .i64 p) (kC n (eM L)) i=some ((qIM p L).map fun j=>(i+j,f j))
 | [],n,i=>⟨fun _=>.bool true,rfl⟩
 | q::L,n,i=>by
   obtain⟨f,hf⟩:=zAD p L (n+1) (i+1);have e:kC n (eM (q::L))=⟨.int .i64 q.1,q.2,n⟩::kC (n+1) (eM L):=rfl;rw[e];unfold Instr.findNow;have es:Instr.sameNow (.int .i64) (.int .i64 p) (.int .i64 q.1)=some (p==q.1):=rfl;rw[es];unfold qIM;by_cases hp:q.1=p
   ·refine⟨fun _=>q.2,?_⟩;rw[show (p==q.1)=true by simp[hp],decide_eq_true hp];rfl
   ·refine⟨fun j=>f (j - 1),?_⟩;rw[show (p==q.1)=false by simp;exact fun h=>hp h.symm,decide_eq_false hp];simp only[cond_false];rw[hf]
    cases qIM p L with
    | none=>rfl
    | some j =>
      simp only[zN8,Nat.add_sub_cancel];rw[show i+1+j=i+(j+1) by omega]
theorem q8O (p:Int)(L:List (Int×Value)):∃ f:Nat->Value,yE Tryz.prog (Instr.findKey 3 (.int .i64 p) (kC 0 (eM L)))=some ((qIM p L).map fun j=>(j,f j)):=by
 obtain⟨f,hf⟩:=zAD p L 0 0;refine⟨f,?_⟩;unfold Instr.findKey;rw[diB,di3,zOD,hf];simp only[zOR];rfl
theorem qNH (p:Int)(L:List (Int×Value)):eZ Tryz.prog 3 (.int .i64 p) (kC 0 (eM L))=some (qIM p L):=by
 obtain⟨f,hf⟩:=q8O p L
 have hall:∀ (n:Nat) (L:List (Int×Value)),(kC n (eM L)).all (fun e=>yZ e.key)=true:=fun n L=>by
  induction L generalizing n with
  | nil=>rfl
  | cons p L ih =>
    show (yZ (.int .i64 p.1)&&(kC (n+1) (eM L)).all _)=true;rw[show yZ (.int .i64 p.1)=true from rfl,ih];rfl
 have hc:∀ b,yE Tryz.prog (Instr.checkKey b 10000 3 (.int .i64 p))=some ():=fun b=>zCB b p
 unfold eZ;rw[show yZ (.int .i64 p)=true from rfl,hall,zOS,if_pos rfl,hc,hc,hf];simp only;cases qIM p L <;> simp
theorem qJ3 {p:Int}:∀ {L:List (Int×Value)} {i:Nat},qIM p L=some i->∃ v,L[i]?=some (p,v)
 | [],i,h=>by cases h
 | q::L,i,h=>by
   unfold qIM at h;by_cases hp:q.1=p
   ·rw[decide_eq_true hp] at h;cases h;exact⟨q.2,by rw[<-hp];rfl⟩
   ·rw[decide_eq_false hp] at h;obtain⟨j,h1,rfl⟩:=zN4.1 h;obtain⟨v,hv⟩:=qJ3 h1;exact⟨v,hv⟩
theorem q9I {L:List (Int×Value)}{i:Nat}{p:Int}{v:Value}(h:L[i]?=some (p,v)):(eM L)[i]?=some (.int .i64 p,v):=by
 unfold eM;rw[zN9,h];rfl
theorem q2W (p:Int)(L:List (Int×Value)):q4I Tryz.prog 3 (.int .i64 p) (eM L)=some (qIM p L).isSome:=by
 unfold q4I;rw[qNH];rfl
theorem zAP {p:Int}{L:List (Int×Value)}{i:Nat}{v:Value}{t:Ty}(h:qIM p L=some i)(hv:L[i]?=some (p,v)):q6N Tryz.prog 3 t (.int .i64 p) (eM L)=t.ofV v:=by
 unfold q6N;rw[qNH,h];simp only;rw[q9I hv]
theorem q5E {p:Int}{L:List (Int×Value)}(v:Value)(h:qIM p L=none):q7P Tryz.prog 3 (.int .i64 p) v (eM L)=some (eM (L++[(p,v)])):=by
 unfold q7P;rw[qNH,h];simp[eM]
end Go.Proofs.YtkmfigmiehpcpaaGreatDoor
