/- Maps with integers as keys. Conditions: none. -/
import Derived.Test.YtdohendjiddokaaGreatDoorLBF
import Derived.Test.YtdohendjiddokaaGreatDoorPLQ
set_option linter.all false
set_option maxRecDepth 10000
namespace Go.Proofs.YtdohendjiddokaaGreatDoor
open Go Go.Idl Go.Sv Go.Proofs
theorem di3:yU Tryz.prog (underlying 3)=some (.int .i64):=by kernel_rfl
theorem diB {α β:Type}(s:Sem α)(g:α->Sem β):yU Tryz.prog (s >>= g)=(yU Tryz.prog s).bind fun a=>yU Tryz.prog (g a):=jF g s
def eM (L:List (Int×Value)):List (Value×Value):=L.map fun p=>(.int .i64 p.1,p.2)
theorem zE3 (b:Bool)(p:Int):yU Tryz.prog (Instr.checkKey b 10000 3 (.int .i64 p))=some ():=by kernel_rfl
def qGA (p:Int):List (Int×Value)->Option Nat
 | []=>none
 | q::L=>cond (decide (q.1=p)) (some 0) ((qGA p L).map (·+1))
theorem zAS (p:Int):∀ (L:List (Int×Value)) (n i:Nat),∃ f:Nat->Value,Instr.findNow (.int .i64) (.int .i64 p) (yD n (eM L)) i=some ((qGA p L).map fun j=>(i+j,f j))
 | [],n,i=>⟨fun _=>.bool true,rfl⟩
 | q::L,n,i=>by
   obtain⟨f,hf⟩:=zAS p L (n+1) (i+1);have e:yD n (eM (q::L))=⟨.int .i64 q.1,q.2,n⟩::yD (n+1) (eM L):=rfl;rw[e];unfold Instr.findNow;have es:Instr.sameNow (.int .i64) (.int .i64 p) (.int .i64 q.1)=some (p==q.1):=rfl;rw[es];unfold qGA;by_cases hp:q.1=p
   ·refine⟨fun _=>q.2,?_⟩;rw[show (p==q.1)=true by simp[hp],decide_eq_true hp];rfl
   ·refine⟨fun j=>f (j - 1),?_⟩;rw[show (p==q.1)=false by simp;exact fun h=>hp h.symm,decide_eq_false hp];simp only[cond_false];rw[hf]
    cases qGA p L with
    | none=>rfl
    | some j =>
      simp only[zQC,Nat.add_sub_cancel];rw[show i+1+j=i+(j+1) by omega]
theorem zCQ (p:Int)(L:List (Int×Value)):∃ f:Nat->Value,yU Tryz.prog (Instr.findKey 3 (.int .i64 p) (yD 0 (eM L)))=some ((qGA p L).map fun j=>(j,f j)):=by
 obtain⟨f,hf⟩:=zAS p L 0 0;refine⟨f,?_⟩;unfold Instr.findKey;rw[diB,di3,zQO,hf];simp only[zQI];rfl
theorem qF6 (p:Int)(L:List (Int×Value)):wP Tryz.prog 3 (.int .i64 p) (yD 0 (eM L))=some (qGA p L):=by
 obtain⟨f,hf⟩:=zCQ p L
 have hall:∀ (n:Nat) (L:List (Int×Value)),(yD n (eM L)).all (fun e=>zN e.key)=true:=fun n L=>by
  induction L generalizing n with
  | nil=>rfl
  | cons p L ih =>
    show (zN (.int .i64 p.1)&&(yD (n+1) (eM L)).all _)=true;rw[show zN (.int .i64 p.1)=true from rfl,ih];rfl
 have hc:∀ b,yU Tryz.prog (Instr.checkKey b 10000 3 (.int .i64 p))=some ():=fun b=>zE3 b p
 unfold wP;rw[show zN (.int .i64 p)=true from rfl,hall,zQU,if_pos rfl,hc,hc,hf];simp only;cases qGA p L <;> simp
theorem qKV {p:Int}:∀ {L:List (Int×Value)} {i:Nat},qGA p L=some i->∃ v,L[i]?=some (p,v)
 | [],i,h=>by cases h
 | q::L,i,h=>by
   unfold qGA at h;by_cases hp:q.1=p
   ·rw[decide_eq_true hp] at h;cases h;exact⟨q.2,by rw[<-hp];rfl⟩
   ·rw[decide_eq_false hp] at h;obtain⟨j,h1,rfl⟩:=zP9.1 h;obtain⟨v,hv⟩:=qKV h1;exact⟨v,hv⟩
theorem q5O {L:List (Int×Value)}{i:Nat}{p:Int}{v:Value}(h:L[i]?=some (p,v)):(eM L)[i]?=some (.int .i64 p,v):=by
 unfold eM;rw[zQD,h];rfl
theorem q54 (p:Int)(L:List (Int×Value)):q0Q Tryz.prog 3 (.int .i64 p) (eM L)=some (qGA p L).isSome:=by
 unfold q0Q;rw[qF6];rfl
theorem zCX {p:Int}{L:List (Int×Value)}{i:Nat}{v:Value}{t:Ty}(h:qGA p L=some i)(hv:L[i]?=some (p,v)):q0N Tryz.prog 3 t (.int .i64 p) (eM L)=t.ofV v:=by
 unfold q0N;rw[qF6,h];simp only;rw[q5O hv]
theorem zGG (p:Int):Instr.sameBits 10000 (.int .i64 p) (.int .i64 p)=true:=by
 rw[show (10000:Nat)=9999+1 from rfl,Instr.sameBits];simp[Instr.sameBits]
theorem q9I {p:Int}{L:List (Int×Value)}{i:Nat}(v:Value)(h:qGA p L=some i):qZ9 Tryz.prog 3 (.int .i64 p) v (eM L)=some (eM (L.set i (p,v))):=by
 unfold qZ9;rw[qF6,h];obtain⟨w,hw⟩:=qKV h;simp only;rw[q5O hw];simp only[zGG,cond_true];unfold eM;rw[zTT]
theorem q7J {p:Int}{L:List (Int×Value)}(v:Value)(h:qGA p L=none):qZ9 Tryz.prog 3 (.int .i64 p) v (eM L)=some (eM (L++[(p,v)])):=by
 unfold qZ9;rw[qF6,h];simp[eM]
def eU (n:Nat):List Int->List (Int×Value)
 | []=>[]
 | x::l=>((n:Int),.int .i64 x)::eU (n+1) l
theorem q48:∀ (l:List Int) (n:Nat),(eU n l).length=l.length
 | [],_=>rfl
 | x::l,n=>congrArg (·+1) (q48 l (n+1))
theorem q5E:∀ (l:List Int) (n i:Nat),(eU n l)[i]?=(l[i]?).map fun x=>(((n+i:Nat):Int),Value.int .i64 x)
 | [],n,i=>by cases i <;> rfl
 | x::l,n,0=>rfl
 | x::l,n,i+1=>by
   show (eU (n+1) l)[i]?=(l[i]?).map _;rw[q5E l (n+1) i,show n+1+i=n+(i+1) by omega]
theorem q5D:∀ (l:List Int) (n i:Nat),i < l.length->qGA ((n+i:Nat):Int) (eU n l)=some i
 | [],n,i,h=>absurd h (zR8 _)
 | x::l,n,0,_=>by
   unfold eU qGA;simp
 | x::l,n,i+1,h=>by
   unfold eU qGA;have:=q5D l (n+1) i (by simpa using h);rw[show n+1+i=n+(i+1) by omega] at this;rw[this,decide_eq_false (by show ¬ ((n:Int)=((n+(i+1):Nat):Int));omega)];rfl
theorem q7Y:∀ (l:List Int) (n:Nat) (k:Int),(k < n∨(n:Int)+l.length<=k)->qGA k (eU n l)=none
 | [],n,k,h=>rfl
 | x::l,n,k,h=>by
   have hh:k < n∨(n:Int)+(l.length:Int)+1<=k:=by
    rcases h with h | h
    ·exact .inl h
    ·rw[zQJ] at h;exact .inr (by omega)
   unfold eU qGA;rw[q7Y l (n+1) k (by omega),decide_eq_false (by show ¬ ((n:Int)=k);omega)];rfl
theorem q4M:∀ (l:List Int) (n i:Nat) (x:Int),(eU n l).set i (((n+i:Nat):Int),.int .i64 x)=eU n (l.set i x)
 | [],n,i,x=>by cases i <;> rfl
 | y::l,n,0,x=>rfl
 | y::l,n,i+1,x=>by
   show _::(eU (n+1) l).set i _=_::eU (n+1) (l.set i x);rw[<-q4M l (n+1) i x,show n+1+i=n+(i+1) by omega]
theorem q55:∀ (l:List Int) (n:Nat) (x:Int),eU n l++[(((n+l.length:Nat):Int),.int .i64 x)]=eU n (l++[x])
 | [],n,x=>rfl
 | y::l,n,x=>by
   show _::(eU (n+1) l++_)=_::eU (n+1) (l++[x]);rw[<-q55 l (n+1) x,show n+1+l.length=n+(y::l).length by rw[zQJ];omega]
end Go.Proofs.YtdohendjiddokaaGreatDoor
