/- Maps with integers as keys. Conditions: none. -/
import Derived.Test.YtjcflcpjglpicaaGreatDoorLBF
import Derived.Test.YtjcflcpjglpicaaGreatDoorPLQ
set_option linter.all false
set_option maxRecDepth 10000
namespace Go.Proofs.YtjcflcpjglpicaaGreatDoor
open Go Go.Idl Go.Sv Go.Proofs
theorem di3:yZ Tryz.prog (underlying 3)=some (.int .i64):=by kernel_rfl
theorem diB {α β:Type}(s:Sem α)(g:α->Sem β):yZ Tryz.prog (s >>= g)=(yZ Tryz.prog s).bind fun a=>yZ Tryz.prog (g a):=jG g s
def eM (L:List (Int×Value)):List (Value×Value):=L.map fun p=>(.int .i64 p.1,p.2)
theorem zEL (b:Bool)(p:Int):yZ Tryz.prog (Instr.checkKey b 10000 3 (.int .i64 p))=some ():=by kernel_rfl
def qG9 (p:Int):List (Int×Value)->Option Nat
 | []=>none
 | q::L=>cond (decide (q.1=p)) (some 0) ((qG9 p L).map (·+1))
theorem zAK (p:Int):∀ (L:List (Int×Value)) (n i:Nat),∃ f:Nat->Value,Instr.findNow (.int .i64) (.int .i64 p) (yE n (eM L)) i=some ((qG9 p L).map fun j=>(i+j,f j))
 | [],n,i=>⟨fun _=>.bool true,rfl⟩
 | q::L,n,i=>by
   obtain⟨f,hf⟩:=zAK p L (n+1) (i+1);have e:yE n (eM (q::L))=⟨.int .i64 q.1,q.2,n⟩::yE (n+1) (eM L):=rfl;rw[e];unfold Instr.findNow;have es:Instr.sameNow (.int .i64) (.int .i64 p) (.int .i64 q.1)=some (p==q.1):=rfl;rw[es];unfold qG9;by_cases hp:q.1=p
   ·refine⟨fun _=>q.2,?_⟩;rw[show (p==q.1)=true by simp[hp],decide_eq_true hp];rfl
   ·refine⟨fun j=>f (j - 1),?_⟩;rw[show (p==q.1)=false by simp;exact fun h=>hp h.symm,decide_eq_false hp];simp only[cond_false];rw[hf]
    cases qG9 p L with
    | none=>rfl
    | some j =>
      simp only[zPZ,Nat.add_sub_cancel];rw[show i+1+j=i+(j+1) by omega]
theorem zAZ (p:Int)(L:List (Int×Value)):∃ f:Nat->Value,yZ Tryz.prog (Instr.findKey 3 (.int .i64 p) (yE 0 (eM L)))=some ((qG9 p L).map fun j=>(j,f j)):=by
 obtain⟨f,hf⟩:=zAK p L 0 0;refine⟨f,?_⟩;unfold Instr.findKey;rw[diB,di3,zP8,hf];simp only[zP4];rfl
theorem qIC (p:Int)(L:List (Int×Value)):wH Tryz.prog 3 (.int .i64 p) (yE 0 (eM L))=some (qG9 p L):=by
 obtain⟨f,hf⟩:=zAZ p L
 have hall:∀ (n:Nat) (L:List (Int×Value)),(yE n (eM L)).all (fun e=>zP e.key)=true:=fun n L=>by
  induction L generalizing n with
  | nil=>rfl
  | cons p L ih =>
    show (zP (.int .i64 p.1)&&(yE (n+1) (eM L)).all _)=true;rw[show zP (.int .i64 p.1)=true from rfl,ih];rfl
 have hc:∀ b,yZ Tryz.prog (Instr.checkKey b 10000 3 (.int .i64 p))=some ():=fun b=>zEL b p
 unfold wH;rw[show zP (.int .i64 p)=true from rfl,hall,zQE,if_pos rfl,hc,hc,hf];simp only;cases qG9 p L <;> simp
theorem qJU {p:Int}:∀ {L:List (Int×Value)} {i:Nat},qG9 p L=some i->∃ v,L[i]?=some (p,v)
 | [],i,h=>by cases h
 | q::L,i,h=>by
   unfold qG9 at h;by_cases hp:q.1=p
   ·rw[decide_eq_true hp] at h;cases h;exact⟨q.2,by rw[<-hp];rfl⟩
   ·rw[decide_eq_false hp] at h;obtain⟨j,h1,rfl⟩:=zPV.1 h;obtain⟨v,hv⟩:=qJU h1;exact⟨v,hv⟩
theorem q4I {L:List (Int×Value)}{i:Nat}{p:Int}{v:Value}(h:L[i]?=some (p,v)):(eM L)[i]?=some (.int .i64 p,v):=by
 unfold eM;rw[zP0,h];rfl
theorem q5O (p:Int)(L:List (Int×Value)):q0O Tryz.prog 3 (.int .i64 p) (eM L)=some (qG9 p L).isSome:=by
 unfold q0O;rw[qIC];rfl
theorem zBG {p:Int}{L:List (Int×Value)}{i:Nat}{v:Value}{t:Ty}(h:qG9 p L=some i)(hv:L[i]?=some (p,v)):q04 Tryz.prog 3 t (.int .i64 p) (eM L)=t.ofV v:=by
 unfold q04;rw[qIC,h];simp only;rw[q4I hv]
theorem zF5 (p:Int):Instr.sameBits 10000 (.int .i64 p) (.int .i64 p)=true:=by
 rw[show (10000:Nat)=9999+1 from rfl,Instr.sameBits];simp[Instr.sameBits]
theorem q83 {p:Int}{L:List (Int×Value)}{i:Nat}(v:Value)(h:qG9 p L=some i):qZV Tryz.prog 3 (.int .i64 p) v (eM L)=some (eM (L.set i (p,v))):=by
 unfold qZV;rw[qIC,h];obtain⟨w,hw⟩:=qJU h;simp only;rw[q4I hw];simp only[zF5,cond_true];unfold eM;rw[zTD]
theorem q8S {p:Int}{L:List (Int×Value)}(v:Value)(h:qG9 p L=none):qZV Tryz.prog 3 (.int .i64 p) v (eM L)=some (eM (L++[(p,v)])):=by
 unfold qZV;rw[qIC,h];simp[eM]
def eU (n:Nat):List Int->List (Int×Value)
 | []=>[]
 | x::l=>((n:Int),.int .i64 x)::eU (n+1) l
theorem q5B:∀ (l:List Int) (n:Nat),(eU n l).length=l.length
 | [],_=>rfl
 | x::l,n=>congrArg (·+1) (q5B l (n+1))
theorem q5H:∀ (l:List Int) (n i:Nat),(eU n l)[i]?=(l[i]?).map fun x=>(((n+i:Nat):Int),Value.int .i64 x)
 | [],n,i=>by cases i <;> rfl
 | x::l,n,0=>rfl
 | x::l,n,i+1=>by
   show (eU (n+1) l)[i]?=(l[i]?).map _;rw[q5H l (n+1) i,show n+1+i=n+(i+1) by omega]
theorem q5U:∀ (l:List Int) (n i:Nat),i < l.length->qG9 ((n+i:Nat):Int) (eU n l)=some i
 | [],n,i,h=>absurd h (zT1 _)
 | x::l,n,0,_=>by
   unfold eU qG9;simp
 | x::l,n,i+1,h=>by
   unfold eU qG9;have:=q5U l (n+1) i (by simpa using h);rw[show n+1+i=n+(i+1) by omega] at this;rw[this,decide_eq_false (by show ¬ ((n:Int)=((n+(i+1):Nat):Int));omega)];rfl
theorem q8B:∀ (l:List Int) (n:Nat) (k:Int),(k < n∨(n:Int)+l.length<=k)->qG9 k (eU n l)=none
 | [],n,k,h=>rfl
 | x::l,n,k,h=>by
   have hh:k < n∨(n:Int)+(l.length:Int)+1<=k:=by
    rcases h with h | h
    ·exact .inl h
    ·rw[zP5] at h;exact .inr (by omega)
   unfold eU qG9;rw[q8B l (n+1) k (by omega),decide_eq_false (by show ¬ ((n:Int)=k);omega)];rfl
theorem q5M:∀ (l:List Int) (n i:Nat) (x:Int),(eU n l).set i (((n+i:Nat):Int),.int .i64 x)=eU n (l.set i x)
 | [],n,i,x=>by cases i <;> rfl
 | y::l,n,0,x=>rfl
 | y::l,n,i+1,x=>by
   show _::(eU (n+1) l).set i _=_::eU (n+1) (l.set i x);rw[<-q5M l (n+1) i x,show n+1+i=n+(i+1) by omega]
theorem q4H:∀ (l:List Int) (n:Nat) (x:Int),eU n l++[(((n+l.length:Nat):Int),.int .i64 x)]=eU n (l++[x])
 | [],n,x=>rfl
 | y::l,n,x=>by
   show _::(eU (n+1) l++_)=_::eU (n+1) (l++[x]);rw[<-q4H l (n+1) x,show n+1+l.length=n+(y::l).length by rw[zP5];omega]
end Go.Proofs.YtjcflcpjglpicaaGreatDoor
