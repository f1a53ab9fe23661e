/- Plain laws of chapter 9: loads. Conditions: none. -/
import Derived.Test.YtmkiipeghngchaaGreatDoorPU1
set_option linter.all false
set_option maxRecDepth 10000
set_option maxHeartbeats 100000000
namespace Go.Proofs.YtmkiipeghngchaaGreatDoor
open Go Go.Idl Go.Sv Go.Proofs
def ad (l:List Int)(i:Nat)(t:Int):List Int:=l.set i (l.getD i 0+t)
def ldK (l:List Int)(ts a:List Int):Nat->List Int
 | 0=>l
 | k+1=>ad (ldK l ts a k) (a.getD k 0).toNat (ts.getD k 0)
theorem gX (l ts a:List Int):∀ k,(ldK l ts a k).length=l.length
 | 0=>rfl
 | k+1=>by show (List.set _ _ _).length=_;rw[zQM,gX l ts a k]
def Rg (l:List Int)(B:Int):Prop:=∀ x∈l,0<=x∧x<=B
theorem Rg.get {l:List Int}{B:Int}(h:Rg l B)(h0:0<=B)(i:Nat):0<=l.getD i 0∧l.getD i 0<=B:=by
 by_cases hi:i < l.length
 ·rw[jJ hi];exact h _ (zPW hi)
 ·rw[zPX,zP8 (by omega)];exact⟨zP2 _,h0⟩
theorem Rg.ad {l:List Int}{B t:Int}(h:Rg l B)(h0:0<=B)(ht:0<=t∧t<=1000000)(i:Nat):Rg (ad l i t) (B+1000000):=fun x hx=>by
 have:=h.get h0 i;rcases zSJ hx with h1 | h1
 ·have:=h x h1;omega
 ·omega
theorem qA4 {l ts a:List Int}{B:Int}(h:Rg l B)(h0:0<=B)(ht:Rg ts 1000000):∀ k,Rg (ldK l ts a k) (B+1000000*k)
 | 0=>by simpa [ldK] using h
 | k+1=>by
   have:=(qA4 (a:=a) h h0 ht k).ad (by omega) (ht.get (by omega) k) (a.getD k 0).toNat;rw[show B+1000000*((k+1:Nat):Int)=B+1000000*(k:Int)+1000000 by omega];exact this
theorem rg0 (n:Nat):Rg (List.replicate n 0) 0:=fun x hx=>by
 rw[zRH hx];exact⟨zP2 _,zP2 _⟩
theorem q56 {l:List Int}{i:Nat}{t:Int}(hi:i < l.length)(ht:0<=t)(hl:∀ x∈l,0<=x):mx (ad l i t)=if mx l < l.getD i 0+t then l.getD i 0+t else mx l:=by
 have h0:=pI l;have hmem:l.getD i 0+t∈ad l i t:=List.mem_set hi _;refine q08 (by split <;> omega) (fun x hx=>?_) ?_
 ·rcases zSJ hx with h1 | h1
  ·have:=qJA h1;split <;> omega
  ·split <;> omega
 ·split
  ·exact .inr hmem
  ·rename_i hlt;rcases qJQ l with h1 | h1
   ·exact .inl h1
   ·obtain⟨j,hj,e⟩:=zQA.1 h1;by_cases hij:i=j
    ·subst hij;rw[jJ hi,e] at hmem hlt;have:t=0:=by omega
     subst this;rw[Int.add_zero] at hmem;exact .inr hmem
    ·have hj2:j < (l.set i (l.getD i 0+t)).length:=by rw[zQM];exact hj
     exact .inr (zQA.2 ⟨j,hj2,(List.getElem_set_ne hij hj2).trans e⟩)
theorem qYC {l:List Int}{i:Nat}{t:Int}(ht:0<=t)(hl:∀ x∈l,0<=x):mx l<=mx (ad l i t):=by
 by_cases hi:i < l.length
 ·rw[q56 hi ht hl];split <;> omega
 ·unfold ad;rw[List.set_eq_of_length_le (by omega)];exact zP2 _
theorem zBU {x z:List Int}{i:Nat}{t:Int}(hi:i < x.length):ad (x++z) i t=ad x i t++z:=by
 unfold ad;rw[List.set_append_left _ _ hi,zPX,zQC hi,<-zPX]
theorem qOS {x z ts a:List Int}:∀ {k:Nat},(∀ j,j < k->(a.getD j 0).toNat < x.length)->ldK (x++z) ts a k=ldK x ts a k++z
 | 0,_=>rfl
 | k+1,h=>by
   show ad (ldK (x++z) ts a k) _ _=ad (ldK x ts a k) _ _++z;rw[qOS (fun j hj=>h j (by omega)),zBU (by rw[gX];exact h k (by omega))]
theorem qH9 (x:List Int)(n:Nat):mx (x++List.replicate n 0)=mx x:=by
 refine q08 (pI x) (fun y hy=>?_) ?_
 ·rcases zP0.1 hy with h | h
  ·exact qJA h
  ·rw[zRH h];exact pI x
 ·rcases qJQ x with h | h
  ·exact .inl h
  ·exact .inr (zP5 _ h)
def lds (M:Nat)(ts a:List Int)(k:Nat):List Int:=ldK (List.replicate M 0) ts a k
theorem zDY {M:Nat}{ts a:List Int}{k:Nat}(hM:M<=16)(h:∀ j,j < k->(a.getD j 0).toNat < M):ldK (List.replicate 16 0) ts a k=lds M ts a k++List.replicate (16 - M) 0:=by
 have:List.replicate 16 (0:Int)=List.replicate M 0++List.replicate (16 - M) 0:=by rw[zS2,show M+(16 - M)=16 by omega]
 rw[this];exact qOS (by simpa using h)
theorem zD8 {M:Nat}{ts a:List Int}{k:Nat}(hM:M<=16)(h:∀ j,j < k->(a.getD j 0).toNat < M):mx (ldK (List.replicate 16 0) ts a k)=mx (lds M ts a k):=by
 rw[zDY hM h,qH9]
structure Vd (ts:List Int) (m:Int) (M:Nat):Prop where
 m:m=(M:Int)
 lo:1<=M
 hi:M<=16
 len:ts.length<=32
 ts:Rg ts 1000000
theorem zDG {ts:List Int}{m:Int}(h:qH0 ts m=0):∃ M,Vd ts m M:=by
 unfold qH0 at h
 cases h1:decide (32 < (ts.length:Int)) with
 | true=>rw[h1] at h;cases h
 | false =>
   rw[h1] at h;simp only[cond_false] at h
   cases h2:((ts.any fun x=>outs x 0 1000000)||outs m 1 16) with
   | true=>rw[h2] at h;cases h
   | false =>
     rw[zTB] at h2;have h3:=of_decide_eq_false h1
     have h4:1<=m∧m<=16:=by
      have:=h2.2;unfold outs at this;simp at this;omega
     refine⟨m.toNat,by omega,by omega,by omega,by omega,fun x hx=>?_⟩;have:=zRP.1 h2.1 x hx;unfold outs at this;simp at this;omega
theorem Vd.bad {ts:List Int}{m:Int}{M:Nat}(h:Vd ts m M):qH0 ts m=0:=by
 unfold qH0;have h1:=h.m;have h2:=h.lo;have h3:=h.hi;have h4:=h.len
 rw[show decide (32 < (ts.length:Int))=false from decide_eq_false (by omega),show (ts.any fun x=>outs x 0 1000000)=false from zRP.2 fun x hx=>by
  have:=h.ts x hx;unfold outs;simp
  omega,show outs m 1 16=false by unfold outs;simp;omega]
 rfl
def rJ (M:Nat)(a:List Int):Bool:=a.any fun x=>outs x 0 ((M:Int) - 1)
theorem oQ {M:Nat}{a:List Int}(h:rJ M a=false)(k:Nat)(hk:k < a.length):∃ K:Nat,a[k]=(K:Int)∧K < M:=by
 have:=zRP.1 h _ (zPW hk);unfold outs at this;simp at this;exact⟨a[k].toNat,by omega,by omega⟩
def cs (M:Nat)(ts a:List Int):Int×Int:=if a.length≠ts.length then (0,2) else if rJ M a=true then (0,10) else (mx (lds M ts a a.length),0)
end Go.Proofs.YtmkiipeghngchaaGreatDoor
