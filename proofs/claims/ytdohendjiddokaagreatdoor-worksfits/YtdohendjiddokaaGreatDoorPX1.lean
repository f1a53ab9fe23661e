/- Ways of cutting: what is left of the coils, the best way. Conditions: none. -/
import Derived.Test.YtdohendjiddokaaGreatDoorPLQ
set_option linter.all false
set_option maxRecDepth 10000
namespace Go.Proofs.YtdohendjiddokaaGreatDoor
open Go Go.Idl Go.Sv Go.Proofs
def put (c:Int)(l:List Int)(i:Nat)(p:Int):List Int:=if i < l.length then l.set i (l.getD i 0 - p) else l++[c - p]
def lfK (c:Int)(ps b:List Int):Nat->List Int
 | 0=>[]
 | k+1=>put c (lfK c ps b k) (b.getD k 0).toNat (ps.getD k 0)
def erK (c:Int)(ps b:List Int):Nat->Int
 | 0=>0
 | k+1=>if erK c ps b k≠0 then erK c ps b k else if b.getD k 0 < 0∨((lfK c ps b k).length:Int) < b.getD k 0 then 11 else if (lfK c ps b (k+1)).getD (b.getD k 0).toNat 0 < 0 then 31 else 0
theorem qB6 (c:Int)(l:List Int)(i:Nat)(p:Int):(put c l i p).length=if i < l.length then l.length else l.length+1:=by
 unfold put;split <;> simp
theorem oD {c:Int}{l:List Int}{i:Nat}(h:i < l.length)(p:Int):put c l i p=l.set i (l.getD i 0 - p):=if_pos h
theorem nW {c:Int}{l:List Int}{i:Nat}(h:l.length<=i)(p:Int):put c l i p=l++[c - p]:=if_neg (by omega)
theorem tY {b:List Int}{k:Int}{j:Nat}(h:j < b.length):(b++[k]).getD j 0=b.getD j 0:=by
 rw[zQN,zRM h,<-zQN]
theorem jN {b:List Int}{k:Int}:(b++[k]).getD b.length 0=k:=by
 rw[zQN,zRK (zP0 _),zUE];rfl
theorem vP {c:Int}{ps qs a b:List Int}:∀ {k:Nat},(∀ j,j < k->a.getD j 0=b.getD j 0)->(∀ j,j < k->ps.getD j 0=qs.getD j 0)->lfK c ps a k=lfK c qs b k
 | 0,_,_=>rfl
 | k+1,h,g=>by
   show put c (lfK c ps a k) _ _=put c (lfK c qs b k) _ _;rw[vP (fun j hj=>h j (by omega)) (fun j hj=>g j (by omega)),h k (by omega),g k (by omega)]
theorem bA {c:Int}{ps qs a b:List Int}:∀ {k:Nat},(∀ j,j < k->a.getD j 0=b.getD j 0)->(∀ j,j < k->ps.getD j 0=qs.getD j 0)->erK c ps a k=erK c qs b k
 | 0,_,_=>rfl
 | k+1,h,g=>by
   have h1:=vP (c:=c) (k:=k+1) h g;have h2:=vP (c:=c) (k:=k) (fun j hj=>h j (by omega)) (fun j hj=>g j (by omega));unfold erK;rw[bA (fun j hj=>h j (by omega)) (fun j hj=>g j (by omega)),h k (by omega),h1,h2]
theorem qDL {c:Int}{ps b:List Int}:∀ k,(lfK c ps b k).length<=k
 | 0=>zP0 _
 | k+1=>by
   have:=qDL (c:=c) (ps:=ps) (b:=b) k;show (put _ _ _ _).length<=_;rw[qB6];split <;> omega
theorem qG7 {c:Int}{ps b:List Int}(k:Nat):(lfK c ps b k).length<=(lfK c ps b (k+1)).length:=by
 show _<=(put _ _ _ _).length;rw[qB6];split <;> omega
theorem qUF {c:Int}{ps b:List Int}{j k:Nat}(h:j<=k):(lfK c ps b j).length<=(lfK c ps b k).length:=by
 induction h with
 | refl=>exact zP0 _
 | step _ ih=>exact zQM ih (qG7 _)
theorem wG {c:Int}{ps b:List Int}{k:Nat}:erK c ps b (k+1)=0 ↔ erK c ps b k=0∧0<=b.getD k 0∧b.getD k 0<=(lfK c ps b k).length∧0<=(lfK c ps b (k+1)).getD (b.getD k 0).toNat 0:=by
 rw[show erK c ps b (k+1)=if erK c ps b k≠0 then erK c ps b k else if b.getD k 0 < 0∨((lfK c ps b k).length:Int) < b.getD k 0 then 11 else if (lfK c ps b (k+1)).getD (b.getD k 0).toNat 0 < 0 then 31 else 0 from rfl];split
 ·omega
 ·split
  ·omega
  ·split <;> omega
theorem qU7 {c:Int}{ps b:List Int}{j k:Nat}(h:j<=k)(h0:erK c ps b k=0):erK c ps b j=0:=by
 induction h with
 | refl=>exact h0
 | step _ ih=>exact ih (wG.1 h0).1
theorem zDB {c:Int}{ps b:List Int}{j k:Nat}(h:j<=k)(h0:erK c ps b j≠0):erK c ps b k=erK c ps b j:=by
 induction h with
 | refl=>rfl
 | step _ ih =>
   rw[show ∀ n,erK c ps b (n+1)=if erK c ps b n≠0 then erK c ps b n else if b.getD n 0 < 0∨((lfK c ps b n).length:Int) < b.getD n 0 then 11 else if (lfK c ps b (n+1)).getD (b.getD n 0).toNat 0 < 0 then 31 else 0 from fun _=>rfl];rw[if_pos (by rw[ih];exact h0),ih]
def Bw (l:List Int)(lo hi:Int):Prop:=∀ x∈l,lo<=x∧x<=hi
theorem Bw.get {l:List Int}{lo hi:Int}(h:Bw l lo hi){i:Nat}(h1:i < l.length):lo<=l[i]∧l[i]<=hi:=h _ (zSN h1)
theorem gDE {l:List Int}{i:Nat}(h:i < l.length):l.getD i 0=l[i]:=by
 rw[zQN,zP2 h];rfl
theorem Bw.getD {l:List Int}{lo hi:Int}(h:Bw l lo hi){i:Nat}(h1:i < l.length):lo<=l.getD i 0∧l.getD i 0<=hi:=by
 rw[gDE h1];exact h.get h1
theorem Bw.set {l:List Int}{lo hi:Int}(h:Bw l lo hi){i:Nat}{v:Int}(hv:lo<=v∧v<=hi):Bw (l.set i v) lo hi:=fun x hx=>by
 rcases List.mem_or_eq_of_mem_set hx with h1 | h1
 ·exact h x h1
 ·rw[h1];exact hv
theorem Bw.app {l:List Int}{lo hi:Int}(h:Bw l lo hi){v:Int}(hv:lo<=v∧v<=hi):Bw (l++[v]) lo hi:=fun x hx=>by
 rcases zQ8.1 hx with h1 | h1
 ·exact h x h1
 ·rw[zRA.1 h1];exact hv
theorem qC8 {c:Int}{ps b:List Int}(hp:Bw ps 1 c):∀ k,k<=ps.length->erK c ps b k=0->Bw (lfK c ps b k) 0 (c - 1)
 | 0,_,_=>fun x hx=>by simp[lfK] at hx
 | k+1,hk,h=>by
   have h1:=wG.1 h;have ih:=qC8 hp k (by omega) h1.1;have hpk:=hp.getD (show k < ps.length by omega);have h4:=h1.2.2.2;show Bw (put _ _ _ _) _ _;by_cases q:(b.getD k 0).toNat < (lfK c ps b k).length
   ·rw[show lfK c ps b (k+1)=(lfK c ps b k).set (b.getD k 0).toNat ((lfK c ps b k).getD (b.getD k 0).toNat 0 - ps.getD k 0) from oD q _,gDE (by rw[zQP];exact q),zRX] at h4;rw[oD q];have:=ih.getD q;exact ih.set ⟨h4,by omega⟩
   ·rw[nW (by omega)];exact ih.app ⟨by omega,by omega⟩
section
variable (c:Int)(ps:List Int)
def bsN (N:Int)(f:Nat->Int×List Int):Nat->Int×List Int
 | 0=>(N,[])
 | k+1=>if (f k).1 < (bsN N f k).1 then f k else bsN N f k
def cu:Nat->List Int->Int×List Int
 | 0,b=>((lfK c ps b b.length).length,b)
 | d+1,b=>bsN (ps.length+1) (fun k=>if erK c ps (b++[(k:Int)]) (b.length+1)=0 then cu d (b++[(k:Int)]) else (ps.length+1,[])) ((lfK c ps b b.length).length+1)
end
theorem q4J {N:Int}{f:Nat->Int×List Int}{v:Int}(hN:v<=N):∀ {n:Nat},(∀ k,k < n->v<=(f k).1)->v<=(bsN N f n).1
 | 0,_=>hN
 | n+1,h=>by
   show v<=(if (f n).1 < (bsN N f n).1 then f n else bsN N f n).1;split
   ·exact h n (by omega)
   ·exact q4J hN fun k hk=>h k (by omega)
theorem qN3 {N:Int}{f:Nat->Int×List Int}:∀ {n k:Nat},k < n->(bsN N f n).1<=(f k).1
 | 0,_,h=>by omega
 | n+1,k,h=>by
   show (if (f n).1 < (bsN N f n).1 then f n else bsN N f n).1<=_;by_cases hk:k=n
   ·subst hk;split <;> omega
   ·have:=qN3 (N:=N) (f:=f) (show k < n by omega);split <;> omega
theorem q45 {N:Int}{f:Nat->Int×List Int}:∀ n,bsN N f n=(N,[])∨∃ k,k < n∧bsN N f n=f k
 | 0=>.inl rfl
 | n+1=>by
   show (if (f n).1 < (bsN N f n).1 then f n else bsN N f n)=_∨∃ k,k < n+1∧(if (f n).1 < (bsN N f n).1 then f n else bsN N f n)=f k;split
   ·exact .inr ⟨n,by omega,rfl⟩
   ·rcases q45 (N:=N) (f:=f) n with h | ⟨k,h1,h2⟩
    ·exact .inl h
    ·exact .inr ⟨k,by omega,h2⟩
theorem qLD {c:Int}{ps b:List Int}{k:Int}:lfK c ps (b++[k]) b.length=lfK c ps b b.length:=vP (fun j hj=>tY hj) fun _ _=>rfl
theorem qVM {c:Int}{ps b:List Int}{k:Int}:erK c ps (b++[k]) b.length=erK c ps b b.length:=bA (fun j hj=>tY hj) fun _ _=>rfl
theorem qBD {c:Int}{ps b:List Int}{k:Int}:lfK c ps (b++[k]) (b.length+1)=put c (lfK c ps b b.length) k.toNat (ps.getD b.length 0):=by
 show put c (lfK c ps (b++[k]) b.length) _ _=_;rw[qLD,jN]
theorem q7B {c:Int}{ps:List Int}:∀ (d:Nat) (b:List Int),b.length+d=ps.length->((lfK c ps b b.length).length:Int)<=(cu c ps d b).1
 | 0,b,_=>zTC _
 | d+1,b,hb=>by
   have h1:=qDL (c:=c) (ps:=ps) (b:=b) b.length;refine q4J (by omega) fun k hk=>?_
   show _<=(if erK c ps (b++[(k:Int)]) (b.length+1)=0 then cu c ps d (b++[(k:Int)]) else ((ps.length:Int)+1,[])).1;split
   ·have:=q7B (c:=c) (ps:=ps) d (b++[(k:Int)]) (by simp;omega);rw[show (b++[(k:Int)]).length=b.length+1 by simp] at this;have h2:=qG7 (c:=c) (ps:=ps) (b:=b++[(k:Int)]) b.length;rw[qLD] at h2;omega
   ·show _<=(ps.length:Int)+1;omega
def qIW (st:List Int×Int)(r:Int×List Int):List Int×Int:=if r.1 < st.2 then (r.2,r.1) else st
def qAD (f:Nat->Int×List Int)(st:List Int×Int):Nat->List Int×Int
 | 0=>st
 | k+1=>qIW (qAD f st k) (f k)
theorem qOG {st:List Int×Int}{r:Int×List Int}(h:st.2<=r.1):qIW st r=st:=if_neg (by omega)
theorem q7L {st:List Int×Int}{r:Int×List Int}:(qIW st r).2<=st.2:=by
 unfold qIW;split
 ·show r.1<=st.2;omega
 ·exact zTC _
theorem qQ8 {f:Nat->Int×List Int}{st:List Int×Int}:∀ k,(qAD f st k).2<=st.2
 | 0=>zTC _
 | k+1=>zUI q7L (qQ8 k)
theorem qPU {N:Int}{f:Nat->Int×List Int}{st:List Int×Int}(hN:st.2<=N):∀ n,qAD f st n=qIW st (bsN N f n)
 | 0=>(qOG hN).symm
 | k+1=>by
   show qIW (qAD f st k) (f k)=qIW st (if (f k).1 < (bsN N f k).1 then f k else bsN N f k);rw[qPU hN k];by_cases hc:(f k).1 < (bsN N f k).1
   ·rw[if_pos hc];unfold qIW;by_cases h1:(bsN N f k).1 < st.2
    ·rw[if_pos h1,if_pos hc,if_pos (by omega)]
    ·rw[if_neg h1]
   ·rw[if_neg hc];unfold qIW;by_cases h1:(bsN N f k).1 < st.2
    ·rw[if_pos h1];exact if_neg hc
    ·rw[if_neg h1,if_neg (by omega)]
end Go.Proofs.YtdohendjiddokaaGreatDoor
