/- Functions of the library by their contracts: strconv.Itoa, strconv.Atoi, strings.Trim. Conditions: none. -/
import Derived.Test.YtdohendjiddokaaGreatDoorSHL
import Derived.Test.YtdohendjiddokaaGreatDoorPLN
import Derived.Lib.SmallJoins
set_option linter.all false
set_option maxRecDepth 10000
namespace Go.Proofs.YtdohendjiddokaaGreatDoor
open Go Go.Idl Go.Sv Go.Proofs Go.RowKit Go.Joins
noncomputable section
variable {T:zX}{IT:List (FuncId×zG6)}
def zKN (n:Int):Option ByteArray:=cond (decide (-9223372036854775808<=n)&&decide (n<=9223372036854775807)) (some ⟨(Lib.itoa n).toArray⟩) none
def zKO (s:ByteArray):Option (Int×Unit):=cond (Nat.ble s.size 18) (match Lib.atoi s.data.toList with
 | some n=>some (n,())
 | none=>none) none
def zKP (x:ByteArray×ByteArray):Option ByteArray:=cond (Nat.ble x.1.size 9223372036854775807&&(Nat.blt x.2.size 4294967281&&x.2.data.toList.all fun b=>Nat.blt b.toNat 128)) (some ⟨(Lib.trimS x.1.data.toList x.2.data.toList).toArray⟩) none
theorem zGH {f:Inj}{H:IH}{w:World}(hg:GlH H)(hR:Rel Tryz.prog f H w)(hG:gG (qG 10) f):∃ el fz,w.heap[5]?=some (.cells (Lib.pow10Tab.map fun z=>Value.int .u64 z).toArray el fz):=by
 obtain⟨_,h2⟩:=hg 5 gJ rfl;obtain⟨e,e1,e2,e3,e4⟩:=bX.1 (hG 5 rfl);obtain⟨c',el',fz',q1,q2,q3,q4,q5,q6⟩:=hR.obj 5 e gJ e1 h2;have hN:e.N=20:=zPZ e4;rw[e2] at q1;refine⟨el',fz',?_⟩;rw[q1]
 have:c'=(Lib.pow10Tab.map fun z=>Value.int .u64 z).toArray:=by
  apply zUM;intro i
  cases hi:((Lib.pow10Tab.map fun z=>Value.int .u64 z).toArray)[i]? with
  | none =>
    rw[Array.getElem?_eq_none_iff] at hi ⊢;rw[q2,hN];simpa [Lib.pow10Tab] using hi
  | some v =>
    obtain⟨v',a1,a2⟩:=q4 i v hi;rw[e3,zQI] at a1
    have hv:zN v=true:=by
     rw[zR3,zQD] at hi;obtain⟨z,_,rfl⟩:=zP9.1 hi;rfl
    rw[a1,a2.plain hv]
 rw[this]
theorem zBD (L:Lib Tryz.prog good (qG 10) T IT):Lib Tryz.prog good (qG 10) ((142,⟨[.int .i64],[.str],zKN⟩)::T) IT:=by
 refine L.zIJ 142 _ _ _ (by kernel_rfl) fun x y hF=>?_
 have hF:zKN x=some y:=hF;unfold zKN at hF
 cases hc:(decide (-9223372036854775808<=x)&&decide (x<=9223372036854775807)) with
 | false=>rw[hc] at hF;cases hF
 | true =>
   rw[hc] at hF;cases hF;simp only[zPY,decide_eq_true_eq] at hc;refine⟨[.int .i64 x],.string ⟨(Lib.itoa x).toArray⟩,rfl,rfl,rfl,fun _=>.base _ rfl,fun f H w hg hR hG=>?_⟩;refine (Any.strconv_Itoa Tryz.laysItoa x hc.1 hc.2 w ?_).mono ?_
   ·obtain⟨el,fz,h3⟩:=zGH hg hR hG;refine Eq.trans (congrArg (fun o=>Option.bind o _) (?_:_=some 5)) ?_
    ·kernel_rfl
    ·show (match w.heap[5]? with
      | some (.cells cs _ _)=>some cs
      | _=>none)=_
     rw[h3]
   ·rintro e w' ⟨rfl,k,os,rfl⟩
    exact⟨rfl,rfl,rfl,rfl,by simp[Go.Sort.grow,World.drewN],fun j hj=>by
     show (w.heap++os)[j]?=_
     rw[Array.getElem?_append_left hj]⟩
theorem zA2 (L:Lib Tryz.prog good (qG 10) T IT):Lib Tryz.prog good (qG 10) ((122,⟨[.str],[.int .i64,.nif],zKO⟩)::T) IT:=by
 refine L.zIJ 122 _ _ _ (by kernel_rfl) fun x y hF=>?_
 have hF:zKO x=some y:=hF;unfold zKO at hF
 cases hc:Nat.ble x.size 18 with
 | false=>rw[hc] at hF;cases hF
 | true =>
   rw[hc] at hF
   cases hn:Lib.atoi x.data.toList with
   | none=>rw[hn] at hF;cases hF
   | some n =>
     rw[hn] at hF;cases hF
     refine⟨[.string x],.tuple #[.int .i64 n,.nilIface],rfl,rfl,rfl,fun f=>.tuple rfl fun i v v' h1 h2=>by
      rw[h1] at h2;cases h2;have:zP [Value.int IntKind.i64 n,.nilIface]=true:=rfl
      exact .base _ (xW.1 this v (by
       have:=zQ7 (show ([Value.int IntKind.i64 n,.nilIface]:List Value)[i]?=some v by simpa using h1)
       exact this)),fun f H w hg hR hG=>?_⟩
     refine (Any.strconv_Atoi Tryz.laysAtoi x n (zP8 hc) hn w).mono ?_;rintro e w' ⟨rfl,t,rfl⟩;exact⟨rfl,below_bytesWorld _ _ _ _ (zP0 _)⟩
theorem zCG (L:Lib Tryz.prog good (qG 10) T IT):Lib Tryz.prog good (qG 10) ((118,⟨[.str,.str],[.str],zKP⟩)::T) IT:=by
 refine L.zIJ 118 _ _ _ (by kernel_rfl) fun x y hF=>?_
 obtain⟨s,c⟩:=x;have hF:zKP (s,c)=some y:=hF;unfold zKP at hF
 cases hc:(Nat.ble s.size 9223372036854775807&&(Nat.blt c.size 4294967281&&c.data.toList.all fun b=>Nat.blt b.toNat 128)) with
 | false=>simp only[hc] at hF;cases hF
 | true =>
   simp only[hc,cond_true] at hF;cases hF;simp only[zPY] at hc;refine⟨[.string s,.string c],.string _,rfl,rfl,rfl,fun _=>.base _ rfl,fun f H w hg hR hG=>?_⟩;exact Any.strings_Trim_laid Tryz.laysTrim (by kernel_rfl) s c w (zP8 hc.1) (zP8 hc.2.1) fun j b hb=>zP8 (zP1.1 hc.2.2 b (zQ7 hb))
end
end Go.Proofs.YtdohendjiddokaaGreatDoor
