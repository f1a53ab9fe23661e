/- Functions of the library by their contracts: strconv.Itoa, strconv.Atoi, strings.Trim. Conditions: none. -/
import Derived.Test.YtpnecffgnjijjaaGreatDoorSHL
import Derived.Test.YtpnecffgnjijjaaGreatDoorPLN
import Derived.Lib.SmallJoins
set_option linter.all false
set_option maxRecDepth 10000
namespace Go.Proofs.YtpnecffgnjijjaaGreatDoor
open Go Go.Idl Go.Sv Go.Proofs Go.RowKit Go.Joins
noncomputable section
variable {T:yY}{IT:List (FuncId×zFV)}
def zI3 (n:Int):Option ByteArray:=cond (decide (-9223372036854775808<=n)&&decide (n<=9223372036854775807)) (some ⟨(Lib.itoa n).toArray⟩) none
def zI4 (s:ByteArray):Option (Int×Unit):=cond (Nat.ble s.size 18) (match Lib.atoi s.data.toList with
 | some n=>some (n,())
 | none=>none) none
def H98 (x:ByteArray×ByteArray):Option ByteArray:=cond (Nat.ble x.1.size 9223372036854775807&&(Nat.blt x.2.size 4294967281&&x.2.data.toList.all fun b=>Nat.blt b.toNat 128)) (some ⟨(Lib.trimS x.1.data.toList x.2.data.toList).toArray⟩) none
theorem zEV {f:Inj}{H:IH}{w:World}(hg:GlH H)(hR:Rel Tryz.prog f H w)(hG:uY (qW 10) f):∃ el fz,w.heap[7]?=some (.cells (Lib.pow10Tab.map fun z=>Value.int .u64 z).toArray el fz):=by
 obtain⟨_,h2⟩:=hg 7 gD rfl;obtain⟨e,e1,e2,e3,e4⟩:=dK.1 (hG 7 rfl);obtain⟨c',el',fz',q1,q2,q3,q4,q5,q6⟩:=hR.obj 7 e gD e1 h2;have hN:e.N=20:=zMZ e4;rw[e2] at q1;refine⟨el',fz',?_⟩;rw[q1]
 have:c'=(Lib.pow10Tab.map fun z=>Value.int .u64 z).toArray:=by
  apply zRG;intro i
  cases hi:((Lib.pow10Tab.map fun z=>Value.int .u64 z).toArray)[i]? with
  | none =>
    rw[Array.getElem?_eq_none_iff] at hi ⊢;rw[q2,hN];simpa [Lib.pow10Tab] using hi
  | some v =>
    obtain⟨v',a1,a2⟩:=q4 i v hi;rw[e3,zNY] at a1
    have hv:yF v=true:=by
     rw[zO3,zNC] at hi;obtain⟨z,_,rfl⟩:=zM8.1 hi;rfl
    rw[a1,a2.plain hv]
 rw[this]
theorem zBV (L:Lib Tryz.prog good (qW 10) T IT):Lib Tryz.prog good (qW 10) ((142,⟨[.int .i64],[.str],zI3⟩)::T) IT:=by
 refine L.zG3 142 _ _ _ (by kernel_rfl) fun x y hF=>?_
 have hF:zI3 x=some y:=hF;unfold zI3 at hF
 cases hc:(decide (-9223372036854775808<=x)&&decide (x<=9223372036854775807)) with
 | false=>rw[hc] at hF;cases hF
 | true =>
   rw[hc] at hF;cases hF;simp only[zMY,decide_eq_true_eq] at hc;refine⟨[.int .i64 x],.string ⟨(Lib.itoa x).toArray⟩,rfl,rfl,rfl,fun _=>.base _ rfl,fun f H w hg hR hG=>?_⟩;refine (Any.strconv_Itoa Tryz.laysItoa x hc.1 hc.2 w ?_).mono ?_
   ·obtain⟨el,fz,h3⟩:=zEV hg hR hG;refine Eq.trans (congrArg (fun o=>Option.bind o _) (?_:_=some 7)) ?_
    ·kernel_rfl
    ·show (match w.heap[7]? with
      | some (.cells cs _ _)=>some cs
      | _=>none)=_
     rw[h3]
   ·rintro e w' ⟨rfl,k,os,rfl⟩
    exact⟨rfl,rfl,rfl,rfl,by simp[Go.Sort.grow,World.drewN],fun j hj=>by
     show (w.heap++os)[j]?=_
     rw[Array.getElem?_append_left hj]⟩
theorem zBP (L:Lib Tryz.prog good (qW 10) T IT):Lib Tryz.prog good (qW 10) ((102,⟨[.str],[.int .i64,.nif],zI4⟩)::T) IT:=by
 refine L.zG3 102 _ _ _ (by kernel_rfl) fun x y hF=>?_
 have hF:zI4 x=some y:=hF;unfold zI4 at hF
 cases hc:Nat.ble x.size 18 with
 | false=>rw[hc] at hF;cases hF
 | true =>
   rw[hc] at hF
   cases hn:Lib.atoi x.data.toList with
   | none=>rw[hn] at hF;cases hF
   | some n =>
     rw[hn] at hF;cases hF
     refine⟨[.string x],.tuple #[.int .i64 n,.nilIface],rfl,rfl,rfl,fun f=>.tuple rfl fun i v v' h1 h2=>by
      rw[h1] at h2;cases h2;have:zQ [Value.int IntKind.i64 n,.nilIface]=true:=rfl
      exact .base _ (xO.1 this v (by
       have:=zN5 (show ([Value.int IntKind.i64 n,.nilIface]:List Value)[i]?=some v by simpa using h1)
       exact this)),fun f H w hg hR hG=>?_⟩
     refine (Any.strconv_Atoi Tryz.laysAtoi x n (zM9 hc) hn w).mono ?_;rintro e w' ⟨rfl,t,rfl⟩;exact⟨rfl,below_bytesWorld _ _ _ _ (zM0 _)⟩
theorem zDR (L:Lib Tryz.prog good (qW 10) T IT):Lib Tryz.prog good (qW 10) ((98,⟨[.str,.str],[.str],H98⟩)::T) IT:=by
 refine L.zG3 98 _ _ _ (by kernel_rfl) fun x y hF=>?_
 obtain⟨s,c⟩:=x;have hF:H98 (s,c)=some y:=hF;unfold H98 at hF
 cases hc:(Nat.ble s.size 9223372036854775807&&(Nat.blt c.size 4294967281&&c.data.toList.all fun b=>Nat.blt b.toNat 128)) with
 | false=>simp only[hc] at hF;cases hF
 | true =>
   simp only[hc,cond_true] at hF;cases hF;simp only[zMY] at hc;refine⟨[.string s,.string c],.string _,rfl,rfl,rfl,fun _=>.base _ rfl,fun f H w hg hR hG=>?_⟩;exact Any.strings_Trim_laid Tryz.laysTrim (by kernel_rfl) s c w (zM9 hc.1) (zM9 hc.2.1) fun j b hb=>zM9 (zM1.1 hc.2.2 b (zN5 hb))
end
end Go.Proofs.YtpnecffgnjijjaaGreatDoor
