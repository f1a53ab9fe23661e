/- An ideal interpreter of the model's code: its definitions; the relation of an ideal heap and a world. Conditions: none. -/
import Derived.ControlIn
import Derived.Scope
import GoSem.Machine.Frame
import GoSem.Dispatch
import Derived.RangeFuncRecord
import Derived.OrdersIn
set_option linter.all false
namespace Go.Idl
def zMY:=@Bool.and_eq_true
def zMZ:=@Nat.eq_of_beq_eq_true
def zM0:=@Nat.le_refl
def zM1:=@List.all_eq_true
def zM2:=@List.getElem?_eq_getElem
def zM3:=@List.mem_cons_of_mem
def zM4:=@Nat.lt_of_lt_of_le
def zM5:=@List.mem_cons_self
def zM6:=@List.getElem?_eq_some_iff
def zM7:=@Option.some.injEq
def zM8:=@Option.map_eq_some_iff
def zM9:=@Nat.le_of_ble_eq_true
def zNA:=@List.length_map
def zNB:=@Array.getElem?_eq_some_iff
def zNC:=@List.getElem?_map
def zND:=@Array.getD_eq_getD_getElem?
def zNE:=@Option.map_some
def zNF:=@List.mem_cons
def zNG:=@Array.getElem?_eq_getElem
def zNH:=@List.map_cons
def zNI:=@Option.bind_some
def zNJ:=@Bool.not_eq_true'
def zNK:=@List.length_append
def zNL:=@Nat.ble_eq_true_of_le
def zNM:=@List.mem_append
def zNN:=@List.append_assoc
def zNO:=@List.mem_map
def zNP:=@Nat.le_trans
def zNQ:=@List.flatMap_cons
def zNR:=@List.take_of_length_le
def zNS:=@List.getElem?_cons_zero
def zNT:=@List.mem_singleton
def zNU:=@List.getElem?_set
def zNV:=@Nat.lt_succ_self
def zNW:=@List.cons.injEq
def zNX:=@Bool.and_self
def zNY:=@Nat.zero_add
def zNZ:=@List.length_cons
def zN0:=@Option.some.inj
def zN1:=@Bool.or_eq_true
def zN2:=@Option.isSome_iff_exists
def zN3:=@List.mem_iff_getElem
def zN4:=@Nat.mul_le_mul_right
def zN5:=@List.mem_of_getElem?
def zN6:=@List.map_append
def zN7:=@List.length_eq_zero_iff
def zN8:=@Array.length_toList
def zN9:=@Array.mem_def
def zOA:=@List.length_take
def zOB:=@List.length_set
def zOC:=@List.mem_append_left
def zOD:=@List.all_cons
def zOE:=@List.getD_eq_getElem?_getD
def zOF:=@List.getElem?_eq_none
def zOG:=@List.getElem_mem
def zOH:=@List.drop_zero
def zOI:=@List.ext_getElem?
def zOJ:=@Array.ext'
def zOK:=@List.map_congr_left
def zOL:=@List.getElem?_append_right
def zOM:=@Nat.lt_succ_of_lt
def zON:=@List.getElem?_append_left
def zOO:=@List.getElem?_take
def zOP:=@Nat.min_eq_left
def zOQ:=@List.getElem?_drop
def zOR:=@List.foldl_cons
def zOS:=@Array.eq_empty_of_size_eq_zero
def zOT:=@List.append_nil
def zOU:=@Nat.not_lt_zero
def zOV:=@List.replicate_succ
def zOW:=@Nat.add_assoc
def zOX:=@List.mem_append_right
def zOY:=@Bool.false_eq_true
def zOZ:=@Option.bind_eq_some_iff
def zO0:=@Array.getElem?_setIfInBounds_ne
def zO1:=@Nat.zero_le
def zO2:=@List.take_succ_cons
def zO3:=@List.getElem?_toArray
def zO4:=@Option.getD_some
def zO5:=@List.map_take
def zO6:=@List.map_map
def zO7:=@List.map_nil
def zO8:=@List.set_eq_take_append_cons_drop
def zO9:=@Bool.and_true
def zPA:=@List.map_drop
def zPB:=@Array.all_eq_true_iff_forall_mem
def zPC:=@Array.mem_append
def zPD:=@List.cons_append
def zPE:=@List.take_length
def zPF:=@Array.foldl_toList
def zPG:=@List.mem_filterMap
def zPH:=@List.mem_range
def zPI:=@Bool.not_eq_false'
def zPJ:=@List.mk_mem_zipIdx_iff_getElem?
def zPK:=@Nat.add_mul
def zPL:=@Nat.add_zero
def zPM:=@Bool.or_eq_false_iff
def zPN:=@List.size_toArray
def zPO:=@Int.toNat_natCast
def zPP:=@Array.toList_map
def zPQ:=@List.length_drop
def zPR:=@Nat.add_comm
def zPS:=@Nat.succ_mul
def zPT:=@Bool.false_ne_true
def zPU:=@List.length_replicate
def zPV:=@Array.toList_setIfInBounds
def zPW:=@Bool.false_or
def zPX:=@Bool.true_and
def zPY:=@List.any_eq_false
def zPZ:=@List.getElem?_eq_none_iff
def zP0:=@List.drop_eq_getElem_cons
def zP1:=@List.mem_of_mem_take
def zP2:=@List.mem_of_mem_drop
def zP3:=@List.filter_cons
def zP4:=@List.mem_flatten
def zP5:=@List.isEmpty_iff
def zP6:=@Array.toList_filter
def zP7:=@List.flatMap_append
def zP8:=@List.getElem?_cons_succ
def zP9:=@List.getElem?_replicate
def zQA:=@List.mem_singleton_self
def zQB:=@Nat.lt_irrefl
def zQC:=@List.nil_append
def zQD:=@List.take_take
def zQE:=@Nat.zero_mul
def zQF:=@List.zipIdx_cons
def zQG:=@List.countP_cons
def zQH:=@Nat.min_eq_right
def zQI:=@Bool.not_eq_true
def zQJ:=@List.nodup_iff_pairwise_ne
def zQK:=@Nat.le_succ
def zQL:=@List.mem_map_of_mem
def zQM:=@List.countP_eq_zero
def zQN:=@Nat.mul_eq_zero
def zQO:=@List.all_append
def zQP:=@Option.isSome_some
def zQQ:=@Array.getElem?_replicate
def zQR:=@Bool.or_true
def zQS:=@List.eq_of_mem_replicate
def zQT:=@List.drop_drop
def zQU:=@Nat.add_sub_cancel_left
def zQV:=@List.flatten_cons
def zQW:=@Array.getElem?_eq_none
def zQX:=@List.drop_of_length_le
def zQY:=@Bool.not_true
def zQZ:=@Bool.or_false
def zQ0:=@Nat.succ_lt_succ
def zQ1:=@Nat.le_of_not_lt
def zQ2:=@List.take_append_drop
def zQ3:=@List.countP_le_length
def zQ4:=@Array.getElem?_toList
def zQ5:=@Nat.beq_refl
def zQ6:=@List.getElem?_append
def zQ7:=@Nat.min_zero
def zQ8:=@List.length_nil
def zQ9:=@List.mem_filter
def zRA:=@Option.map_none
def zRB:=@List.getElem?_set_ne
def zRC:=@List.getElem?_range
def zRD:=@List.filterMap_cons
def zRE:=@List.mapM_cons
def zRF:=@Bool.not_false
def zRG:=@Array.ext_getElem?
def zRH:=@Option.isSome_none
def zRI:=@Bool.eq_false_iff
def zRJ:=@List.take_add_one
open Go
variable {c:Code}
section
variable {F:Fence}{n:Nat}{P:Program}{b:Frame}{a:Act}{k:List Item}{cs:List Frame}{w:World}{Q:Exit->Act->World->Prop}
theorem jL:step P (lone (b.atR a (.code (.scope c)::k)) cs w)=.next (lone (b.atR a (.code c::.inScope c::k)) cs w):=step_lone_go (by simp[stepG,stepG.exec,Frame.atR])
theorem qFS:step P (lone (b.atR a (.inScope c::k)) cs w)=.next (lone (b.atR a k) cs w):=step_lone_go (by simp[stepG,stepG.exec,Frame.atR])
theorem wG (h:c.wpIn F n P (Exit.noGoto Q) a w):(Code.scope c).wpIn F n P Q a w:=by
 intro b k cs hro hb hr;have h0:(lone (b.atR a (.code (.scope c)::k)) cs w).fenced P F:=fenced_calm hb hr rfl;obtain⟨e,a₁,w₁,hq,harr⟩:=h b (.inScope c::k) cs hro hb hr
 cases e with
 | normal=>exact⟨.normal,a₁,w₁,hq,.head h0 jL (StepsIn.trans harr (.one (fenced_calm hb hr rfl) qFS))⟩
 | exit id =>
   have hx:exitTo id (.inScope c::k)=exitTo id k:=by simp[exitTo]
   exact⟨.exit id,a₁,w₁,hq,fun k' hk=>.head h0 jL (harr.1 k' (by rw[hx];exact hk)),
    fun hr' hk=>let ⟨k₁,h1,h2⟩:=harr.2 hr' (by rw[hx];exact hk);⟨k₁,h1,.head h0 jL h2⟩⟩
 | goto l=>exact hq.elim
 | ret=>exact⟨_,a₁,w₁,hq,.of_steps (.one h0 jL) harr⟩
 | panic ch=>exact⟨_,a₁,w₁,hq,.of_steps (.one h0 jL) harr⟩
 | outgrown=>exact⟨_,a₁,w₁,hq,.of_steps (.one h0 jL) harr⟩
end
end Go.Idl
namespace Go.Idl
def zCP:List (Nat×Nat):=[(7,20)]
noncomputable section
inductive Tr (α:Type):Type where
 | nil:Tr α
 | node (v:Option α) (l r:Tr α):Tr α
namespace Tr
variable {α:Type}
def get (t:Tr α):Nat->Option α :=
 Tr.rec (fun _=>none) (fun v _ _ ihl ihr n=>Nat.casesOn n v fun m=>cond (Nat.beq (m % 2) 0) (ihl (m / 2)) (ihr (m / 2))) t
theorem get_nil (n:Nat):(Tr.nil:Tr α).get n=none:=rfl
theorem dA (v:Option α)(l r:Tr α):(Tr.node v l r).get 0=v:=rfl
theorem wR (v:Option α)(l r:Tr α)(n:Nat):(Tr.node v l r).get (n+1)=if n % 2=0 then l.get (n / 2) else r.get (n / 2):=by
 show cond (Nat.beq (n % 2) 0) (l.get (n / 2)) (r.get (n / 2))=_;by_cases h:n % 2=0
 ·rw[if_pos h,h];rfl
 ·rw[if_neg h];have:n % 2=1:=by omega
  rw[this];rfl
def qOJ (f:Nat):Tr α->Nat->α->Tr α :=
 Nat.rec (fun t _ _=>t) (fun _ ih t n a=>Tr.casesOn t
  (Nat.casesOn n (.node (some a) .nil .nil) fun m=>cond (Nat.beq (m % 2) 0) (.node none (ih .nil (m / 2) a) .nil) (.node none .nil (ih .nil (m / 2) a)))
  (fun v l r=>Nat.casesOn n (.node (some a) l r) fun m=>cond (Nat.beq (m % 2) 0) (.node v (ih l (m / 2) a) r) (.node v l (ih r (m / 2) a)))) f
theorem qG9 (f:Nat)(a:α):qOJ (f+1) .nil 0 a=.node (some a) .nil .nil:=rfl
theorem qC6 (f:Nat)(v:Option α)(l r:Tr α)(a:α):qOJ (f+1) (.node v l r) 0 a=.node (some a) l r:=rfl
theorem rZ (n:Nat):Nat.beq (n % 2) 0=decide (n % 2=0):=by
 by_cases h:n % 2=0
 ·rw[h];rfl
 ·rw[decide_eq_false h];have:n % 2=1:=by omega
  rw[this];rfl
theorem oC (f n:Nat)(a:α):qOJ (f+1) .nil (n+1) a=if n % 2=0 then .node none (qOJ f .nil (n / 2) a) .nil else .node none .nil (qOJ f .nil (n / 2) a):=by
 show cond (Nat.beq (n % 2) 0) (Tr.node none (qOJ f .nil (n / 2) a) .nil) (Tr.node none .nil (qOJ f .nil (n / 2) a))=_;rw[rZ];by_cases h:n % 2=0 <;> simp[h]
theorem dU (f n:Nat)(v:Option α)(l r:Tr α)(a:α):qOJ (f+1) (.node v l r) (n+1) a=if n % 2=0 then .node v (qOJ f l (n / 2) a) r else .node v l (qOJ f r (n / 2) a):=by
 show cond (Nat.beq (n % 2) 0) (Tr.node v (qOJ f l (n / 2) a) r) (Tr.node v l (qOJ f r (n / 2) a))=_;rw[rZ];by_cases h:n % 2=0 <;> simp[h]
def set (t:Tr α)(n:Nat)(a:α):Tr α:=qOJ (n+1) t n a
theorem q0R (f:Nat):∀ (t:Tr α) (n m:Nat) (a:α),n < f->(qOJ f t n a).get m=if m=n then some a else t.get m:=by
 induction f with
 | zero=>intro t n m a h;omega
 | succ f ih =>
   intro t n m a h
   cases t with
   | nil =>
     cases n with
     | zero=>cases m <;> simp[qG9,dA,wR,get_nil]
     | succ n =>
       have hlt:n / 2 < f:=by omega
       by_cases hn:n % 2=0
       ·rw[oC,if_pos hn]
        cases m with
        | zero=>simp[dA,get_nil]
        | succ m =>
          rw[wR];by_cases hm:m % 2=0
          ·rw[if_pos hm,ih _ _ _ _ hlt];by_cases e:m=n
           ·simp[e]
           ·rw[if_neg (by omega),if_neg (by omega),get_nil,get_nil]
          ·rw[if_neg hm,if_neg (by omega),get_nil,get_nil]
       ·rw[oC,if_neg hn]
        cases m with
        | zero=>simp[dA,get_nil]
        | succ m =>
          rw[wR];by_cases hm:m % 2=0
          ·rw[if_pos hm,if_neg (by omega),get_nil,get_nil]
          ·rw[if_neg hm,ih _ _ _ _ hlt];by_cases e:m=n
           ·simp[e]
           ·rw[if_neg (by omega),if_neg (by omega),get_nil,get_nil]
   | node v l r =>
     cases n with
     | zero=>cases m <;> simp[qC6,dA,wR]
     | succ n =>
       have hlt:n / 2 < f:=by omega
       by_cases hn:n % 2=0
       ·rw[dU,if_pos hn]
        cases m with
        | zero=>simp[dA]
        | succ m =>
          rw[wR,wR];by_cases hm:m % 2=0
          ·rw[if_pos hm,if_pos hm,ih _ _ _ _ hlt];by_cases e:m=n
           ·simp[e]
           ·rw[if_neg (by omega),if_neg (by omega)]
          ·rw[if_neg hm,if_neg hm,if_neg (by omega)]
       ·rw[dU,if_neg hn]
        cases m with
        | zero=>simp[dA]
        | succ m =>
          rw[wR,wR];by_cases hm:m % 2=0
          ·rw[if_pos hm,if_pos hm,if_neg (by omega)]
          ·rw[if_neg hm,if_neg hm,ih _ _ _ _ hlt];by_cases e:m=n
           ·simp[e]
           ·rw[if_neg (by omega),if_neg (by omega)]
theorem zGK (t:Tr α)(n m:Nat)(a:α):(t.set n a).get m=if m=n then some a else t.get m:=q0R _ t n m a (zNV n)
end Tr
structure IH where
 tr:Tr Obj
 size:Nat
 base:Nat
 log:List Nat
def xB:Obj:=.pending #[] 0
def IH.get (H:IH)(b:Nat):Option Obj:=H.tr.get b
def IH.put (H:IH)(b:Nat)(o:Obj):IH:={ H with tr:=H.tr.set b o,log:=b::H.log }
def IH.push (H:IH)(o:Obj):IH:={ H with tr:=H.tr.set H.size o,size:=H.size+1 }
def oneCell:Value->Bool
 | .agg _ | .tuple _=>false
 | _=>true
def aZ (fz:Nat×Nat):Bool:=fz.2<=fz.1
def IH.load (H:IH)(b i:Nat):Option Value :=
 match H.get b with
 | some (.cells c _ _)=>c[i]?
 | _=>none
def IH.loads (H:IH)(b i n:Nat):Option (List Value) :=
 match H.get b with
 | some (.cells c _ _)=>if i+n<=c.size then some ((c.toList.drop i).take n) else none
 | _=>none
def overwrite (l:List Value)(i:Nat)(vs:List Value):List Value:=l.take i++vs++l.drop (i+vs.length)
def IH.stores (H:IH)(b i:Nat)(vs:List Value):Option IH :=
 match H.get b with
 | some (.cells c el fz) =>
   if i+vs.length<=c.size&&aZ fz&&decide (H.base<=b)&&vs.all oneCell then some (H.put b (.cells (overwrite c.toList i vs).toArray el fz)) else none
 | _=>none
def jZ {α:Type}(p:α->Bool)(l:List α):Bool:=List.rec true (fun a _ ih=>cond (p a) ih false) l
theorem q00 {α:Type}(p:α->Bool):jZ p []=true:=rfl
theorem vD {α:Type}(p:α->Bool)(a:α)(l:List α):jZ p (a::l)=(p a&&jZ p l):=by
 show cond (p a) (jZ p l) false=_;cases p a <;> rfl
theorem xN {α:Type}{p:α->Bool}{l:List α}:jZ p l=true ↔ ∀ a∈l,p a=true:=by
 induction l with
 | nil=>simp[q00]
 | cons a l ih=>simp[vD,ih]
def zJ {α:Type}(l:List α):Nat->Option α :=
 List.rec (fun _=>none) (fun a _ ih n=>Nat.casesOn n (some a) fun m=>ih m) l
theorem qG {α:Type}(l:List α):∀ n,zJ l n=l[n]?:=by
 induction l with
 | nil=>intro n;simp;rfl
 | cons a l ih =>
   intro n
   cases n with
   | zero=>simp;rfl
   | succ n => have:zJ (a::l) (n+1)=zJ l n:=rfl
               rw[this,ih];simp
def yQ {α:Type}(l:List α):Nat->α->List α :=
 List.rec (fun _ _=>[]) (fun a t ih n v=>Nat.casesOn n (v::t) fun m=>a::ih m v) l
theorem qV {α:Type}(l:List α):∀ n v,yQ l n v=l.set n v:=by
 induction l with
 | nil=>intro n v;simp;rfl
 | cons a l ih =>
   intro n v
   cases n with
   | zero=>simp;rfl
   | succ n => have:yQ (a::l) (n+1) v=a::yQ l n v:=rfl
               rw[this,ih];simp
def kP {α β:Type}(g:α->β)(l:List α):List β:=List.rec [] (fun a _ ih=>g a::ih) l
theorem xC {α β:Type}(g:α->β)(l:List α):kP g l=l.map g:=by
 induction l with
 | nil=>rfl
 | cons a l ih=>show g a::kP g l=_;rw[ih];rfl
def qEO {α:Type}(l m:List α):List α:=List.rec m (fun a _ ih=>a::ih) l
theorem aS {α:Type}(l m:List α):qEO l m=l++m:=by
 induction l with
 | nil=>rfl
 | cons a l ih=>show a::qEO l m=_;rw[ih];rfl
def zAC:Fn->Bool
 | .func _=>true
 | _=>false
def kC (n:Nat):Value->Bool :=
 Nat.rec (fun _=>false) (fun _ ih v=>match v with
  | .bool _ | .int _ _ | .float _ _ | .complex _ _ _ | .string _ | .nilFunc | .nilIface=>true
  | .pointer a=>a.isNone
  | .slice a l c=>a.isNone&&(Nat.beq l 0&&Nat.beq c 0)
  | .map r | .chan r=>r.isNone
  | .func fn first captured=>zAC fn&&(jZ ih first.toList&&jZ ih captured.toList)
  | .iface _ v=>ih v
  | .agg cs=>jZ ih cs.toList
  | .tuple _=>false) n
def yF (v:Value):Bool:=kC 3 v
def zQ (l:List Value):Bool:=jZ yF l
def yB {α:Type}(P:Program)(s:Sem α):Option α :=
 Sem.rec (motive:=fun _=>Option α) (fun a=>some a) (fun _ _ _ _=>none) (fun _ _ _ _ _=>none) (fun _ _ _=>none) (fun _ _ _=>none) (fun _ _ _ _=>none) (fun _ _ _=>none)
  (fun _ _ _=>none) (fun _ _ _ _=>none) (fun q _ ih=>cond q.forced (ih 0) none) (fun _ _ _=>none) (fun _ ih=>ih P) (fun _ _ ih=>ih) (fun _=>none) s
abbrev Env:=List Value
def unk:Value:=.tuple #[.tuple #[]]
def Env.val (env:Env):Operand->Value
 | .tmp t=>(zJ env t).getD undef
 | .const v=>v
 | .global g=>.pointer (some ⟨g,0,none⟩)
 | .func f=>.func (.func f) #[] #[]
def Env.zFT (env:Env)(d:Option Tmp)(v:Value):Env :=
 match d with
 | some t=>yQ env t v
 | none=>env
def qV6 (want:Bool):Value->Option Bool
 | .bool b=>some (b==want)
 | .tuple vs=>cond vs.isEmpty (some false) none
 | _=>none
def kH (ops:Array Oper)(o:Oper)(env:Env):Option Bool :=
 match o.guard with
 | none=>some true
 | some (j,want)=>match (ops[j]?).bind (·.dst) with
   | some t=>match zJ env t with
     | some v=>qV6 want v
     | none=>none
   | none=>some false
def qPK (P:Program)(t:TypeId):Option Bool :=
 match P.underlying t with
 | some (.struct _) | some (.array _ _)=>some true
 | some _=>some false
 | none=>none
def fD (P:Program)(t:TypeId):Option Value:=(P.info? t).bind (·.zero)
def qCC (P:Program)(t:TypeId):Option Value :=
 match fD P t with
 | some z=>if zQ z.cells.toList then some z else none
 | none=>none
def szT (P:Program)(t:TypeId):Option Nat:=(P.info? t).map (·.size)
inductive zFH where
 | val (v:Value) (H:IH)
 | enter (f:FuncId) (args:List Value) (H:IH)
 | round (l:Nat) (args:List Value) (H:IH)
 | choice (n:Nat) (k:Nat->Option (Value×IH))
def zFH.ofO (H:IH):Option Value->Option zFH
 | some v=>some (.val v H)
 | none=>none
def uW (P:Program)(t:TypeId)(a:Value)(H:IH):Option Value :=
 match a with
 | .pointer (some ⟨b,i,none⟩) =>
   match qPK P t with
   | some true=>match szT P t with
     | some n=>match H.loads b i n with
       | some l=>some (.agg l.toArray)
       | none=>none
     | none=>none
   | some false=>H.load b i
   | none=>none
 | _=>none
def gY (P:Program)(t:TypeId)(a v:Value)(H:IH):Option IH :=
 match a with
 | .pointer (some ⟨b,i,none⟩) =>
   if szT P t=some v.cells.size then H.stores b i v.cells.toList else none
 | _=>none
def zI:Value->Bool
 | .tuple _=>false
 | _=>true
def qI1 (P:Program)(t:TypeId)(parts:List (Nat×Value)):Option Value :=
 match qCC P t,P.underlying t with
 | some zero,some (.struct fields) =>
   match fields.toList.mapM (fun f=>(szT P f.type).map fun s=>(f.offset,s)) with
   | some places=>if parts.all (fun p=>zI p.2) then (Instr.fill (fun i=>places.toArray[i]?) zero.cells parts).map .agg else none
   | none=>none
 | some zero,some (.array _ elem) =>
   match szT P elem with
   | some size=>if parts.all (fun p=>zI p.2) then (Instr.fill (fun i=>some (i*size,size)) zero.cells parts).map .agg else none
   | none=>none
 | _,_=>none
def aF (P:Program)(elem:TypeId)(n:Nat):Option (Array Value) :=
 if n=0 then some #[] else (qCC P elem).map fun z=>(Array.range n).map fun i=>z.cells[i % z.cells.size]!
def kJ (P:Program)(t:TypeId)(len:Nat)(parts:List (Nat×Value))(H:IH):Option zFH :=
 match P.underlying t with
 | some (.slice elem) =>
   match szT P elem with
   | some size =>
     if len*size<=65536&&parts.all (fun p=>zI p.2) then
      match aF P elem (len*size) with
      | some z=>match Instr.fill (fun i=>some (i*size,size)) z parts with
        | some cells=>some (.val (.slice (some ⟨H.size,0,none⟩) len len) (H.push (.cells cells elem)))
        | none=>none
      | none=>none
     else none
   | none=>none
 | _=>none
def jG (P:Program)(t:TypeId)(l c:Value)(H:IH):Option zFH :=
 match P.underlying t,l,c with
 | some (.slice elem),.int _ l,.int _ c =>
   match P.info? elem with
   | some i =>
     if 0<=l&&l<=c&&(i.bytes:Int)*c<=2 ^ 47&&c<=2 ^ 47 then
      match aF P elem (c.toNat*i.size) with
      | some z=>some (.val (.slice (some ⟨H.size,0,none⟩) l.toNat c.toNat) (H.push (.cells z elem)))
      | none=>none
     else none
   | none=>none
 | _,_,_=>none
def gF (d:Nat)(most:Nat):Option Value->Option Nat
 | none=>some d
 | some (.int _ i)=>if 0<=i&&i<=(most:Int) then some i.toNat else none
 | some _=>none
def zN:Nat×Nat:=(1,1)
def wL (P:Program)(t:TypeId)(x:Value)(lo hi mx:Option Value):Option Value :=
 match P.underlying t,x,mx with
 | some (.slice elem),.slice none 0 0,none =>
   match szT P elem,gF 0 0 hi with
   | some _,some h=>match gF 0 h lo with
     | some _=>some (.slice none 0 0)
     | none=>none
   | _,_=>none
 | some (.slice elem),.slice (some ⟨b,o,sp⟩) len cap,none =>
   match szT P elem,gF len cap hi with
   | some size,some h=>match gF 0 h lo with
     | some l=>if sp.all (·==elem)&&Nat.ble h cap then some (.slice (some ⟨b,if cap=l then o else o+l*size,sp⟩) (h - l) (cap - l)) else none
     | none=>none
   | _,_=>none
 | some (.array n elem),.pointer (some ⟨b,o,none⟩),none =>
   match szT P elem,gF n n hi with
   | some size,some h=>match gF 0 h lo with
     | some l=>some (.slice (some ⟨b,if n=l then o else o+l*size,none⟩) (h - l) (n - l))
     | none=>none
   | _,_=>none
 | _,_,_=>none
def dJ (P:Program)(s:TypeId)(x:Value)(fd:Nat):Option Value :=
 match P.underlying s,x with
 | some (.struct fields),.pointer (some ⟨b,o,none⟩) =>
   match fields[fd]? with
   | some f=>match szT P f.type with
     | some sz=>if sz=0 then none else some (.pointer (some ⟨b,o+f.offset,none⟩))
     | none=>none
   | none=>none
 | _,_=>none
def qQ2 (P:Program)(t:TypeId)(cs:Array Value)(off:Nat):Option Value :=
 match qPK P t with
 | some true=>match szT P t with
   | some n=>if off+n<=cs.size then some (.agg (cs.extract off (off+n))) else none
   | none=>none
 | some false=>cs[off]?
 | none=>none
def zEE (P:Program)(t:TypeId)(x:Value)(fd:Nat):Option Value :=
 match P.underlying t,x with
 | some (.struct fields),.agg cs=>match fields[fd]? with
   | some f=>qQ2 P f.type cs f.offset
   | none=>none
 | _,_=>none
def wW (P:Program)(t:TypeId)(x ix:Value):Option Value :=
 match P.underlying t,x,ix with
 | some (.array n elem),.pointer (some ⟨b,o,none⟩),.int _ i =>
   match szT P elem with
   | some size=>if 0<=i&&i < (n:Int) then some (.pointer (some ⟨b,o+i.toNat*size,none⟩)) else none
   | none=>none
 | some (.slice elem),.slice (some ⟨b,o,_⟩) len _,.int _ i =>
   match szT P elem with
   | some size=>if 0<=i&&i < (len:Int) then some (.pointer (some ⟨b,o+i.toNat*size,none⟩)) else none
   | none=>none
 | _,_,_=>none
def sH (P:Program)(t:TypeId)(x ix:Value):Option Value :=
 match P.underlying t,x,ix with
 | some (.array n elem),.agg cs,.int _ i =>
   match szT P elem with
   | some size=>if 0<=i&&i < (n:Int) then qQ2 P elem cs (i.toNat*size) else none
   | none=>none
 | _,_,_=>none
def mP (P:Program)(kt:TypeId)(k:Value)(es:List MapEntry):Option (Option Nat) :=
 if yF k&&es.all (fun e=>yF e.key) then
  match yB P (Instr.checkKey es.isEmpty 10000 kt k),yB P (Instr.checkKey false 10000 kt k),yB P (Instr.findKey kt k es) with
  | some _,some _,some r=>some (r.map (·.1))
  | _,_,_=>none
 else none
def q4P (ok:Bool)(v:Value)(b:Bool):Value:=cond ok (.tuple #[v,.bool b]) v
def qAS (P:Program)(t:TypeId)(x k:Value)(ok:Bool)(H:IH):Option Value :=
 match P.underlying t,x with
 | some (.map kt et),.map (some r) =>
   match H.get r with
   | some (.map es _)=>match mP P kt k es.toList with
     | some (some i)=>match es[i]? with
       | some e=>some (q4P ok e.val true)
       | none=>none
     | some none=>match fD P et with
       | some z=>if yF z then some (q4P ok z false) else none
       | none=>none
     | none=>none
   | _=>none
 | _,_=>none
def jM (P:Program)(t:TypeId)(x k v:Value)(H:IH):Option IH :=
 match P.underlying t,x with
 | some (.map kt _),.map (some r) =>
   match H.get r with
   | some (.map es clock) =>
     if decide (H.base<=r)&&zI v then
      match mP P kt k es.toList with
      | some (some i)=>match es[i]? with
        | some e=>if Instr.sameBits 10000 e.key k then some (H.put r (.map (es.modify i fun e=>{ e with key:=k,val:=v }) clock)) else none
        | none=>none
      | some none=>some (H.put r (.map (es.push { key:=k,val:=v,born:=clock }) (clock+1)))
      | none=>none
     else none
   | _=>none
 | _,_=>none
def rY (P:Program)(t:TypeId)(x:Value)(H:IH):Option zFH :=
 match P.underlying t,x with
 | some .string,.string s=>some (.val (.pointer (some ⟨H.size,0,none⟩)) (H.push (.stringIter s 0)))
 | some (.map _ _),.map (some m)=>match H.get m with
   | some (.map _ clock)=>some (.val (.pointer (some ⟨H.size,0,none⟩)) (H.push (.mapIter (some m) clock #[] 0)))
   | _=>none
 | _,_=>none
def insertSorted (n:Nat):List Nat->List Nat
 | []=>[n]
 | m::l=>if n < m then n::m::l else m::insertSorted n l
def qHA (m r since:Nat)(seen:Array Nat)(left:Array MapEntry)(H:IH):Option zFH :=
 if left.isEmpty then some (.val (.tuple #[.bool false]) (H.put r (.mapIter (some m) since seen 0)))
 else some (.choice left.size fun i=>match left[i]? with
  | some e=>if !yF e.key then none else some (.tuple #[.bool true,e.key,e.val],H.put r (.mapIter (some m) since (insertSorted e.born seen.toList).toArray (e.born+1)))
  | none=>none)
def qC9 (x:Value)(isString:Bool)(H:IH):Option zFH :=
 match x with
 | .pointer (some ⟨r,0,none⟩) =>
   match H.get r,isString with
   | some (.stringIter s pos),true =>
     if decide (H.base<=r) then
      if pos < s.size then
       some (.val (.tuple #[.bool true,goInt pos,.int .i32 (Utf8.decode s pos).1]) (H.put r (.stringIter s (pos+(Utf8.decode s pos).2))))
      else some (.val (.tuple #[.bool false]) H)
     else none
   | some (.mapIter (some m) since seen _),false =>
     match H.get m with
     | some (.map es clock) =>
       if decide (H.base<=r)&&clock==since&&es.all (fun e=>e.born < since) then
        qHA m r since seen (es.filter fun e=>!seen.contains e.born) H
       else none
     | _=>none
   | _,_=>none
 | _=>none
def zEF (x:Value)(H:IH):Option Value :=
 match x with
 | .pointer (some ⟨r,0,none⟩) =>
   match H.get r with
   | some (.mapIter (some m) since _ (last+1))=>match H.get m with
     | some (.map es clock)=>if clock==since then (match es.find? (·.born==last) with
       | some e=>if yF e.key then some (.tuple #[e.key,e.val]) else none
       | none=>none) else none
     | _=>none
   | _=>none
 | _=>none
def qVG (P:Program)(t:TypeId):Value->Value->Option Bool
 | .pointer (some a),.pointer (some b) =>
   match P.underlying t with
   | some (.pointer el)=>match szT P el with
     | some n=>if n != 0&&a.block==b.block&&a.spot.isNone&&b.spot.isNone then some (a.off==b.off) else none
     | none=>none
   | _=>none
 | _,_=>none
def uG:Value->Value->Option Bool
 | .pointer none,.pointer b | .pointer b,.pointer none=>some b.isNone
 | .slice none _ _,.slice b _ _ | .slice b _ _,.slice none _ _=>some b.isNone
 | .map none,.map b | .map b,.map none=>some b.isNone
 | .nilFunc,.nilFunc=>some true
 | .nilFunc,.func _ _ _ | .func _ _ _,.nilFunc=>some false
 | _,_=>none
def zP:List Value->Option (List UInt8)
 | []=>some []
 | .int .u8 n::l=>(zP l).map (UInt8.ofNat n.toNat::·)
 | _=>none
def xZ:Value->Option Nat
 | .slice _ n _=>some n
 | .string s=>some s.size
 | _=>none
def wK (size n:Nat)(H:IH):Value->Option (List Value)
 | .slice (some ⟨b,o,_⟩) _ _=>H.loads b o (n*size)
 | .slice none _ _=>if n=0 then some [] else none
 | .string s=>some (((s.extract 0 n).data.toList).map fun b=>.int .u8 b.toNat)
 | _=>none
def kX (size n:Nat)(H:IH)(x:Value):Option (List Value):=if n=0 then (if (xZ x).isSome then some [] else none) else wK size n H x
def qJL (elem:TypeId)(H:IH):Option Addr->Option IH
 | none=>some H
 | some ⟨_,_,none⟩=>some H
 | some ⟨b,_,some el⟩=>match H.get b with
   | some (.cells _ el' fz)=>if aZ fz&&decide (H.base<=b)&&el==elem&&el'==elem then some (H.put b xB) else none
   | _=>none
def qS2 (size:Nat):Value->Bool
 | .string _=>Nat.beq size 1
 | _=>true
def qLM (P:Program)(elem:TypeId)(info:TypeInfo)(xd:TypeDesc)(x:Value)(H:IH):Option (Nat×List Value) :=
 match xd with
 | .int _=>(match x with
   | .int _ l=>if 0<=l&&l<=65536&&l.toNat*info.bytes<=2 ^ 40 then
      (if l.toNat*info.size=0 then some (l.toNat,[]) else (qCC P elem).map fun z=>(l.toNat,(Builtin.zeroCells z.cells l.toNat).toList)) else none
   | _=>none)
 | _=>(match xZ x with
   | some n=>cond (qS2 info.size x) ((kX info.size n H x).map fun l=>(n,l)) none
   | none=>none)
def qLJ (elem:TypeId)(size:Nat)(base:Option Addr)(len cap need:Nat)(new:List Value)(H:IH):Option zFH :=
 match base with
 | some a=>if a.spot.all (·==elem) then
    (if new.isEmpty then some (.val (.slice base need cap) H) else match H.stores a.block (a.off+len*size) new with
      | some H'=>some (.val (.slice base need cap) H')
      | none=>none) else none
 | none=>if len==0&&cap==0 then some (.val (.slice none 0 0) H) else none
def qSA (P:Program)(elem:TypeId)(info:TypeInfo)(base:Option Addr)(len cap need:Nat)(new:List Value)(H:IH):Option zFH :=
 if need<=2 ^ 40&&need*info.bytes<=2 ^ 45&&new.all oneCell&&((fD P elem).map (·.cells.size))==some info.size then
  match wK info.size len H (.slice base len cap),qJL elem H base with
  | some old,some H'=>some (.val (.slice (some ⟨H'.size,0,some elem⟩) need need) (H'.push (.cells (old++new).toArray elem zN)))
  | _,_=>none
 else none
def wD (P:Program)(elem:TypeId)(info:TypeInfo)(base:Option Addr)(len cap:Nat)(H:IH)(r:Option (Nat×List Value)):Option zFH :=
 match r with
 | some (n,new)=>if len+n<=cap then qLJ elem info.size base len cap (len+n) new H else qSA P elem info base len cap (len+n) new H
 | none=>none
def uV (P:Program)(argTypes:Array TypeId)(args:List Value)(H:IH):Option zFH :=
 match argTypes.toList,args with
 | [st,xt],[.slice base len cap,x] =>
   match P.underlying st with
   | some (.slice elem) =>
     match P.info? elem,P.underlying xt with
     | some info,some xd=>wD P elem info base len cap H (qLM P elem info xd x H)
     | _,_=>none
   | _=>none
 | _,_=>none
def wZ (base:Option Addr)(n:Nat)(l:List Value)(H:IH):Option zFH :=
 match base with
 | some a=>if l.isEmpty then some (.val (goInt n) H) else match H.stores a.block a.off l with
   | some H'=>some (.val (goInt n) H')
   | none=>none
 | none=>some (.val (goInt n) H)
def qDG (P:Program)(argTypes:Array TypeId)(args:List Value)(H:IH):Option zFH :=
 match argTypes.toList,args with
 | [st,_],[.slice base qQG _,x] =>
   match P.underlying st with
   | some (.slice elem) =>
     match szT P elem,xZ x with
     | some size,some m =>
       match kX size (Nat.min m qQG) H x with
       | some l=>wZ base (Nat.min m qQG) l H
       | none=>none
     | _,_=>none
   | _=>none
 | _,_=>none
def qFF (P:Program)(src dst:TypeId)(x:Value)(H:IH):Option Value :=
 match x with
 | .pointer (some ⟨b,o,none⟩) =>
   match H.get b with
   | some (.cells c el fz) =>
     match P.underlying src,P.underlying dst with
     | some (.pointer t),some .unsafePointer=>match szT P t with
       | some n=>if n != 0&&decide (o < c.size) then some x else none
       | none=>none
     | some .unsafePointer,some (.pointer u)=>match szT P u with
       | some n=>if n != 0&&fz==(0,0)&&liesAt P P.depth el (c.size / P.cellsOf el) o u 1 then some x else none
       | none=>none
     | _,_=>none
   | _=>none
 | _=>none
def xM (P:Program)(argTypes:Array TypeId)(args:List Value)(H:IH):Option zFH :=
 match argTypes[0]?,args with
 | some pt,[.pointer none,.int _ n]=>if n=0&&(P.underlying pt).isSome then some (.val (.string .empty) H) else none
 | some pt,[.pointer (some ⟨b,o,none⟩),.int _ n] =>
   match P.underlying pt with
   | some (.pointer u) =>
     if n=0 then some (.val (.string .empty) H)
     else if 0 < n&&n<=2 ^ 60 then
      match H.get b with
      | some (.cells c el fz) =>
        if aZ fz&&P.cellsOf el==1&&sameLayout P P.depth el u&&decide (H.base<=b) then
         match (H.loads b o n.toNat).bind zP with
         | some bs=>some (.val (.string ⟨bs.toArray⟩) (H.put b (.cells c el (0,1))))
         | none=>none
        else none
      | _=>none
     else none
   | _=>none
 | _,_=>none
def oJ (P:Program)(ts:Array TypeId)(args:List Value)(H:IH):Option zFH :=
 match (ts[0]?).bind P.underlying,args with
  | some (.slice _),[.slice _ n _]=>some (.val (goInt n) H)
  | some (.map _ _),[.map (some r)]=>match H.get r with
    | some (.map es _)=>some (.val (goInt es.size) H)
    | _=>none
  | some (.array n _),[_]=>some (.val (goInt n) H)
  | _,_=>none
def yE (P:Program)(b:Builtin)(c:Call)(args:List Value)(H:IH):Option zFH :=
 match b with
 | .append=>uV P c.argTypes args H
 | .copy=>qDG P c.argTypes args H
 | .len=>oJ P c.argTypes args H
 | .unsafeSliceData=>match args with
   | [.slice none _ _]=>some (.val (.pointer none) H)
   | [.slice (some a) _ c]=>if c != 0 then some (.val (.pointer (some ⟨a.block,a.off,none⟩)) H) else none
   | _=>none
 | .unsafeString=>xM P c.argTypes args H
 | _=>none
def fG (P:Program)(c:Call)(env:Env)(H:IH):Option zFH :=
 let args:=kP env.val c.args.toList
 match c.callee with
 | .builtin b=>yE P b c args H
 | .invoke _ _=>none
 | .value f=>match env.val f with
   | .func (.func g) first captured =>
     match P.funcs[g]? with
     | some fn=>if fn.body.isSome then (if fn.name != "runtime.NumGoroutine" then some (.enter g (qEO first.toList (qEO args captured.toList)) H) else none)
       else if fn.name == "internal/abi.NoEscape" && fn.origin == "" then (match qEO first.toList (qEO args captured.toList) with
        | [v]=>some (.val v H)
        | _=>none)
       else none
     | none=>none
   | .func (.yield l) first captured=>if first.isEmpty&&captured.isEmpty then some (.round l args H) else none
   | _=>none
def qJQ:Value->Bool
 | .tuple vs=>zQ vs.toList
 | v=>yF v
def qAX (H:IH)(v:Value):Option zFH :=
 cond (qJQ v) (some (.val v H)) none
def qF1 (H:IH):Option Next->Option zFH
 | some (.value v)=>qAX H v
 | _=>none
def kG (P:Program)(o:Oper)(env:Env)(H:IH):Option zFH :=
 if zQ (kP env.val o.op.operands.toList) then qF1 H (yB P (execOp env.val o)) else none
def dS (op:BinOp)(k:IntKind)(a b:Int):Option Value :=
 match op with
 | .add=>some (.int k (k.wrap (a+b)))
 | .sub=>some (.int k (k.wrap (a - b)))
 | .mul=>some (.int k (k.wrap (a*b)))
 | .quo=>if b=0 then none else some (.int k (k.wrap (a.tdiv b)))
 | .rem=>if b=0 then none else some (.int k (a.tmod b))
 | .eql=>some (.bool (a==b))
 | .neq=>some (.bool (a != b))
 | .lss=>some (.bool (a < b))
 | .leq=>some (.bool (a<=b))
 | .gtr=>some (.bool (a > b))
 | .geq=>some (.bool (a ≥ b))
 | _=>none
def q3H:IntKind->Nat
 | .i8=>0 | .i16=>1 | .i32=>2 | .i64=>3 | .u8=>4 | .u16=>5 | .u32=>6 | .u64=>7
theorem qZC {a b:IntKind}(h:Nat.beq (q3H a) (q3H b)=true):a=b:=by
 cases a <;> cases b <;> first | rfl | (exact absurd h (by decide))
theorem qW5 (a:IntKind):Nat.beq (q3H a) (q3H a)=true:=by cases a <;> rfl
def asI:Value->Option (IntKind×Int)
 | .int k n=>some (k,n)
 | _=>none
def uU (P:Program)(t:TypeId)(x:Value):Bool :=
 match P.underlying t,x with
 | some (.pointer _),.pointer _=>true
 | some (.slice _),.slice _ _ _=>true
 | some (.map _ _),.map _=>true
 | some (.func _ _ _),.nilFunc=>true
 | some (.func _ _ _),.func _ _ _=>true
 | _,_=>false
def eD (P:Program)(t:TypeId)(x y:Value):Option Bool :=
 match uG x y with
 | some b=>cond (uU P t x) (some b) none
 | none=>qVG P t x y
def zFP (P:Program)(o:Oper)(op:BinOp)(t:TypeId)(x y:Value)(env:Env)(H:IH):Option zFH :=
 match op with
 | .eql=>(match eD P t x y with
   | some b=>some (.val (.bool b) H)
   | none=>kG P o env H)
 | .neq=>(match eD P t x y with
   | some b=>some (.val (.bool !b) H)
   | none=>kG P o env H)
 | _=>kG P o env H
def zF0 (P:Program)(o:Oper)(op:BinOp)(k k':IntKind)(a b:Int)(env:Env)(H:IH):Option zFH :=
 cond (Nat.beq (q3H k) (q3H k')) (match dS op k a b with
  | some v=>some (.val v H)
  | none=>kG P o env H) (kG P o env H)
def yS (P:Program)(o:Oper)(op:BinOp)(t:TypeId)(x y:Value)(env:Env)(H:IH):Option zFH :=
 match asI x with
 | some (k,a)=>(match asI y with
   | some (k',b)=>zF0 P o op k k' a b env H
   | none=>zFP P o op t x y env H)
 | none=>zFP P o op t x y env H
def qMI (c a b:Value)(H:IH):Option zFH :=
 match c with
 | .bool t=>some (.val (cond t a b) H)
 | _=>none
def sG (P:Program)(elem:TypeId)(H:IH):Option zFH :=
 match qCC P elem with
 | some z=>some (.val (.pointer (some ⟨H.size,0,none⟩)) (H.push (.cells z.cells elem)))
 | none=>none
def q67 (elem:TypeId)(v:Value)(H:IH):Option zFH :=
 if zI v then some (.val (.pointer (some ⟨H.size,0,none⟩)) (H.push (.cells v.cells elem))) else none
def qLS:Option IH->Option zFH
 | some H'=>some (.val undef H')
 | none=>none
def wJ (v:Value)(H:IH):Option zFH :=
 match v with
 | .pointer (some a)=>some (.val (.pointer (some a)) H)
 | .func (.func g) f c=>some (.val (.func (.func g) f c) H)
 | .func (.yield l) f c=>some (.val (.func (.yield l) f c) H)
 | _=>none
def gU (P:Program)(o:Oper)(src dst:TypeId)(v:Value)(env:Env)(H:IH):Option zFH :=
 match v with
 | .pointer a=>zFH.ofO H (qFF P src dst (.pointer a) H)
 | _=>kG P o env H
def wN (fn:Fn)(first captured:Array Value)(H:IH):Option zFH :=
 match fn with
 | .func g=>some (.val (.func (.func g) first captured) H)
 | _=>none
def wY (P:Program)(o:Oper)(t:TypeId)(v:Value)(lo hi mx:Option Value)(env:Env)(H:IH):Option zFH :=
 match v with
 | .string _=>kG P o env H
 | v=>zFH.ofO H (wL P t v lo hi mx)
def uF (P:Program)(o:Oper)(t:TypeId)(v ix:Value)(env:Env)(H:IH):Option zFH :=
 match v with
 | .string _=>kG P o env H
 | v=>zFH.ofO H (sH P t v ix)
def wH (H:IH):Option Value->Option zFH
 | some v=>cond (zI v) (some (.val v H)) none
 | none=>none
def fE (v:Value)(ix:Nat)(H:IH):Option zFH :=
 match v with
 | .tuple vs=>wH H (zJ vs.toList ix)
 | _=>none
def yI (P:Program)(o:Oper)(c:Call)(env:Env)(H:IH):Option zFH :=
 match fG P c env H with
 | some r=>some r
 | none=>kG P o env H
def bM (r:Option Operand)(H:IH):Option zFH :=
 match r with
 | none=>some (.val (.map (some H.size)) (H.push (.map #[] 0)))
 | some _=>none
def iop (P:Program)(o:Oper)(env:Env)(H:IH):Option zFH :=
 match o.op with
 | .move x=>some (.val (env.val x) H)
 | .assign x=>some (.val (env.val x) H)
 | .pick c a b=>qMI (env.val c) (env.val a) (env.val b) H
 | .alloc elem=>sG P elem H
 | .box elem x=>q67 elem (env.val x) H
 | .build t parts=>zFH.ofO H (qI1 P t (parts.toList.map fun p=>(p.1,env.val p.2)))
 | .buildSlice t len parts=>kJ P t len (parts.toList.map fun p=>(p.1,env.val p.2)) H
 | .load t a=>zFH.ofO H (uW P t (env.val a) H)
 | .store t a x=>qLS (gY P t (env.val a) (env.val x) H)
 | .nilCheck x=>wJ (env.val x) H
 | .binOp op t x y _=>yS P o op t (env.val x) (env.val y) env H
 | .convert src dst x=>gU P o src dst (env.val x) env H
 | .makeFunc fn first captured=>wN fn (first.map env.val) (captured.map env.val) H
 | .makeMap _ r=>bM r H
 | .makeSlice t l c=>jG P t (env.val l) (env.val c) H
 | .slice t x lo hi mx=>wY P o t (env.val x) (lo.map env.val) (hi.map env.val) (mx.map env.val) env H
 | .fieldAddr s x f=>zFH.ofO H (dJ P s (env.val x) f)
 | .indexAddr t x ix=>zFH.ofO H (wW P t (env.val x) (env.val ix))
 | .index t x ix=>uF P o t (env.val x) (env.val ix) env H
 | .lookup t x k ok=>zFH.ofO H (qAS P t (env.val x) (env.val k) ok H)
 | .mapUpdate t m k x=>qLS (jM P t (env.val m) (env.val k) (env.val x) H)
 | .range t x=>rY P t (env.val x) H
 | .next it isString=>qC9 (env.val it) isString H
 | .extract t ix=>fE (env.val t) ix H
 | .call c=>yI P o c env H
 | .unOp _ _ _=>kG P o env H
 | _=>none
inductive T (α:Type):Type where
 | fail:T α
 | ret (a:α):T α
 | ch (n:Nat) (k:Nat->T α):T α
 | sp (p:Value×IH->Prop) (k:Value×IH->T α):T α
def T.bind {α β:Type}(t:T α)(f:α->T β):T β:=T.rec .fail f (fun n _ ih=>.ch n ih) (fun p _ ih=>.sp p ih) t
def T.ofO {α:Type}:Option α->T α
 | some a=>.ret a
 | none=>.fail
inductive zGB where
 | normal
 | exit (id:Nat)
 | goto (l:Nat)
 | ret
 deriving DecidableEq
structure Out where
 e:zGB
 env:Env
 H:IH
inductive Job where
 | code (c:Code) (env:Env)
 | call (f:FuncId) (args:List Value)
 | round (l:Nat) (args:List Value)
abbrev xA:=FuncId->Option (List Value->IH->T (Value×IH))
def qZ6 (P:Program)(env:Env)(H:IH):ResultVar->Option Value
 | .tmp t=>some ((zJ env t).getD undef)
 | .cell a t=>uW P t ((zJ env a).getD undef) H
def qL9 (P:Program)(env:Env)(H:IH):List ResultVar->Option (List Value)
 | []=>some []
 | r::l=>match qZ6 P env H r with
   | some v=>(match qL9 P env H l with
     | some vs=>some (v::vs)
     | none=>none)
   | none=>none
def one (l:List Value):Value :=
 match l with
 | [v]=>v
 | vs=>.tuple vs.toArray
def vZ (P:Program)(fn:Func)(env:Env)(H:IH):Option Value:=(qL9 P env H fn.results.toList).map one
inductive Cls where
 | pure | read | alloc | call | fresh | write
 deriving DecidableEq
def xI (o:Oper):Cls :=
 match o.op with
 | .move _ | .assign _ | .pick .. | .nilCheck _ | .binOp .. | .unOp .. | .makeFunc .. | .fieldAddr .. | .field .. | .indexAddr .. | .index .. | .extract .. | .slice .. | .build ..=>.pure
 | .load .. | .lookup .. | .entry _ | .convert ..=>.read
 | .alloc _=>if o.guard.isNone then .alloc else .fresh
 | .box .. | .buildSlice .. | .makeMap .. | .makeSlice .. | .range ..=>.fresh
 | .call c=>match c.callee with
   | .builtin .len=>.read
   | .builtin .min | .builtin .max | .builtin .unsafeSliceData=>.pure
   | .value _=>.call
   | _=>.write
 | _=>.write
def Cls.eff:Cls->Bool
 | .call | .fresh | .write=>true
 | _=>false
def uE (ops:Array Oper)(o:Oper):List Tmp :=
 (o.op.operands.toList.filterMap fun | .tmp t=>some t | _=>none) ++
 (match o.guard with
  | some (g,_)=>((ops[g]?).bind (·.dst)).toList
  | none=>[])
def qL (o:Oper):Bool:=decide (xI o=.alloc)
def vH (b:Array Nat)(i j:Nat):Bool:=(b.getD j 0).testBit i
def qPJ (b:Array Nat)(i j:Nat):Bool:=vH b i j||vH b j i
def qTD (ops:Array Oper)(b:Array Nat):Bool :=
 let l:=ops.toList.zipIdx
 l.all fun (o,i) =>
  -- each edge leads back
  (o.after.all fun e=>!Region.binds .any e||decide (e.on < i)) &&
  l.all fun (p,j) =>
   (decide (i=j) ||
     ((match o.dst with
       | some d=>p.dst != some d&&(!((uE ops p).contains d)||cond (qL o) (vH b i j) (qPJ b i j))
       | none=>true) &&
      (!((xI o).eff&&(xI p).eff)||qPJ b i j) &&
      true))
def fO (ops:Array Oper):Bool:=qTD ops (Region.before ops)
def wO (r:Out):T (Value×IH) :=
 match r.env with
 | [v]=>.ret (v,r.H)
 | _=>.fail
def yJ (run:Job->IH->T Out)(nat:xA)(f:FuncId)(args:List Value)(H:IH):T (Value×IH) :=
 match nat f with
 | some g=>g args H
 | none=>(run (.call f args) H).bind wO
def qIE (run:Job->IH->T Out)(nat:xA)(s:Option zFH):T (Value×IH) :=
 match s with
 | some (.val v H)=>.ret (v,H)
 | some (.enter f args H)=>yJ run nat f args H
 | some (.round l args H)=>(run (.round l args) H).bind wO
 | some (.choice n k)=>.ch n fun i=>T.ofO (k i)
 | none=>.fail
def rU (P:Program)(run:Job->IH->T Out)(nat:xA)(o:Oper)(env:Env)(H:IH):T (Value×IH) :=
 qIE run nat (iop P o env H)
def vB {α:Type}(c:Option Bool)(yes no bad:α):α :=
 match c with
 | some true=>yes
 | some false=>no
 | none=>bad
def q8P (P:Program)(run:Job->IH->T Out)(nat:xA)(ops:Array Oper)(l:List Oper):Env->IH->T (Env×IH) :=
 List.rec (fun env H=>.ret (env,H)) (fun o _ ih env H =>
  vB (kH ops o env) ((rU P run nat o env H).bind fun r=>ih (env.zFT o.dst r.1) r.2) (ih (env.zFT o.dst undef) H) .fail) l
theorem qID {P:Program}{run:Job->IH->T Out}{nat:xA}{ops:Array Oper}{o:Oper}{l:List Oper}{env:Env}{H:IH} :
 q8P P run nat ops (o::l) env H=vB (kH ops o env) ((rU P run nat o env H).bind fun r=>q8P P run nat ops l (env.zFT o.dst r.1) r.2)
  (q8P P run nat ops l (env.zFT o.dst undef) H) .fail:=rfl
def q3Z (t:T (Value×IH)):Option (Value×IH) :=
 match t with
 | .ret r=>some r
 | _=>none
def qGU (P:Program):List Oper->Env->IH->Option (Env×IH)
 | [],env,H=>some (env,H)
 | o::rest,env,H =>
   if qL o then
    match iop P o env H with
    | some (.val v H')=>qGU P rest (env.zFT o.dst v) H'
    | _=>none
   else qGU P rest env H
structure Rec where
 i:Nat
 o:Oper
 env:Env
 v:Value
def qNM (ops:Array Oper)(b:Array Nat):List (Nat×Nat×Nat) :=
 (ops.toList.zipIdx.filter fun p=>decide (xI p.1=.read)).filterMap fun p =>
   let zI7:=ops.toList.zipIdx.filter fun q=>(xI q.1).eff
   let lo:=(zI7.filter fun q=>vH b q.2 p.2).length
   let hi:=(zI7.filter fun q=>!vH b p.2 q.2).length
   if lo=hi then none else some (p.2,lo,hi)
def loose (ops:Array Oper):List (Nat×Nat×Nat):=qNM ops (Region.before ops)
def qBF (i:Nat)(l:List (Nat×Nat×Nat)):Option (Nat×Nat) :=
 List.rec none (fun a _ ih=>cond (Nat.beq a.1 i) (some a.2) ih) l
def qEJ {α:Type}(c:Bool)(a:α)(l:List α):List α:=cond c (a::l) l
def q0J (c:Option (Nat×Nat))(i:Nat)(o:Oper)(env:Env)(v:Value)(l:List Rec):List Rec :=
 match c with
 | some _=>⟨i,o,env,v⟩::l
 | none=>l
def q46 (o:Oper)(i:Nat)(env:Env)(v:Value)(H':IH)(lo:List (Nat×Nat×Nat))(r:Option (Env×IH×List IH×List Rec)):Option (Env×IH×List IH×List Rec) :=
 match r with
 | some (e,h,hs,rs)=>some (e,h,qEJ (xI o).eff H' hs,q0J (qBF i lo) i o env v rs)
 | none=>none
def q2J (o:Oper)(H:IH)(r:Option (Env×IH×List IH×List Rec)):Option (Env×IH×List IH×List Rec) :=
 match r with
 | some (e,h,hs,rs)=>some (e,h,qEJ (xI o).eff H hs,rs)
 | none=>none
def qZP (o:Oper)(i:Nat)(env:Env)(lo:List (Nat×Nat×Nat))(ih:Env->IH->Option (Env×IH×List IH×List Rec))(r:Option (Value×IH)):Option (Env×IH×List IH×List Rec) :=
 match r with
 | some r=>q46 o i env r.1 r.2 lo (ih (env.zFT o.dst r.1) r.2)
 | none=>none
def qMW (P:Program)(run:Job->IH->T Out)(nat:xA)(ops:Array Oper)(lo:List (Nat×Nat×Nat))(l:List Oper):Nat->Env->IH->Option (Env×IH×List IH×List Rec) :=
 List.rec (fun _ env H=>some (env,H,[],[])) (fun o _ ih i env H =>
  cond (qL o) (ih (i+1) env H)
   (vB (kH ops o env) (qZP o i env lo (ih (i+1)) (q3Z (rU P run nat o env H)))
     (q2J o H (ih (i+1) (env.zFT o.dst undef) H)) none)) l
def eqL {α:Type}(eq:α->α->Bool)(l:List α):List α->Bool :=
 List.rec (fun m=>m.isEmpty) (fun a _ ih m=>match m with | []=>false | b::m=>cond (eq a b) (ih m) false) l
theorem nZ {α:Type}{eq:α->α->Bool}(h:∀ a b,eq a b=true->a=b){l:List α}:∀ {m:List α},eqL eq l m=true->l=m:=by
 induction l with
 | nil=>intro m hm;cases m with
   | nil=>rfl
   | cons b m=>exact absurd hm (by show ¬ ((b::m).isEmpty=true);simp)
 | cons a l ih=>intro m hm;cases m with
   | nil=>exact absurd hm (by show ¬ (false=true);simp)
   | cons b m =>
     have hm':cond (eq a b) (eqL eq l m) false=true:=hm
     cases he:eq a b with
     | false=>rw[he] at hm';cases hm'
     | true=>rw[he] at hm';rw[h a b he,ih hm']
def zBW (n:Nat):Value->Value->Bool :=
 Nat.rec (fun _ _=>false) (fun _ ih v w=>match v,w with
 | .bool a,.bool b=>a==b
 | .int k a,.int k' b=>k==k'&&a==b
 | .string a,.string b=>eqL (·==·) a.data.toList b.data.toList
 | .pointer a,.pointer b=>a==b
 | .slice a l c,.slice a' l' c'=>a==a'&&(l==l'&&c==c')
 | .map a,.map b=>a==b
 | .func f a b,.func f' a' b'=>f==f'&&(eqL ih a.toList a'.toList&&eqL ih b.toList b'.toList)
 | .nilFunc,.nilFunc=>true
 | .nilIface,.nilIface=>true
 | .agg a,.agg b=>eqL ih a.toList b.toList
 | .tuple a,.tuple b=>eqL ih a.toList b.toList
 | _,_=>false) n
def veq (v w:Value):Bool:=zBW 4 v w
def q84 (l m:List Value):Bool:=eqL veq l m
def oeq:Obj->Obj->Bool
 | .cells c e f,.cells c' e' f'=>q84 c.toList c'.toList&&e==e'&&f==f'
 | .pending c e,.pending c' e'=>q84 c.toList c'.toList&&e==e'
 | .stringIter s p,.stringIter s' p'=>eqL (·==·) s.data.toList s'.data.toList&&p==p'
 | .mapIter m s a l,.mapIter m' s' a' l'=>m==m'&&s==s'&&a.toList==a'.toList&&l==l'
 | .map es c,.map es' c'=>c==c'&&q84 (es.toList.map (·.key)) (es'.toList.map (·.key))&&q84 (es.toList.map (·.val)) (es'.toList.map (·.val))&&es.toList.map (·.born)==es'.toList.map (·.born)
 | _,_=>false
def q8X:Option Obj->Option Obj->Bool
 | none,none=>true
 | some a,some b=>oeq a b
 | _,_=>false
def mI (v:Value)(r:Option zFH):Bool :=
 match r with
 | some (.val u _)=>veq v u
 | _=>false
def gM (P:Program)(lo hi:Nat)(r:Rec)(hs:List IH):Nat->Bool :=
 List.rec (fun _=>true) (fun E _ ih m=>cond (Nat.ble lo m&&Nat.ble m hi) (cond (mI r.v (iop P r.o r.env E)) (ih (m+1)) false) (ih (m+1))) hs
def tJ (P:Program)(lo:List (Nat×Nat×Nat))(hs:List IH)(r:Rec):Bool :=
 match qBF r.i lo with
 | some p=>gM P p.1 p.2 r hs 0
 | none=>true
def qBP (b:Nat)(o:Option Obj)(hs:List IH):Nat->Bool :=
 List.rec (fun _=>true) (fun h _ ih n=>Nat.casesOn n true fun m=>cond (q8X (h.get b) o) (ih m) false) hs
def nO (H1:IH)(hs:List IH)(al:List Nat):Nat->Bool :=
 List.rec (fun _=>true) (fun hi _ ih b=>cond (qBP b (H1.get b) hs hi) (ih (b+1)) false) al
def qPD (ops:Array Oper)(b:Array Nat):List Nat :=
 (ops.toList.zipIdx.filter fun p=>qL p.1).map fun p =>
   ((ops.toList.zipIdx.filter fun q=>(xI q.1).eff).filter fun q=>!vH b p.2 q.2).length
def qEQ (ops:Array Oper):List Nat:=qPD ops (Region.before ops)
def qMB (P:Program)(lo:List (Nat×Nat×Nat))(al:List Nat)(n:Nat)(H1:IH)(r:Option (Env×IH×List IH×List Rec)):Option (Env×IH) :=
 match r with
 | some (zFS,H2,hs,rs)=>cond (cond (jZ (tJ P lo (H1::hs)) rs) (nO H1 hs al n) false) (some (zFS,H2)) none
 | none=>none
def qR0 (P:Program)(run:Job->IH->T Out)(nat:xA)(ops:Array Oper)(env:Env)(H:IH):Option (Env×IH) :=
 match qGU P ops.toList env H with
 | some (zFG,H1)=>qMB P (loose ops) (qEQ ops) H.size H1 (qMW P run nat ops (loose ops) ops.toList 0 zFG H1)
 | none=>none
def T.leaves {α:Type}:T α->Option (List α)
 | .fail=>none
 | .ret a=>some [a]
 | .ch n k=>((List.range n).mapM fun i=>(k i).leaves).map List.flatten
 | .sp _ _=>none
def eT:Env->Env->Env
 | a::l,b::m=>(if veq a b then a else unk)::eT l m
 | _,_=>[]
def IH.since (H:IH)(n:Nat):List Nat:=H.log.take (H.log.length - n)
def q3J (H H':IH)(l:List Nat):Bool:=l.all fun b=>q8X (H.get b) (H'.get b)
def qNV (H0:IH)(n:Nat):List Out->Option Out
 | []=>none
 | o::rest =>
   if ((o.H.since n).filter (· < H0.size)).all (fun b=>(o.H.get b).isSome)&&rest.all (fun p=>decide (p.e=o.e)&&decide (p.env.length=o.env.length) &&
       q3J o.H p.H ((o.H.since n).filter (· < H0.size))&&q3J o.H p.H ((p.H.since n).filter (· < H0.size))) then
    some ⟨o.e,rest.foldl (fun e p=>eT e p.env) o.env,
     { tr:=((o.H.since n).filter (· < H0.size)).foldl (fun t b=>match o.H.get b with
        | some ob=>t.set b ob
        | none=>t) H0.tr,
       size:=(o::rest).foldl (fun m p=>Nat.max m p.H.size) 0,base:=H0.base,log:=(o.H.since n).filter (· < H0.size)++H0.log }⟩
   else none
def join (H0:IH):T Out->T Out
 | .ch n k=>match (T.ch n k).leaves with
   | some l=>match qNV H0 H0.log.length l with
     | some o=>.ret o
     | none=>.ch n k
   | none=>.ch n k
 | t=>t
def qGL (run:Job->IH->T Out)(b:Code)(r:Out):T Out :=
 match r.e with
 | .normal=>run (.code b r.env) r.H
 | _=>.ret r
def oF (id:Nat)(r:Out):T Out :=
 match r.e with
 | .exit id'=>cond (Nat.beq id' id) (.ret ⟨.normal,r.env,r.H⟩) (.ret r)
 | _=>.ret r
def bS (run:Job->IH->T Out)(a:Code)(r:Out):T Out :=
 match r.e with
 | .normal=>run (.code (.loop a) r.env) r.H
 | _=>.ret r
def nS (r:Out):T Out :=
 match r.e with
 | .goto _=>.fail
 | _=>.ret r
def tY (run:Job->IH->T Out)(v:Value)(a b:Code)(env:Env)(H:IH):T Out :=
 match v with
 | .bool t=>run (.code (cond t a b) env) H
 | _=>.fail
def qF0 (r:Option (Env×IH)):T Out :=
 match r with
 | some (zFS,H2)=>.ret ⟨.normal,zFS,H2⟩
 | none=>.fail
def bZ (P:Program)(run:Job->IH->T Out)(nat:xA)(ops:Array Oper)(draw:Bool)(env:Env)(H:IH):T Out :=
 cond draw (qF0 (qR0 P run nat ops env H)) ((q8P P run nat ops ops.toList env H).bind fun r=>.ret ⟨.normal,r.1,r.2⟩)
def kQ (run:Job->IH->T Out)(l:Nat)(env:Env)(r:Value×IH):T Out :=
 match r.2.get l with
 | some (.loop lp)=>if lp.state==.busy then .fail else
   (match lp.pending with
   | none=>.ret ⟨.normal,env,r.2.put l (.loop { lp with state:=.exhausted })⟩
   | some c=>run (.code c env) (r.2.put l (.loop { lp with state:=.exhausted })))
 | _=>.fail
def entered (P:Program)(g:FuncId):Bool :=
 match P.funcs[g]? with
 | some fn=>fn.body.isSome&&fn.name != "runtime.NumGoroutine"
 | none=>false
def kT (P:Program)(run:Job->IH->T Out)(nat:xA)(v:Value)(params:Array Tmp)(assign body:Code)(env:Env)(H:IH):T Out :=
 match v with
 | .func (.func g) first captured=>cond (entered P g)
   ((yJ run nat g (qEO first.toList (.func (.yield H.size) #[] #[]::captured.toList))
     (H.push (.loop { state:=.ready,pending:=none,fn:=0,tmps:=env.toArray,params,assign,body,defers:=0 }))).bind (kQ run H.size env)) .fail
 | _=>.fail
def tH (P:Program)(run:Job->IH->T Out)(nat:xA)(c:Code)(env:Env)(H:IH):T Out :=
 match c with
 | .skip=>.ret ⟨.normal,env,H⟩
 | .label _=>.ret ⟨.normal,env,H⟩
 | .ret=>.ret ⟨.ret,env,H⟩
 | .exit id=>.ret ⟨.exit id,env,H⟩
 | .seq a b=>(run (.code a env) H).bind (qGL run b)
 | .cond x a b=>tY run (env.val x) a b env H
 | .block id a=>(run (.code a env) H).bind (oF id)
 | .loop a=>join H ((run (.code a env) H).bind (bS run a))
 | .scope a=>(run (.code a env) H).bind nS
 | .region _ ops draw=>bZ P run nat ops draw env H
 | .rangeFunc f params assign body=>kT P run nat (env.val f) params assign body env H
 | _=>.fail
def qCO (P:Program)(fn:Func)(r:Out):T Out :=
 match r.e with
 | .normal=>(match vZ P fn r.env r.H with
   | some v=>.ret ⟨.normal,[v],r.H⟩
   | none=>.fail)
 | .ret=>(match vZ P fn r.env r.H with
   | some v=>.ret ⟨.normal,[v],r.H⟩
   | none=>.fail)
 | _=>.fail
def nJ (P:Program)(good:FuncId->Bool)(run:Job->IH->T Out)(f:FuncId)(args:List Value)(H:IH):T Out :=
 match P.funcs[f]? with
 | some fn=>(match fn.body with
   | some c=>cond (good f) (join H ((run (.code c (qEO args (List.replicate (fn.ntmps - args.length) undef))) H).bind (qCO P fn))) .fail
   | none=>.fail)
 | none=>.fail
def yU:zGB->Option Code
 | .normal=>none
 | .ret=>some .ret
 | .exit id=>some (.exit id)
 | .goto t=>some (.goto t)
def roundEnd (l:Nat)(s:Out):T Out :=
 match s.H.get l with
 | some (.loop lp2)=>.ret ⟨.normal,[.bool (yU s.e).isNone],s.H.put l (.loop { lp2 with state:=if (yU s.e).isNone then .ready else .done,pending:=yU s.e })⟩
 | _=>.fail
def qCH (run:Job->IH->T Out)(l:Nat)(body:Code)(r:Out):T Out :=
 match r.e with
 | .normal=>(match r.H.get l with
   | some (.loop lp1)=>if lp1.state==.ready then (run (.code body r.env) (r.H.put l (.loop { lp1 with state:=.busy }))).bind (roundEnd l) else .fail
   | _=>.fail)
 | _=>.fail
def aI (run:Job->IH->T Out)(l:Nat)(args:List Value)(H:IH):T Out :=
 match H.get l with
 | some (.loop lp) =>
   if lp.state==.ready&&(decide (H.base<=l)&&Nat.beq args.length lp.params.size) then
    (run (.code lp.assign ((lp.params.toList.zip args).foldl (fun e p=>yQ e p.1 p.2) lp.tmps.toList)) H).bind (qCH run l lp.body)
   else .fail
 | _=>.fail
def kR (G:Nat->Bool):Operand->Bool
 | .const v=>yF v
 | .global g=>G g
 | _=>true
def gK (G:Nat->Bool)(ops:Array Oper):Bool:=ops.toList.all fun o=>o.op.operands.toList.all (kR G)
def codeOk (G:Nat->Bool)(round:Bool):Code->Bool
 | .seq a b=>codeOk G round a&&codeOk G round b
 | .cond x a b=>kR G x&&(codeOk G round a&&codeOk G round b)
 | .block _ a=>codeOk G round a
 | .loop a=>codeOk G round a
 | .scope a=>codeOk G round a
 | .region _ ops draw=>gK G ops&&(!draw||fO ops)
 | .rangeFunc f _ x y=>(round||!round)&&(kR G f&&(codeOk G true x&&codeOk G true y))
 | _=>true
def qI7:Code->Bool
 | .ret=>true
 | .exit _=>true
 | .goto _=>true
 | _=>false
def qNF (P:Program)(good:FuncId->Bool)(nat:xA)(run:Job->IH->T Out)(j:Job)(H:IH):T Out :=
 match j with
 | .code c env=>tH P run nat c env H
 | .call f args=>nJ P good run f args H
 | .round l args=>aI run l args H
def iex (P:Program)(good:FuncId->Bool)(nat:xA)(n:Nat):Job->IH->T Out :=
 Nat.rec (fun _ _=>.fail) (fun _ ih j H=>qNF P good nat ih j H) n
theorem q0K {P:Program}{good:FuncId->Bool}{nat:xA}{n:Nat}{j:Job}{H:IH}:iex P good nat (n+1) j H=qNF P good nat (iex P good nat n) j H:=rfl
end
end Go.Idl
namespace Go.Idl
variable {F:Fence}{G G':Nat->Bool}{H:IH}{P:Program}{a a':Array Value}{b x:Nat}{l l' m:List Value}{o o':Obj}{v v':Value}
structure Emb where
 r:Nat
 shift:Nat
 N:Nat
 ro:Bool
abbrev Inj:=Nat->Option Emb
def Inj.le (f g:Inj):Prop:=∀ b e,f b=some e->g b=some e
theorem Inj.le_refl (f:Inj):f.le f:=fun _ _ h=>h
theorem Inj.le_trans {f g h:Inj}(a:f.le g)(b:g.le h):f.le h:=fun x e hx=>b x e (a x e hx)
def Inj.add (f:Inj)(b:Nat)(e:Emb):Inj:=fun x=>if x=b then some e else f x
theorem Inj.zGG {f:Inj}{e:Emb}(h:f b=none):f.le (f.add b e):=fun x y hx=>by
 unfold Inj.add;by_cases hb:x=b
 ·subst hb;rw[h] at hx;cases hx
 ·simp[hb,hx]
theorem Inj.add_same {f:Inj}{e:Emb}:f.add b e b=some e:=by simp[Inj.add]
theorem Inj.zFC {f:Inj}{e:Emb}(h:x≠b):f.add b e x=f x:=by simp[Inj.add,h]
inductive zFB (P:Program) (f:Inj):Value->Value->Prop
 | any (v:Value):zFB P f unk v
 | undef:zFB P f undef undef
 | base (v:Value) (h:yF v=true):zFB P f v v
 | ptr {b o:Nat} {e:Emb} (h:f b=some e):zFB P f (.pointer (some ⟨b,o,none⟩)) (.pointer (some ⟨e.r,o+e.shift,none⟩))
 | sl {b o len cap:Nat} {e:Emb} (h:f b=some e):zFB P f (.slice (some ⟨b,o,none⟩) len cap) (.slice (some ⟨e.r,o+e.shift,none⟩) len cap)
 | room {b o el len cap cap':Nat} {e:Emb} (h:f b=some e) (hc:cap<=cap') (hn:o+e.shift+cap'*P.cellsOf el<=e.N) :
    zFB P f (.slice (some ⟨b,o,some el⟩) len cap) (.slice (some ⟨e.r,o+e.shift,none⟩) len cap')
 | zF3 {b o o' el cap':Nat} {e:Emb} (h:f b=some e) (hs:e.shift<=o') (hn:o'+cap'*P.cellsOf el<=e.N) :
    zFB P f (.slice (some ⟨b,o,some el⟩) 0 0) (.slice (some ⟨e.r,o',none⟩) 0 cap')
 | gh {b:Nat} {a':Addr} {e:Emb} (h:f b=some e) (hg:e.N < e.shift):zFB P f (.slice (some ⟨b,0,none⟩) 0 0) (.slice (some a') 0 0)
 | map {b:Nat} {e:Emb} (h:f b=some e):zFB P f (.map (some b)) (.map (some e.r))
 | func {g:FuncId} {a a' c c':Array Value} (ha:a.size=a'.size) (hc:c.size=c'.size)
    (hav:∀ (i:Nat) v v',a[i]?=some v->a'[i]?=some v'->zFB P f v v') (hcv:∀ (i:Nat) v v',c[i]?=some v->c'[i]?=some v'->zFB P f v v') :
    zFB P f (.func (.func g) a c) (.func (.func g) a' c')
 | yield {l:Nat} {e:Emb} (h:f l=some e):zFB P f (.func (.yield l) #[] #[]) (.func (.yield e.r) #[] #[])
 | iface {t:TypeId} {v v':Value} (h:zFB P f v v'):zFB P f (.iface t v) (.iface t v')
 | agg {a a':Array Value} (ha:a.size=a'.size) (hav:∀ (i:Nat) v v',a[i]?=some v->a'[i]?=some v'->zFB P f v v'):zFB P f (.agg a) (.agg a')
 | tuple {a a':Array Value} (ha:a.size=a'.size) (hav:∀ (i:Nat) v v',a[i]?=some v->a'[i]?=some v'->zFB P f v v'):zFB P f (.tuple a) (.tuple a')
theorem zFB.mono {f g:Inj}(h:zFB P f v v')(hl:f.le g):zFB P g v v':=by
 induction h with
 | any v=>exact .any v
 | undef=>exact .undef
 | base v h=>exact .base v h
 | ptr h=>exact .ptr (hl _ _ h)
 | sl h=>exact .sl (hl _ _ h)
 | room h hc hn=>exact .room (hl _ _ h) hc hn
 | zF3 h hs hn=>exact .zF3 (hl _ _ h) hs hn
 | gh h hg=>exact .gh (hl _ _ h) hg
 | map h=>exact .map (hl _ _ h)
 | func ha hc _ _ i1 i2=>exact .func ha hc i1 i2
 | yield h=>exact .yield (hl _ _ h)
 | iface _ ih=>exact .iface ih
 | agg ha _ ih=>exact .agg ha ih
 | tuple ha _ ih=>exact .tuple ha ih
def qE (P:Program)(f:Inj)(l l':List Value):Prop:=l.length=l'.length∧∀ (i:Nat) v v',l[i]?=some v->l'[i]?=some v'->zFB P f v v'
theorem qE.nil {f:Inj}:qE P f [] []:=⟨rfl,fun i v v' h=>by simp at h⟩
theorem qE.cons {f:Inj}(h:zFB P f v v')(t:qE P f l l'):qE P f (v::l) (v'::l') :=
 ⟨by simp[t.1],fun i u u' hu hu'=>by
   cases i with
   | zero=>simp at hu hu';subst hu hu';exact h
   | succ i=>exact t.2 i u u' (by simpa using hu) (by simpa using hu')⟩
theorem qE.zFD {f:Inj}(h:qE P f (v::l) m):∃ v' l',m=v'::l'∧zFB P f v v'∧qE P f l l':=by
 cases m with
 | nil=>simp[qE] at h
 | cons v' l'=>exact⟨v',l',rfl,h.2 0 v v' rfl rfl,by have:=h.1;simpa using this,fun i u u' hu hu'=>h.2 (i+1) u u' (by simpa using hu) (by simpa using hu')⟩
theorem qE.zFF {f:Inj}(h:qE P f [] m):m=[]:=by
 cases m with
 | nil=>rfl
 | cons a b=>simp[qE] at h
theorem qE.mono {P:Program}{f g:Inj}{l l':List Value}(h:qE P f l l')(hl:f.le g):qE P g l l':=⟨h.1,fun i v v' a b=>(h.2 i v v' a b).mono hl⟩
theorem qE.get {f:Inj}(h:qE P f l l'){i:Nat}(hv:l[i]?=some v):∃ v',l'[i]?=some v'∧zFB P f v v':=by
 have hlt:i < l.length:=(zM6.1 hv).1;have hlt':i < l'.length:=h.1 ▸ hlt;exact⟨l'[i],zM2 hlt',h.2 i v _ hv (zM2 hlt')⟩
theorem qE.append {f:Inj}{m':List Value}(h:qE P f l l')(k:qE P f m m'):qE P f (l++m) (l'++m'):=by
 induction l generalizing l' with
 | nil=>rw[h.zFF];exact k
 | cons v l ih=>obtain⟨v',t',rfl,hv,ht⟩:=h.zFD;exact .cons hv (ih ht)
theorem qE.take {f:Inj}(h:qE P f l l')(n:Nat):qE P f (l.take n) (l'.take n):=by
 induction n generalizing l l' with
 | zero=>simpa using qE.nil
 | succ n ih =>
   cases l with
   | nil=>rw[h.zFF];simpa using qE.nil
   | cons v l=>obtain⟨v',t',rfl,hv,ht⟩:=h.zFD;simpa using qE.cons hv (ih ht)
theorem qE.drop {f:Inj}(h:qE P f l l')(n:Nat):qE P f (l.drop n) (l'.drop n):=by
 induction n generalizing l l' with
 | zero=>simpa using h
 | succ n ih =>
   cases l with
   | nil=>rw[h.zFF];simpa using qE.nil
   | cons v l=>obtain⟨v',t',rfl,hv,ht⟩:=h.zFD;simpa using ih ht
theorem qE.set {f:Inj}(h:qE P f l l')(hv:zFB P f v v')(n:Nat):qE P f (l.set n v) (l'.set n v'):=by
 induction n generalizing l l' with
 | zero =>
   cases l with
   | nil=>rw[h.zFF];simpa using qE.nil
   | cons u l=>obtain⟨u',t',rfl,hu,ht⟩:=h.zFD;simpa using qE.cons hv ht
 | succ n ih =>
   cases l with
   | nil=>rw[h.zFF];simpa using qE.nil
   | cons u l=>obtain⟨u',t',rfl,hu,ht⟩:=h.zFD;simpa using qE.cons hu (ih ht)
theorem eY:zQ (v::l)=(yF v&&zQ l):=vD _ _ _
theorem xO {l:List Value}:zQ l=true ↔ ∀ v∈l,yF v=true:=xN
theorem qE.zFR {f:Inj}(h:zQ l=true):qE P f l l:=by
 induction l with
 | nil=>exact .nil
 | cons v l ih=>rw[eY,zMY] at h;exact .cons (.base v h.1) (ih h.2)
theorem qBB (n:Nat):∀ v,kC n v=true->kC (n+1) v=true:=by
 induction n with
 | zero=>intro v h;exact absurd h (by show ¬ (false=true);simp)
 | succ n ih =>
   intro v h;have hall:∀ (l:List Value),jZ (kC n) l=true->jZ (kC (n+1)) l=true:=fun l hl=>xN.2 fun a ha=>ih a (xN.1 hl a ha)
   cases v <;> first | exact h | skip
   case func fn first captured =>
    have h':(zAC fn&&(jZ (kC n) first.toList&&jZ (kC n) captured.toList))=true:=h;show (zAC fn&&(jZ (kC (n+1)) first.toList&&jZ (kC (n+1)) captured.toList))=true;simp only[zMY] at h' ⊢;exact⟨h'.1,hall _ h'.2.1,hall _ h'.2.2⟩
   case iface t v=>exact ih v h
   case agg cs=>exact hall _ h
theorem zFB.zJZ {f:Inj}(h:zFB P f v v'):∀ n,kC n v=true->v'=v:=by
 induction h with
 | any v=>intro n hp;cases n <;> exact absurd hp (by show ¬ (false=true);simp)
 | undef=>intro n hp;rfl
 | base v _=>intro n hp;rfl
 | ptr _=>intro n hp;cases n <;> exact absurd hp (by show ¬ (false=true);simp)
 | sl _=>intro n hp;cases n <;> exact absurd hp (by show ¬ (false=true);simp)
 | room _ _ _=>intro n hp;cases n <;> exact absurd hp (by show ¬ (false=true);simp)
 | zF3 _ _ _=>intro n hp;cases n <;> exact absurd hp (by show ¬ (false=true);simp)
 | gh _ _=>intro n hp;cases n <;> exact absurd hp (by show ¬ (false=true);simp)
 | map _=>intro n hp;cases n <;> exact absurd hp (by show ¬ (false=true);simp)
 | @func g a a' c c' ha hc hav hcv i1 i2 =>
   intro n hp
   cases n with
   | zero=>exact absurd hp (by show ¬ (false=true);simp)
   | succ n =>
     have hp':(zAC (.func g)&&(jZ (kC n) a.toList&&jZ (kC n) c.toList))=true:=hp;simp only[zMY,xN] at hp';have e1:a'=a:=Array.ext ha.symm fun i h1 h2=>i1 i a[i] a'[i] (by simp[h2]) (by simp[h1]) n (hp'.2.1 _ (by simp))
     have e2:c'=c:=Array.ext hc.symm fun i h1 h2=>i2 i c[i] c'[i] (by simp[h2]) (by simp[h1]) n (hp'.2.2 _ (by simp))
     rw[e1,e2]
 | yield _ =>
   intro n hp
   cases n with
   | zero=>exact absurd hp (by show ¬ (false=true);simp)
   | succ n=>have hp':false=true:=hp;cases hp'
 | iface _ ih =>
   intro n hp
   cases n with
   | zero=>exact absurd hp (by show ¬ (false=true);simp)
   | succ n=>rw[ih n hp]
 | @agg a a' ha hav i1 =>
   intro n hp
   cases n with
   | zero=>exact absurd hp (by show ¬ (false=true);simp)
   | succ n =>
     have hp':jZ (kC n) a.toList=true:=hp;simp only[xN] at hp';have e1:a'=a:=Array.ext ha.symm fun i h1 h2=>i1 i a[i] a'[i] (by simp[h2]) (by simp[h1]) n (hp' _ (by simp))
     rw[e1]
 | tuple _ _ _=>intro n hp;cases n <;> exact absurd hp (by show ¬ (false=true);simp)
theorem zFB.plain {f:Inj}(h:zFB P f v v')(hp:yF v=true):v'=v:=h.zJZ 3 hp
theorem qE.plain {P:Program}{f:Inj}{l l':List Value}(h:qE P f l l')(hp:zQ l=true):l'=l:=by
 induction l generalizing l' with
 | nil=>exact h.zFF
 | cons v l ih =>
   obtain⟨v',t',rfl,hv,ht⟩:=h.zFD;rw[eY,zMY] at hp;rw[hv.plain hp.1,ih ht hp.2]
theorem qKG (h:yF (.agg a)=true):zQ a.toList=true:=by
 have h':jZ (kC 2) a.toList=true:=h;exact xO.2 fun v hv=>qBB 2 v (xN.1 h' v hv)
theorem zFB.zI8 {f:Inj}(h:zFB P f (.agg a) v'):∃ a',v'=.agg a'∧qE P f a.toList a'.toList:=by
 cases h with
 | base _ hp=>exact⟨a,rfl,.zFR (qKG hp)⟩
 | agg ha hav=>exact⟨_,rfl,by simpa using ha,fun i v v' h1 h2=>hav i v v' (by simpa using h1) (by simpa using h2)⟩
theorem zFB.zHB {f:Inj}(h:qE P f a.toList a'.toList):zFB P f (.agg a) (.agg a') :=
 .agg (by simpa using h.1) fun i v v' h1 h2=>h.2 i v v' (by simpa using h1) (by simpa using h2)
theorem zFB.zF6 {f:Inj}(h:qE P f a.toList a'.toList):zFB P f (.tuple a) (.tuple a') :=
 .tuple (by simpa using h.1) fun i v v' h1 h2=>h.2 i v v' (by simpa using h1) (by simpa using h2)
theorem zFB.cells {P:Program}{f:Inj}{v v':Value}(h:zFB P f v v')(hn:zI v=true):qE P f v.cells.toList v'.cells.toList:=by
 cases h with
 | any v=>simp[unk,zI] at hn
 | undef=>simp[Go.undef,zI] at hn
 | base v hp =>
   cases v <;> first
    | (simp only[Value.cells];exact .cons (.base _ hp) .nil)
    | exact .zFR (qKG hp)
    | (simp[zI] at hn)
 | ptr h=>exact .cons (.ptr h) .nil
 | sl h=>exact .cons (.sl h) .nil
 | room h a b=>exact .cons (.room h a b) .nil
 | zF3 h a b=>exact .cons (.zF3 h a b) .nil
 | gh h a=>exact .cons (.gh h a) .nil
 | map h=>exact .cons (.map h) .nil
 | func a b c d=>exact .cons (.func a b c d) .nil
 | yield h=>exact .cons (.yield h) .nil
 | iface h=>exact .cons (.iface h) .nil
 | agg ha hav=>exact⟨by simpa [Value.cells] using ha,fun i v v' h1 h2=>hav i v v' (by simpa [Value.cells] using h1) (by simpa [Value.cells] using h2)⟩
 | tuple _ _=>simp[zI] at hn
def live:Obj->Bool
 | .pending _ _=>false
 | _=>true
def zCK (g:Nat):List (Nat×Nat)->Option Nat
 | []=>none
 | (k,n)::l=>cond (Nat.beq k g) (some n) (zCK g l)
def zCD (g N:Nat):Bool:=match zCK g zCP with
 | some n=>Nat.beq N n
 | none=>true
def zAK (g:Nat):Nat:=(zCK g zCP).getD 0
theorem zBT (g:Nat):zCD g (zAK g)=true:=by
 unfold zCD zAK
 cases zCK g zCP with
 | none=>rfl
 | some n=>exact zQ5 n
def qX (f:Inj)(g:Nat):Bool :=
 match f g with
 | some e=>decide (e.r=g)&&(decide (e.shift=0)&&zCD g e.N)
 | none=>false
theorem dK {f:Inj}{g:Nat}:qX f g=true ↔ ∃ e,f g=some e∧e.r=g∧e.shift=0∧zCD g e.N=true:=by
 unfold qX;split
 ·rename_i e he;simp[he]
 ·rename_i he;simp[he]
theorem zF {f f':Inj}(hl:f.le f')(g:Nat)(h:qX f g=true):qX f' g=true:=by
 rw[dK] at h ⊢;obtain⟨e,h1,h2⟩:=h;exact⟨e,hl _ _ h1,h2⟩
theorem jI (h:∀ g,G g=true->G' g=true){x:Operand}(hx:kR G x=true):kR G' x=true:=by
 cases x <;> first | exact hx | exact h _ hx
theorem kN (h:∀ g,G g=true->G' g=true){ops:Array Oper}(hx:gK G ops=true):gK G' ops=true:=by
 simp only[gK,zM1] at hx ⊢;exact fun o ho x hxx=>jI h (hx o ho x hxx)
theorem qO {G G':Nat->Bool}(h:∀ g,G g=true->G' g=true):∀ (c:Code) (b:Bool),codeOk G b c=true->codeOk G' b c=true
 | .skip,_,_=>rfl
 | .label _,_,_=>rfl
 | .ret,_,_=>rfl
 | .exit _,_,_=>rfl
 | .goto _,_,_=>rfl
 | .refuse _,_,_=>rfl
 | .seq x y,b,hc=>by
   simp only[codeOk,zMY] at hc ⊢;exact⟨qO h x b hc.1,qO h y b hc.2⟩
 | .cond v x y,b,hc=>by
   simp only[codeOk,zMY] at hc ⊢;exact⟨jI h hc.1,qO h x b hc.2.1,qO h y b hc.2.2⟩
 | .block _ x,b,hc=>by simp only[codeOk] at hc ⊢;exact qO h x b hc
 | .loop x,b,hc=>by simp only[codeOk] at hc ⊢;exact qO h x b hc
 | .scope x,b,hc=>by simp only[codeOk] at hc ⊢;exact qO h x b hc
 | .region _ ops draw,b,hc=>by
   simp only[codeOk,zMY] at hc ⊢;exact⟨kN h hc.1,hc.2⟩
 | .rangeFunc v _ x y,b,hc=>by
   simp only[codeOk,zMY] at hc ⊢;exact⟨hc.1,jI h hc.2.1,qO h x true hc.2.2.1,qO h y true hc.2.2.2⟩
def tX (P:Program)(f:Inj)(e:Emb)(o:Obj)(ro:Option Obj):Prop :=
 match o with
 | .cells c el fz=>∃ c' el' fz',ro=some (.cells c' el' fz')∧c'.size=e.N∧e.shift+c.size<=c'.size ∧
    (∀ (i:Nat) v,c[i]?=some v->∃ v',c'[e.shift+i]?=some v'∧zFB P f v v') ∧
    (aZ fz=true->e.ro=false∧el'=el∧∀ j,j < c'.size->¬(fz'.1<=j∧j < fz'.2)) ∧
    (fz=(0,0)->e.shift=0∧c.size=c'.size)
 | .pending _ _=>True
 | .map es clk=>e.ro=false∧∃ es',ro=some (.map es' clk)∧es'.size=es.size ∧
    ∀ (i:Nat) x,es[i]?=some x->∃ x',es'[i]?=some x'∧x'.key=x.key∧x'.born=x.born∧zFB P f x.val x'.val
 | .stringIter s p=>e.ro=false∧e.shift=0∧ro=some (.stringIter s p)
 | .mapIter (some m) since seen last=>e.ro=false∧e.shift=0∧∃ em seen' stepped,f m=some em∧ro=some (.mapIter (some em.r) since seen' stepped) ∧
    (∀ x,x∈seen' ↔ x∈seen.toList)∧(∀ n,last=n+1->seen'.back?=some n)∧(seen'.isEmpty=false->stepped=since)∧(∀ x,x∈seen'->x < since)
 | .loop lp=>e.ro=false∧∃ lp',ro=some (.loop lp')∧lp'.state=lp.state∧lp'.pending=lp.pending∧lp'.params=lp.params∧lp'.assign=lp.assign∧lp'.body=lp.body ∧
    qE P f lp.tmps.toList lp'.tmps.toList∧codeOk (qX f) true lp.assign=true∧codeOk (qX f) true lp.body=true∧(∀ c,lp.pending=some c->qI7 c=true)∧e.shift=0
 | _=>False
theorem tX.mono {P:Program}{f g:Inj}{e:Emb}{o:Obj}{ro:Option Obj}(h:tX P f e o ro)(hl:f.le g):tX P g e o ro:=by
 cases o <;> simp only[tX] at h ⊢
 case cells c el fz =>
  obtain⟨c',el',fz',h1,h2,h3,h4,h5,h6⟩:=h;exact⟨c',el',fz',h1,h2,h3,fun i v hv=>let ⟨v',a,b⟩:=h4 i v hv;⟨v',a,b.mono hl⟩,h5,h6⟩
 case map es clk =>
  obtain⟨h0,es',h1,h2,h3⟩:=h;exact⟨h0,es',h1,h2,fun i x hx=>let ⟨x',a,b,c,d⟩:=h3 i x hx;⟨x',a,b,c,d.mono hl⟩⟩
 case stringIter s p=>exact h
 case mapIter m since seen last =>
  cases m with
  | none=>simp only at h
  | some m =>
    obtain⟨h0,h01,em,seen',st,h1,h2,h3⟩:=h;exact⟨h0,h01,em,seen',st,hl _ _ h1,h2,h3⟩
 case loop lp =>
  obtain⟨h0,lp',h1,h2,h3,h4,h5,h6,h7,h8,h9,h10⟩:=h;exact⟨h0,lp',h1,h2,h3,h4,h5,h6,h7.mono hl,qO (zF hl) _ _ h8,qO (zF hl) _ _ h9,h10⟩
structure Rel (P:Program) (f:Inj) (H:IH) (w:World):Prop where
 dom:∀ b e,f b=some e->b < H.size
 fresh:∀ b,H.size<=b->H.get b=none
 bound:∀ b e,f b=some e->e.r < w.heap.size
 obj:∀ b e o,f b=some e->H.get b=some o->tX P f e o w.heap[e.r]?
 sep:∀ b1 b2 e1 e2 o1 o2,b1≠b2->f b1=some e1->f b2=some e2->H.get b1=some o1->H.get b2=some o2->live o1=true->live o2=true->e1.r=e2.r ->
  e1.ro=true∧e2.ro=true
 zFU:∀ b1 b2 e1 e2,f b1=some e1->f b2=some e2->e1.r=e2.r->e1.ro=e2.ro
def Own (f:Inj)(r:Nat):Prop:=∃ b e,f b=some e∧e.r=r∧e.ro=false
def wV (w:World)(r:Nat):Prop:=∃ lp,w.heap[r]?=some (.loop lp)
structure Grow (f:Inj) (H:IH) (w:World) (f':Inj) (H':IH) (w':World):Prop where
 zF7:H.size<=H'.size
 stay:∀ b,b < H.size->f b=none->f' b=none
 le:f.le f'
 size:w.heap.size<=w'.heap.size
 keep:∀ r,r < w.heap.size->¬ Own f r->¬ Own f' r∧w'.heap[r]?=w.heap[r]?
 un:∀ r,r < w.heap.size->(∀ b e,f b=some e->e.r≠r)->∀ b e,f' b=some e->e.r≠r
 out:w'.os=w.os∧w'.output=w.output∧w'.tape=w.tape
 lps:∀ r,wV w r->wV w' r
theorem Grow.refl (f:Inj)(H:IH)(w:World):Grow f H w f H w:=⟨zM0 _,fun _ _ h=>h,f.le_refl,zM0 _,fun _ _ h=>⟨h,rfl⟩,fun _ _ h=>h,⟨rfl,rfl,rfl⟩,fun _ h=>h⟩
theorem Grow.trans {f f1 f2:Inj}{H H1 H2:IH}{w w1 w2:World}(a:Grow f H w f1 H1 w1)(b:Grow f1 H1 w1 f2 H2 w2):Grow f H w f2 H2 w2 :=
 ⟨zNP a.zF7 b.zF7,fun x hx hn=>b.stay x (zM4 hx a.zF7) (a.stay x hx hn),Inj.le_trans a.le b.le,zNP a.size b.size,fun r hr ho=>by
   obtain⟨h1,h2⟩:=a.keep r hr ho;obtain⟨h3,h4⟩:=b.keep r (zM4 hr a.size) h1
   exact⟨h3,h4.trans h2⟩,fun r hr hu=>b.un r (zM4 hr a.size) (a.un r hr hu),
   ⟨b.out.1.trans a.out.1,b.out.2.1.trans a.out.2.1,b.out.2.2.trans a.out.2.2⟩,fun r h=>b.lps r (a.lps r h)⟩
def Keep (f:Inj)(H H':IH):Prop:=H.size<=H'.size∧∀ b,b < H.size->f b=none->H'.get b=H.get b
theorem Keep.refl (f:Inj)(H:IH):Keep f H H:=⟨zM0 _,fun _ _ _=>rfl⟩
theorem IH.get_put:(H.put b o).get x=if x=b then some o else H.get x:=by
 simp[IH.get,IH.put,Tr.zGK]
theorem IH.zFK:(H.push o).get x=if x=H.size then some o else H.get x:=by
 simp[IH.get,IH.push,Tr.zGK]
@[simp] theorem IH.size_put {H:IH} {b:Nat} {o:Obj}:(H.put b o).size=H.size:=rfl
@[simp] theorem IH.size_push {H:IH} {o:Obj}:(H.push o).size=H.size+1:=rfl
theorem Keep.put {f:Inj}{e:Emb}(h:f b=some e):Keep f H (H.put b o) :=
 ⟨zM0 _,fun x _ hn=>by
   rw[IH.get_put];by_cases hb:x=b
   ·subst hb;rw[h] at hn;cases hn
   ·simp[hb]⟩
theorem Keep.push {f:Inj}:Keep f H (H.push o) :=
 ⟨by simp,fun x hx _=>by rw[IH.zFK,if_neg (by omega)]⟩
def World.put (w:World)(r:Nat)(o:Obj):World:={ w with heap:=w.heap.setIfInBounds r o }
theorem heap_put {w:World}{r:Nat}(h:r < w.heap.size):(World.put w r o).heap[x]?=if x=r then some o else w.heap[x]?:=by
 unfold World.put;by_cases e:x=r
 ·subst e;simp[h]
 ·simp only[e,if_false];rw[zO0 (Ne.symm e)]
theorem heap_alloc {w:World}:(w.alloc o).heap[x]?=if x=w.heap.size then some o else w.heap[x]?:=by
 show (w.heap.push o)[x]?=_;rw[Array.getElem?_push]
structure zGO (rd:Bool) (F:Fence) (w:World):Prop where
 eq:rd=F.round.isSome
 lp:∀ l,F.round=some l->wV w l
theorem zGO.mono {rd:Bool}{w w':World}(h:zGO rd F w)(hl:∀ r,wV w r->wV w' r):zGO rd F w':=⟨h.eq,fun l e=>hl l (h.lp l e)⟩
theorem zGO.none {w:World}(h:F.round=.none):zGO false F w:=⟨by rw[h];rfl,fun l e=>by rw[h] at e;cases e⟩
theorem wV.lt {w:World}{r:Nat}(h:wV w r):r < w.heap.size:=by
 obtain⟨lp,h⟩:=h;exact (zNB.1 h).1
theorem wV.alloc {w:World}{r:Nat}(o:Obj)(h:wV w r):wV (w.alloc o) r:=by
 have:=h.lt;obtain⟨lp,h⟩:=h;exact⟨lp,by rw[heap_alloc,if_neg (by omega)];exact h⟩
theorem wV.put {w:World}{r r0:Nat}(hr:w.heap[r0]?=some o)(hn:∀ lp,o≠.loop lp)(h:wV w r):wV (World.put w r0 o') r:=by
 obtain⟨lp,h⟩:=h
 have hne:r0≠r:=fun e=>by
  subst e;rw[hr] at h;exact hn lp (zN0 h)
 refine⟨lp,?_⟩;show (w.heap.setIfInBounds r0 o')[r]?=_;rw[zO0 hne];exact h
theorem Rel.push {f:Inj}{w:World}{e:Emb}(h:Rel P f H w)(her:e.r=w.heap.size)
 (ho:tX P (f.add H.size e) e o (some o')):Rel P (f.add H.size e) (H.push o) (w.alloc o')∧Grow f H w (f.add H.size e) (H.push o) (w.alloc o'):=by
 have hnone:f H.size=none:=by
  cases hx:f H.size with
  | none=>rfl
  | some y=>have:=h.dom _ _ hx;omega
 have hle:f.le (f.add H.size e):=Inj.zGG hnone;have old:∀ b y,f b=some y->y.r≠w.heap.size:=fun b y hb=>by have:=h.bound b y hb;omega
 refine⟨⟨?_,?_,?_,?_,?_,?_⟩,⟨by simp,(fun b hb hn=>by rw[Inj.zFC (by omega)];exact hn),hle,by simp,?_,?_,⟨rfl,rfl,rfl⟩,fun r h=>h.alloc _⟩⟩
 ·intro b y hb;by_cases e1:b=H.size
  ·subst e1;simp
  ·rw[Inj.zFC e1] at hb;have:=h.dom b y hb;simp;omega
 ·intro b hb;simp only[IH.size_push] at hb;rw[IH.zFK,if_neg (by omega)];exact h.fresh b (by omega)
 ·intro b y hb;by_cases e1:b=H.size
  ·subst e1;rw[Inj.add_same] at hb;cases hb;rw[her];simp
  ·rw[Inj.zFC e1] at hb;have:=h.bound b y hb;simp;omega
 ·intro b y ob hb hob;by_cases e1:b=H.size
  ·subst e1;rw[Inj.add_same] at hb;cases hb;rw[IH.zFK,if_pos rfl] at hob;cases hob;rw[heap_alloc,if_pos her];exact ho
  ·rw[Inj.zFC e1] at hb;rw[IH.zFK,if_neg e1] at hob;rw[heap_alloc,if_neg (old b y hb)];exact (h.obj b y ob hb hob).mono hle
 ·intro b1 b2 e1 e2 o1 o2 hne h1 h2 g1 g2 l1 l2 hr;by_cases x1:b1=H.size
  ·subst x1;rw[Inj.add_same] at h1;cases h1;rw[Inj.zFC (Ne.symm hne)] at h2;exact absurd (hr.symm.trans her) (old b2 e2 h2)
  ·rw[Inj.zFC x1] at h1;by_cases x2:b2=H.size
   ·subst x2;rw[Inj.add_same] at h2;cases h2;exact absurd (hr.trans her) (old b1 e1 h1)
   ·rw[Inj.zFC x2] at h2;rw[IH.zFK,if_neg x1] at g1;rw[IH.zFK,if_neg x2] at g2;exact h.sep b1 b2 e1 e2 o1 o2 hne h1 h2 g1 g2 l1 l2 hr
 ·intro b1 b2 e1 e2 h1 h2 hr;by_cases x1:b1=H.size
  ·subst x1;rw[Inj.add_same] at h1;cases h1;by_cases x2:b2=H.size
   ·subst x2;rw[Inj.add_same] at h2;cases h2;rfl
   ·rw[Inj.zFC x2] at h2;exact absurd (hr.symm.trans her) (old b2 e2 h2)
  ·rw[Inj.zFC x1] at h1;by_cases x2:b2=H.size
   ·subst x2;rw[Inj.add_same] at h2;cases h2;exact absurd (hr.trans her) (old b1 e1 h1)
   ·rw[Inj.zFC x2] at h2;exact h.zFU b1 b2 e1 e2 h1 h2 hr
 ·intro r hr hno;refine⟨?_,by rw[heap_alloc,if_neg (by omega)]⟩;rintro⟨b,y,hb,hyr,hro⟩;by_cases e1:b=H.size
  ·subst e1;rw[Inj.add_same] at hb;cases hb;omega
  ·rw[Inj.zFC e1] at hb;exact hno ⟨b,y,hb,hyr,hro⟩
 ·intro r hr hu b y hb;by_cases e1:b=H.size
  ·subst e1;rw[Inj.add_same] at hb;cases hb;omega
  ·rw[Inj.zFC e1] at hb;exact hu b y hb
theorem tX.zID {f:Inj}{e:Emb}{lp:Loop}(h:tX P f e o (some (.loop lp)))(hl:live o=true):∃ lp,o=.loop lp:=by
 cases o <;> simp only[tX] at h
 case cells=>obtain⟨_,_,_,h,_⟩:=h;cases h
 case map=>obtain⟨_,_,h,_⟩:=h;cases h
 case stringIter=>obtain⟨_,_,h⟩:=h;cases h
 case mapIter m _ _ _ =>
  cases m with
  | none=>exact h.elim
  | some m=>obtain⟨_,_,_,_,_,_,h,_⟩:=h;cases h
 case loop lp=>exact⟨lp,rfl⟩
 case pending=>cases hl
theorem Rel.put {P:Program}{f:Inj}{H:IH}{w w':World}{o o1 o1':Obj}{b:Nat}{e:Emb}(h:Rel P f H w)(hb:f b=some e)(hg:H.get b=some o)(hlive:live o=true)
 (hro:e.ro=false) (ho:tX P f e o1 (some o1')) (hw:∀ x:Nat,w'.heap[x]?=if x=e.r then some o1' else w.heap[x]?) (hws:w'.heap.size=w.heap.size)
 (hout:w'.os=w.os∧w'.output=w.output∧w'.tape=w.tape:=by exact⟨rfl,rfl,rfl⟩)
 (hlo:(∃ lp,o=.loop lp)->∃ lp,o1'=.loop lp:=by first | exact fun _=>⟨_,rfl⟩ | (rintro⟨_,h⟩;cases h)) :
 Rel P f (H.put b o1) w'∧Grow f H w f (H.put b o1) w'∧Keep f H (H.put b o1):=by
 refine⟨⟨h.dom,?_,?_,?_,?_,h.zFU⟩,⟨zM0 _,fun _ _ h=>h,f.le_refl,by omega,?_,fun _ _ h=>h,hout,fun r hl=>?_⟩,Keep.put hb⟩
 ·intro x hx;rw[IH.get_put,if_neg]
  ·exact h.fresh x hx
  ·intro e1;subst e1;have:=h.dom _ _ hb;simp at hx;omega
 ·intro x y hx;rw[hws];exact h.bound x y hx
 ·intro x y ox hx hox;rw[hw];by_cases e1:x=b
  ·subst e1;rw[hb] at hx;cases hx;rw[IH.get_put,if_pos rfl] at hox;cases hox;rw[if_pos rfl];exact ho
  ·rw[IH.get_put,if_neg e1] at hox;by_cases e2:y.r=e.r
   ·-- another block at the same place: dead
    by_cases hlx:live ox=true
    ·have:=h.sep x b y e ox o e1 hx hb hox hg hlx hlive e2;rw[hro] at this;exact absurd this.2 (by simp)
    ·cases ox <;> simp[live] at hlx;simp[tX]
   ·rw[if_neg e2];exact h.obj x y ox hx hox
 ·intro b1 b2 e1 e2 o1' o2' hne h1 h2 g1 g2 l1 l2 hr;rw[IH.get_put] at g1 g2;by_cases x1:b1=b
  ·subst x1;rw[hb] at h1;cases h1;rw[if_neg (Ne.symm hne)] at g2;exact h.sep b1 b2 e e2 o o2' hne hb h2 hg g2 hlive l2 hr
  ·rw[if_neg x1] at g1;by_cases x2:b2=b
   ·subst x2;rw[hb] at h2;cases h2;exact h.sep b1 b2 e1 e o1' o hne h1 hb g1 hg l1 hlive hr
   ·rw[if_neg x2] at g2;exact h.sep b1 b2 e1 e2 o1' o2' hne h1 h2 g1 g2 l1 l2 hr
 ·intro r _ hno;refine⟨hno,?_⟩;rw[hw,if_neg];intro e1;exact hno ⟨b,e,hb,e1.symm,hro⟩
 ·obtain⟨lp,hlp⟩:=hl;by_cases e1:r=e.r
  ·subst e1;obtain⟨lp',zLJ⟩:=hlo (tX.zID (hlp ▸ h.obj b e o hb hg) hlive);exact⟨lp',by rw[hw,if_pos rfl,zLJ]⟩
  ·exact⟨lp,by rw[hw,if_neg e1];exact hlp⟩
theorem Rel.kill {f:Inj}{w:World}{e:Emb}(h:Rel P f H w)(hb:f b=some e):Rel P f (H.put b xB) w:=by
 refine⟨h.dom,?_,h.bound,?_,?_,h.zFU⟩
 ·intro x hx;rw[IH.get_put,if_neg]
  ·exact h.fresh x hx
  ·intro e1;subst e1;have:=h.dom _ _ hb;simp at hx;omega
 ·intro x y ox hx hox;rw[IH.get_put] at hox;by_cases e1:x=b
  ·rw[if_pos e1] at hox;cases hox;simp[tX,xB]
  ·rw[if_neg e1] at hox;exact h.obj x y ox hx hox
 ·intro b1 b2 e1 e2 o1 o2 hne h1 h2 g1 g2 l1 l2 hr;rw[IH.get_put] at g1 g2;by_cases x1:b1=b
  ·rw[if_pos x1] at g1;cases g1;simp[live,xB] at l1
  ·by_cases x2:b2=b
   ·rw[if_pos x2] at g2;cases g2;simp[live,xB] at l2
   ·rw[if_neg x1] at g1;rw[if_neg x2] at g2;exact h.sep b1 b2 e1 e2 o1 o2 hne h1 h2 g1 g2 l1 l2 hr
theorem Rel.world {f:Inj}{w w':World}(h:Rel P f H w)(hw:w'.heap=w.heap):Rel P f H w' :=
 ⟨h.dom,h.fresh,fun b e hb=>by rw[hw];exact h.bound b e hb,fun b e o hb ho=>by rw[hw];exact h.obj b e o hb ho,h.sep,h.zFU⟩
theorem Grow.sizes {f f':Inj}{H' H0 H1:IH}{w w':World}(h:Grow f H w f' H' w')(h0:H0.size<=H.size)(h1:H'.size<=H1.size):Grow f H0 w f' H1 w' :=
 ⟨zNP h0 (zNP h.zF7 h1),fun b hb hn=>h.stay b (zM4 hb h0) hn,h.le,h.size,h.keep,h.un,h.out,h.lps⟩
theorem Grow.world {f:Inj}{w w':World}(hw:w'.heap=w.heap)(hout:w'.os=w.os∧w'.output=w.output∧w'.tape=w.tape:=by exact⟨rfl,rfl,rfl⟩):Grow f H w f H w':=⟨zM0 _,fun _ _ h=>h,f.le_refl,by rw[hw];exact zM0 _,fun r _ h=>⟨h,by rw[hw]⟩,fun _ _ h=>h,hout,fun r h=>by unfold wV;rw[hw];exact h⟩
end Go.Idl
