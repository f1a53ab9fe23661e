/- An ideal interpreter of the model's code: its definitions; the relation of an ideal heap and a world. Conditions: none. -/
import Derived.ControlIn
import Derived.Scope
import GoSem.Machine.Frame
import GoSem.Dispatch
import Derived.RangeFuncRecord
import Derived.OrdersIn
set_option linter.all false
namespace Go.Idl
def zPY:=@Bool.and_eq_true
def zPZ:=@Nat.eq_of_beq_eq_true
def zP0:=@Nat.le_refl
def zP1:=@List.all_eq_true
def zP2:=@List.getElem?_eq_getElem
def zP3:=@Nat.lt_of_lt_of_le
def zP4:=@List.getElem?_eq_some_iff
def zP5:=@List.length_map
def zP6:=@List.mem_cons_of_mem
def zP7:=@Option.some.injEq
def zP8:=@Nat.le_of_ble_eq_true
def zP9:=@Option.map_eq_some_iff
def zQA:=@Array.getElem?_eq_some_iff
def zQB:=@List.mem_cons_self
def zQC:=@Option.map_some
def zQD:=@List.getElem?_map
def zQE:=@Array.getD_eq_getD_getElem?
def zQF:=@Array.getElem?_eq_getElem
def zQG:=@List.map_cons
def zQH:=@Nat.ble_eq_true_of_le
def zQI:=@Nat.zero_add
def zQJ:=@List.length_cons
def zQK:=@List.mem_cons
def zQL:=@List.length_append
def zQM:=@Nat.le_trans
def zQN:=@List.getD_eq_getElem?_getD
def zQO:=@Option.bind_some
def zQP:=@List.length_set
def zQQ:=@List.cons.injEq
def zQR:=@List.mem_map
def zQS:=@List.flatMap_cons
def zQT:=@List.take_of_length_le
def zQU:=@Bool.and_self
def zQV:=@List.getElem?_cons_zero
def zQW:=@List.getElem?_set
def zQX:=@Bool.not_eq_true'
def zQY:=@Nat.lt_succ_self
def zQZ:=@Option.some.inj
def zQ0:=@List.append_assoc
def zQ1:=@Array.length_toList
def zQ2:=@Bool.or_eq_true
def zQ3:=@List.length_take
def zQ4:=@Int.toNat_natCast
def zQ5:=@Option.isSome_iff_exists
def zQ6:=@Nat.mul_le_mul_right
def zQ7:=@List.mem_of_getElem?
def zQ8:=@List.mem_append
def zQ9:=@List.length_eq_zero_iff
def zRA:=@List.mem_singleton
def zRB:=@List.getElem?_eq_none
def zRC:=@Array.mem_def
def zRD:=@List.mem_append_left
def zRE:=@List.map_append
def zRF:=@List.all_cons
def zRG:=@List.ext_getElem?
def zRH:=@Array.ext'
def zRI:=@List.drop_zero
def zRJ:=@List.map_congr_left
def zRK:=@List.getElem?_append_right
def zRL:=@Nat.lt_succ_of_lt
def zRM:=@List.getElem?_append_left
def zRN:=@List.getElem?_take
def zRO:=@Nat.min_eq_left
def zRP:=@Array.getElem?_setIfInBounds_ne
def zRQ:=@List.getElem?_drop
def zRR:=@List.foldl_cons
def zRS:=@Array.eq_empty_of_size_eq_zero
def zRT:=@List.append_nil
def zRU:=@List.replicate_succ
def zRV:=@Nat.add_assoc
def zRW:=@List.mem_append_right
def zRX:=@List.getElem_set_self
def zRY:=@Bool.false_eq_true
def zRZ:=@Option.bind_eq_some_iff
def zR0:=@List.cons_append
def zR1:=@Nat.zero_le
def zR2:=@List.take_succ_cons
def zR3:=@List.getElem?_toArray
def zR4:=@List.length_replicate
def zR5:=@Option.getD_some
def zR6:=@List.map_take
def zR7:=@List.getElem?_replicate
def zR8:=@Nat.not_lt_zero
def zR9:=@List.map_map
def zSA:=@List.map_nil
def zSB:=@List.set_eq_take_append_cons_drop
def zSC:=@Bool.and_true
def zSD:=@List.map_drop
def zSE:=@Array.all_eq_true_iff_forall_mem
def zSF:=@Array.mem_append
def zSG:=@Array.foldl_toList
def zSH:=@List.mem_filterMap
def zSI:=@List.mk_mem_zipIdx_iff_getElem?
def zSJ:=@Nat.add_mul
def zSK:=@Nat.add_zero
def zSL:=@List.mem_of_mem_take
def zSM:=@List.size_toArray
def zSN:=@List.getElem_mem
def zSO:=@Array.toList_map
def zSP:=@List.length_drop
def zSQ:=@Nat.le_of_not_lt
def zSR:=@List.take_length
def zSS:=@Nat.add_comm
def zST:=@Nat.succ_mul
def zSU:=@Bool.false_ne_true
def zSV:=@Array.toList_setIfInBounds
def zSW:=@List.mem_iff_getElem
def zSX:=@List.getElem?_eq_none_iff
def zSY:=@List.drop_eq_getElem_cons
def zSZ:=@List.mem_of_mem_drop
def zS0:=@List.mem_range
def zS1:=@List.filter_cons
def zS2:=@List.mem_flatten
def zS3:=@Nat.succ_lt_succ
def zS4:=@Array.toList_modify
def zS5:=@Array.toList_filter
def zS6:=@List.flatMap_append
def zS7:=@List.getElem?_cons_succ
def zS8:=@List.mem_singleton_self
def zS9:=@Bool.false_or
def zTA:=@Nat.lt_irrefl
def zTB:=@Option.isSome_some
def zTC:=@Int.le_refl
def zTD:=@Int.one_mul
def zTE:=@List.take_take
def zTF:=@Array.getElem?_toList
def zTG:=@List.zipIdx_cons
def zTH:=@List.countP_cons
def zTI:=@Nat.min_eq_right
def zTJ:=@List.getElem?_set_ne
def zTK:=@Nat.le_succ
def zTL:=@List.mem_map_of_mem
def zTM:=@List.countP_eq_zero
def zTN:=@Nat.mul_eq_zero
def zTO:=@List.length_nil
def zTP:=@List.all_append
def zTQ:=@Array.getElem?_replicate
def zTR:=@Nat.zero_mul
def zTS:=@List.getElem?_take_of_lt
def zTT:=@List.map_set
def zTU:=@List.eq_of_mem_replicate
def zTV:=@List.drop_drop
def zTW:=@Nat.add_sub_cancel_left
def zTX:=@Bool.eq_false_iff
def zTY:=@List.flatten_cons
def zTZ:=@Array.size_modify
def zT0:=@Array.getElem?_eq_none
def zT1:=@List.drop_of_length_le
def zT2:=@Bool.not_true
def zT3:=@Bool.or_false
def zT4:=@List.mem_iff_getElem?
def zT5:=@List.take_append_drop
def zT6:=@List.countP_le_length
def zT7:=@List.set_getElem_self
def zT8:=@Int.ediv_lt_of_lt_mul
def zT9:=@Nat.beq_refl
def zUA:=@List.getElem?_append
def zUB:=@Nat.min_zero
def zUC:=@List.getElem?_modify
def zUD:=@List.mem_filter
def zUE:=@Nat.sub_self
def zUF:=@Array.size_push
def zUG:=@Option.map_none
def zUH:=@Bool.or_true
def zUI:=@Int.le_trans
def zUJ:=@List.getElem?_range
def zUK:=@List.filterMap_cons
def zUL:=@List.mapM_cons
def zUM:=@Array.ext_getElem?
def zUN:=@List.countP_append
def zUO:=@Int.natCast_nonneg
def zUP:=@Option.isSome_none
def zUQ:=@Bool.true_and
open Go
variable {c:Code}
section
variable {F:Fence}{n:Nat}{P:Program}{b:Frame}{a:Act}{k:List Item}{cs:List Frame}{w:World}{Q:Exit->Act->World->Prop}
theorem j5:step P (lone (b.atR a (.code (.scope c)::k)) cs w)=.next (lone (b.atR a (.code c::.inScope c::k)) cs w):=step_lone_go (by simp[stepG,stepG.exec,Frame.atR])
theorem qHH:step P (lone (b.atR a (.inScope c::k)) cs w)=.next (lone (b.atR a k) cs w):=step_lone_go (by simp[stepG,stepG.exec,Frame.atR])
theorem wY (h:c.wpIn F n P (Exit.noGoto Q) a w):(Code.scope c).wpIn F n P Q a w:=by
 intro b k cs hro hb hr;have h0:(lone (b.atR a (.code (.scope c)::k)) cs w).fenced P F:=fenced_calm hb hr rfl;obtain⟨e,a₁,w₁,hq,harr⟩:=h b (.inScope c::k) cs hro hb hr
 cases e with
 | normal=>exact⟨.normal,a₁,w₁,hq,.head h0 j5 (StepsIn.trans harr (.one (fenced_calm hb hr rfl) qHH))⟩
 | exit id =>
   have hx:exitTo id (.inScope c::k)=exitTo id k:=by simp[exitTo]
   exact⟨.exit id,a₁,w₁,hq,fun k' hk=>.head h0 j5 (harr.1 k' (by rw[hx];exact hk)),
    fun hr' hk=>let ⟨k₁,h1,h2⟩:=harr.2 hr' (by rw[hx];exact hk);⟨k₁,h1,.head h0 j5 h2⟩⟩
 | goto l=>exact hq.elim
 | ret=>exact⟨_,a₁,w₁,hq,.of_steps (.one h0 j5) harr⟩
 | panic ch=>exact⟨_,a₁,w₁,hq,.of_steps (.one h0 j5) harr⟩
 | outgrown=>exact⟨_,a₁,w₁,hq,.of_steps (.one h0 j5) harr⟩
end
end Go.Idl
namespace Go.Idl
def zD8:List (Nat×Nat):=[(5,20)]
noncomputable section
inductive Tr (α:Type):Type where
 | nil:Tr α
 | node (v:Option α) (l r:Tr α):Tr α
namespace Tr
variable {α:Type}
def get (t:Tr α):Nat->Option α :=
 Tr.rec (fun _=>none) (fun v _ _ ihl ihr n=>Nat.casesOn n v fun m=>cond (Nat.beq (m % 2) 0) (ihl (m / 2)) (ihr (m / 2))) t
theorem get_nil (n:Nat):(Tr.nil:Tr α).get n=none:=rfl
theorem dU (v:Option α)(l r:Tr α):(Tr.node v l r).get 0=v:=rfl
theorem uK (v:Option α)(l r:Tr α)(n:Nat):(Tr.node v l r).get (n+1)=if n % 2=0 then l.get (n / 2) else r.get (n / 2):=by
 show cond (Nat.beq (n % 2) 0) (l.get (n / 2)) (r.get (n / 2))=_;by_cases h:n % 2=0
 ·rw[if_pos h,h];rfl
 ·rw[if_neg h];have:n % 2=1:=by omega
  rw[this];rfl
def qP1 (f:Nat):Tr α->Nat->α->Tr α :=
 Nat.rec (fun t _ _=>t) (fun _ ih t n a=>Tr.casesOn t
  (Nat.casesOn n (.node (some a) .nil .nil) fun m=>cond (Nat.beq (m % 2) 0) (.node none (ih .nil (m / 2) a) .nil) (.node none .nil (ih .nil (m / 2) a)))
  (fun v l r=>Nat.casesOn n (.node (some a) l r) fun m=>cond (Nat.beq (m % 2) 0) (.node v (ih l (m / 2) a) r) (.node v l (ih r (m / 2) a)))) f
theorem qGM (f:Nat)(a:α):qP1 (f+1) .nil 0 a=.node (some a) .nil .nil:=rfl
theorem qDW (f:Nat)(v:Option α)(l r:Tr α)(a:α):qP1 (f+1) (.node v l r) 0 a=.node (some a) l r:=rfl
theorem tZ (n:Nat):Nat.beq (n % 2) 0=decide (n % 2=0):=by
 by_cases h:n % 2=0
 ·rw[h];rfl
 ·rw[decide_eq_false h];have:n % 2=1:=by omega
  rw[this];rfl
theorem oK (f n:Nat)(a:α):qP1 (f+1) .nil (n+1) a=if n % 2=0 then .node none (qP1 f .nil (n / 2) a) .nil else .node none .nil (qP1 f .nil (n / 2) a):=by
 show cond (Nat.beq (n % 2) 0) (Tr.node none (qP1 f .nil (n / 2) a) .nil) (Tr.node none .nil (qP1 f .nil (n / 2) a))=_;rw[tZ];by_cases h:n % 2=0 <;> simp[h]
theorem mM (f n:Nat)(v:Option α)(l r:Tr α)(a:α):qP1 (f+1) (.node v l r) (n+1) a=if n % 2=0 then .node v (qP1 f l (n / 2) a) r else .node v l (qP1 f r (n / 2) a):=by
 show cond (Nat.beq (n % 2) 0) (Tr.node v (qP1 f l (n / 2) a) r) (Tr.node v l (qP1 f r (n / 2) a))=_;rw[tZ];by_cases h:n % 2=0 <;> simp[h]
def set (t:Tr α)(n:Nat)(a:α):Tr α:=qP1 (n+1) t n a
theorem q3W (f:Nat):∀ (t:Tr α) (n m:Nat) (a:α),n < f->(qP1 f t n a).get m=if m=n then some a else t.get m:=by
 induction f with
 | zero=>intro t n m a h;omega
 | succ f ih =>
   intro t n m a h
   cases t with
   | nil =>
     cases n with
     | zero=>cases m <;> simp[qGM,dU,uK,get_nil]
     | succ n =>
       have hlt:n / 2 < f:=by omega
       by_cases hn:n % 2=0
       ·rw[oK,if_pos hn]
        cases m with
        | zero=>simp[dU,get_nil]
        | succ m =>
          rw[uK];by_cases hm:m % 2=0
          ·rw[if_pos hm,ih _ _ _ _ hlt];by_cases e:m=n
           ·simp[e]
           ·rw[if_neg (by omega),if_neg (by omega),get_nil,get_nil]
          ·rw[if_neg hm,if_neg (by omega),get_nil,get_nil]
       ·rw[oK,if_neg hn]
        cases m with
        | zero=>simp[dU,get_nil]
        | succ m =>
          rw[uK];by_cases hm:m % 2=0
          ·rw[if_pos hm,if_neg (by omega),get_nil,get_nil]
          ·rw[if_neg hm,ih _ _ _ _ hlt];by_cases e:m=n
           ·simp[e]
           ·rw[if_neg (by omega),if_neg (by omega),get_nil,get_nil]
   | node v l r =>
     cases n with
     | zero=>cases m <;> simp[qDW,dU,uK]
     | succ n =>
       have hlt:n / 2 < f:=by omega
       by_cases hn:n % 2=0
       ·rw[mM,if_pos hn]
        cases m with
        | zero=>simp[dU]
        | succ m =>
          rw[uK,uK];by_cases hm:m % 2=0
          ·rw[if_pos hm,if_pos hm,ih _ _ _ _ hlt];by_cases e:m=n
           ·simp[e]
           ·rw[if_neg (by omega),if_neg (by omega)]
          ·rw[if_neg hm,if_neg hm,if_neg (by omega)]
       ·rw[mM,if_neg hn]
        cases m with
        | zero=>simp[dU]
        | succ m =>
          rw[uK,uK];by_cases hm:m % 2=0
          ·rw[if_pos hm,if_pos hm,if_neg (by omega)]
          ·rw[if_neg hm,if_neg hm,ih _ _ _ _ hlt];by_cases e:m=n
           ·simp[e]
           ·rw[if_neg (by omega),if_neg (by omega)]
theorem zH1 (t:Tr α)(n m:Nat)(a:α):(t.set n a).get m=if m=n then some a else t.get m:=q3W _ t n m a (zQY n)
end Tr
structure IH where
 tr:Tr Obj
 size:Nat
 base:Nat
 log:List Nat
def xH:Obj:=.pending #[] 0
def IH.get (H:IH)(b:Nat):Option Obj:=H.tr.get b
def IH.put (H:IH)(b:Nat)(o:Obj):IH:={ H with tr:=H.tr.set b o,log:=b::H.log }
def IH.push (H:IH)(o:Obj):IH:={ H with tr:=H.tr.set H.size o,size:=H.size+1 }
def oneCell:Value->Bool
 | .agg _ | .tuple _=>false
 | _=>true
def bK (fz:Nat×Nat):Bool:=fz.2<=fz.1
def IH.load (H:IH)(b i:Nat):Option Value :=
 match H.get b with
 | some (.cells c _ _)=>c[i]?
 | _=>none
def IH.loads (H:IH)(b i n:Nat):Option (List Value) :=
 match H.get b with
 | some (.cells c _ _)=>if i+n<=c.size then some ((c.toList.drop i).take n) else none
 | _=>none
def overwrite (l:List Value)(i:Nat)(vs:List Value):List Value:=l.take i++vs++l.drop (i+vs.length)
def IH.stores (H:IH)(b i:Nat)(vs:List Value):Option IH :=
 match H.get b with
 | some (.cells c el fz) =>
   if i+vs.length<=c.size&&bK fz&&decide (H.base<=b)&&vs.all oneCell then some (H.put b (.cells (overwrite c.toList i vs).toArray el fz)) else none
 | _=>none
def jL {α:Type}(p:α->Bool)(l:List α):Bool:=List.rec true (fun a _ ih=>cond (p a) ih false) l
theorem q12 {α:Type}(p:α->Bool):jL p []=true:=rfl
theorem xR {α:Type}(p:α->Bool)(a:α)(l:List α):jL p (a::l)=(p a&&jL p l):=by
 show cond (p a) (jL p l) false=_;cases p a <;> rfl
theorem kC {α:Type}{p:α->Bool}{l:List α}:jL p l=true ↔ ∀ a∈l,p a=true:=by
 induction l with
 | nil=>simp[q12]
 | cons a l ih=>simp[xR,ih]
def zG {α:Type}(l:List α):Nat->Option α :=
 List.rec (fun _=>none) (fun a _ ih n=>Nat.casesOn n (some a) fun m=>ih m) l
theorem qF {α:Type}(l:List α):∀ n,zG l n=l[n]?:=by
 induction l with
 | nil=>intro n;simp;rfl
 | cons a l ih =>
   intro n
   cases n with
   | zero=>simp;rfl
   | succ n => have:zG (a::l) (n+1)=zG l n:=rfl
               rw[this,ih];simp
def yS {α:Type}(l:List α):Nat->α->List α :=
 List.rec (fun _ _=>[]) (fun a t ih n v=>Nat.casesOn n (v::t) fun m=>a::ih m v) l
theorem qW {α:Type}(l:List α):∀ n v,yS l n v=l.set n v:=by
 induction l with
 | nil=>intro n v;simp;rfl
 | cons a l ih =>
   intro n v
   cases n with
   | zero=>simp;rfl
   | succ n => have:yS (a::l) (n+1) v=a::yS l n v:=rfl
               rw[this,ih];simp
def jA {α β:Type}(g:α->β)(l:List α):List β:=List.rec [] (fun a _ ih=>g a::ih) l
theorem xI {α β:Type}(g:α->β)(l:List α):jA g l=l.map g:=by
 induction l with
 | nil=>rfl
 | cons a l ih=>show g a::jA g l=_;rw[ih];rfl
def qFR {α:Type}(l m:List α):List α:=List.rec m (fun a _ ih=>a::ih) l
theorem bQ {α:Type}(l m:List α):qFR l m=l++m:=by
 induction l with
 | nil=>rfl
 | cons a l ih=>show a::qFR l m=_;rw[ih];rfl
def zBQ:Fn->Bool
 | .func _=>true
 | _=>false
def xS (n:Nat):Value->Bool :=
 Nat.rec (fun _=>false) (fun _ ih v=>match v with
  | .bool _ | .int _ _ | .float _ _ | .complex _ _ _ | .string _ | .nilFunc | .nilIface=>true
  | .pointer a=>a.isNone
  | .slice a l c=>a.isNone&&(Nat.beq l 0&&Nat.beq c 0)
  | .map r | .chan r=>r.isNone
  | .func fn first captured=>zBQ fn&&(jL ih first.toList&&jL ih captured.toList)
  | .iface _ v=>ih v
  | .agg cs=>jL ih cs.toList
  | .tuple _=>false) n
def zN (v:Value):Bool:=xS 3 v
def zP (l:List Value):Bool:=jL zN l
def yU {α:Type}(P:Program)(s:Sem α):Option α :=
 Sem.rec (motive:=fun _=>Option α) (fun a=>some a) (fun _ _ _ _=>none) (fun _ _ _ _ _=>none) (fun _ _ _=>none) (fun _ _ _=>none) (fun _ _ _ _=>none) (fun _ _ _=>none)
  (fun _ _ _=>none) (fun _ _ _ _=>none) (fun q _ ih=>cond q.forced (ih 0) none) (fun _ _ _=>none) (fun _ ih=>ih P) (fun _ _ ih=>ih) (fun _=>none) s
abbrev Env:=List Value
def unk:Value:=.tuple #[.tuple #[]]
def Env.val (env:Env):Operand->Value
 | .tmp t=>(zG env t).getD undef
 | .const v=>v
 | .global g=>.pointer (some ⟨g,0,none⟩)
 | .func f=>.func (.func f) #[] #[]
def Env.zG9 (env:Env)(d:Option Tmp)(v:Value):Env :=
 match d with
 | some t=>yS env t v
 | none=>env
def qVJ (want:Bool):Value->Option Bool
 | .bool b=>some (b==want)
 | .tuple vs=>cond vs.isEmpty (some false) none
 | _=>none
def kS (ops:Array Oper)(o:Oper)(env:Env):Option Bool :=
 match o.guard with
 | none=>some true
 | some (j,want)=>match (ops[j]?).bind (·.dst) with
   | some t=>match zG env t with
     | some v=>qVJ want v
     | none=>none
   | none=>some false
def qMK (P:Program)(t:TypeId):Option Bool :=
 match P.underlying t with
 | some (.struct _) | some (.array _ _)=>some true
 | some _=>some false
 | none=>none
def wT (P:Program)(t:TypeId):Option Value:=(P.info? t).bind (·.zero)
def qBT (P:Program)(t:TypeId):Option Value :=
 match wT P t with
 | some z=>if zP z.cells.toList then some z else none
 | none=>none
def szT (P:Program)(t:TypeId):Option Nat:=(P.info? t).map (·.size)
inductive zGU where
 | val (v:Value) (H:IH)
 | enter (f:FuncId) (args:List Value) (H:IH)
 | round (l:Nat) (args:List Value) (H:IH)
 | choice (n:Nat) (k:Nat->Option (Value×IH))
def zGU.ofO (H:IH):Option Value->Option zGU
 | some v=>some (.val v H)
 | none=>none
def kV (P:Program)(t:TypeId)(a:Value)(H:IH):Option Value :=
 match a with
 | .pointer (some ⟨b,i,none⟩) =>
   match qMK P t with
   | some true=>match szT P t with
     | some n=>match H.loads b i n with
       | some l=>some (.agg l.toArray)
       | none=>none
     | none=>none
   | some false=>H.load b i
   | none=>none
 | _=>none
def fI (P:Program)(t:TypeId)(a v:Value)(H:IH):Option IH :=
 match a with
 | .pointer (some ⟨b,i,none⟩) =>
   if szT P t=some v.cells.size then H.stores b i v.cells.toList else none
 | _=>none
def zB:Value->Bool
 | .tuple _=>false
 | _=>true
def qJO (P:Program)(t:TypeId)(parts:List (Nat×Value)):Option Value :=
 match qBT P t,P.underlying t with
 | some zero,some (.struct fields) =>
   match fields.toList.mapM (fun f=>(szT P f.type).map fun s=>(f.offset,s)) with
   | some places=>if parts.all (fun p=>zB p.2) then (Instr.fill (fun i=>places.toArray[i]?) zero.cells parts).map .agg else none
   | none=>none
 | some zero,some (.array _ elem) =>
   match szT P elem with
   | some size=>if parts.all (fun p=>zB p.2) then (Instr.fill (fun i=>some (i*size,size)) zero.cells parts).map .agg else none
   | none=>none
 | _,_=>none
def bS (P:Program)(elem:TypeId)(n:Nat):Option (Array Value) :=
 if n=0 then some #[] else (qBT P elem).map fun z=>(Array.range n).map fun i=>z.cells[i % z.cells.size]!
def kP (P:Program)(t:TypeId)(len:Nat)(parts:List (Nat×Value))(H:IH):Option zGU :=
 match P.underlying t with
 | some (.slice elem) =>
   match szT P elem with
   | some size =>
     if len*size<=65536&&parts.all (fun p=>zB p.2) then
      match bS P elem (len*size) with
      | some z=>match Instr.fill (fun i=>some (i*size,size)) z parts with
        | some cells=>some (.val (.slice (some ⟨H.size,0,none⟩) len len) (H.push (.cells cells elem)))
        | none=>none
      | none=>none
     else none
   | none=>none
 | _=>none
def jY (P:Program)(t:TypeId)(l c:Value)(H:IH):Option zGU :=
 match P.underlying t,l,c with
 | some (.slice elem),.int _ l,.int _ c =>
   match P.info? elem with
   | some i =>
     if 0<=l&&l<=c&&(i.bytes:Int)*c<=2 ^ 47&&c<=2 ^ 47 then
      match bS P elem (c.toNat*i.size) with
      | some z=>some (.val (.slice (some ⟨H.size,0,none⟩) l.toNat c.toNat) (H.push (.cells z elem)))
      | none=>none
     else none
   | none=>none
 | _,_,_=>none
def gN (d:Nat)(most:Nat):Option Value->Option Nat
 | none=>some d
 | some (.int _ i)=>if 0<=i&&i<=(most:Int) then some i.toNat else none
 | some _=>none
def zJ:Nat×Nat:=(1,1)
def uG (P:Program)(t:TypeId)(x:Value)(lo hi mx:Option Value):Option Value :=
 match P.underlying t,x,mx with
 | some (.slice elem),.slice none 0 0,none =>
   match szT P elem,gN 0 0 hi with
   | some _,some h=>match gN 0 h lo with
     | some _=>some (.slice none 0 0)
     | none=>none
   | _,_=>none
 | some (.slice elem),.slice (some ⟨b,o,sp⟩) len cap,none =>
   match szT P elem,gN len cap hi with
   | some size,some h=>match gN 0 h lo with
     | some l=>if sp.all (·==elem)&&Nat.ble h cap then some (.slice (some ⟨b,if cap=l then o else o+l*size,sp⟩) (h - l) (cap - l)) else none
     | none=>none
   | _,_=>none
 | some (.array n elem),.pointer (some ⟨b,o,none⟩),none =>
   match szT P elem,gN n n hi with
   | some size,some h=>match gN 0 h lo with
     | some l=>some (.slice (some ⟨b,if n=l then o else o+l*size,none⟩) (h - l) (n - l))
     | none=>none
   | _,_=>none
 | _,_,_=>none
def dQ (P:Program)(s:TypeId)(x:Value)(fd:Nat):Option Value :=
 match P.underlying s,x with
 | some (.struct fields),.pointer (some ⟨b,o,none⟩) =>
   match fields[fd]? with
   | some f=>match szT P f.type with
     | some sz=>if sz=0 then none else some (.pointer (some ⟨b,o+f.offset,none⟩))
     | none=>none
   | none=>none
 | _,_=>none
def qS6 (P:Program)(t:TypeId)(cs:Array Value)(off:Nat):Option Value :=
 match qMK P t with
 | some true=>match szT P t with
   | some n=>if off+n<=cs.size then some (.agg (cs.extract off (off+n))) else none
   | none=>none
 | some false=>cs[off]?
 | none=>none
def qXU (P:Program)(t:TypeId)(x:Value)(fd:Nat):Option Value :=
 match P.underlying t,x with
 | some (.struct fields),.agg cs=>match fields[fd]? with
   | some f=>qS6 P f.type cs f.offset
   | none=>none
 | _,_=>none
def kN (P:Program)(t:TypeId)(x ix:Value):Option Value :=
 match P.underlying t,x,ix with
 | some (.array n elem),.pointer (some ⟨b,o,none⟩),.int _ i =>
   match szT P elem with
   | some size=>if 0<=i&&i < (n:Int) then some (.pointer (some ⟨b,o+i.toNat*size,none⟩)) else none
   | none=>none
 | some (.slice elem),.slice (some ⟨b,o,_⟩) len _,.int _ i =>
   match szT P elem with
   | some size=>if 0<=i&&i < (len:Int) then some (.pointer (some ⟨b,o+i.toNat*size,none⟩)) else none
   | none=>none
 | _,_,_=>none
def tH (P:Program)(t:TypeId)(x ix:Value):Option Value :=
 match P.underlying t,x,ix with
 | some (.array n elem),.agg cs,.int _ i =>
   match szT P elem with
   | some size=>if 0<=i&&i < (n:Int) then qS6 P elem cs (i.toNat*size) else none
   | none=>none
 | _,_,_=>none
def wP (P:Program)(kt:TypeId)(k:Value)(es:List MapEntry):Option (Option Nat) :=
 if zN k&&es.all (fun e=>zN e.key) then
  match yU P (Instr.checkKey es.isEmpty 10000 kt k),yU P (Instr.checkKey false 10000 kt k),yU P (Instr.findKey kt k es) with
  | some _,some _,some r=>some (r.map (·.1))
  | _,_,_=>none
 else none
def q40 (ok:Bool)(v:Value)(b:Bool):Value:=cond ok (.tuple #[v,.bool b]) v
def qCN (P:Program)(t:TypeId)(x k:Value)(ok:Bool)(H:IH):Option Value :=
 match P.underlying t,x with
 | some (.map kt et),.map (some r) =>
   match H.get r with
   | some (.map es _)=>match wP P kt k es.toList with
     | some (some i)=>match es[i]? with
       | some e=>some (q40 ok e.val true)
       | none=>none
     | some none=>match wT P et with
       | some z=>if zN z then some (q40 ok z false) else none
       | none=>none
     | none=>none
   | _=>none
 | _,_=>none
def xX (P:Program)(t:TypeId)(x k v:Value)(H:IH):Option IH :=
 match P.underlying t,x with
 | some (.map kt _),.map (some r) =>
   match H.get r with
   | some (.map es clock) =>
     if decide (H.base<=r)&&zB v then
      match wP P kt k es.toList with
      | some (some i)=>match es[i]? with
        | some e=>if Instr.sameBits 10000 e.key k then some (H.put r (.map (es.modify i fun e=>{ e with key:=k,val:=v }) clock)) else none
        | none=>none
      | some none=>some (H.put r (.map (es.push { key:=k,val:=v,born:=clock }) (clock+1)))
      | none=>none
     else none
   | _=>none
 | _,_=>none
def wU (P:Program)(t:TypeId)(x k:Value)(H:IH):Option zGU :=
 match P.underlying t,x with
 | some (.map kt et),.map (some r) =>
   match H.get r with
   | some (.map es clock) =>
     if decide (H.base<=r) then
      match wP P kt k es.toList with
      | some (some i)=>match es[i]? with
        | some e=>if Instr.sameBits 10000 e.key k then some (.val (.tuple #[e.val,goInt e.born]) (H.put r (.map (es.modify i fun e=>{ e with key:=k }) clock))) else none
        | none=>none
      | some none=>match wT P et with
        | some z=>if zN z then some (.val (.tuple #[z,goInt clock]) (H.put r (.map (es.push { key:=k,val:=z,born:=clock }) (clock+1)))) else none
        | none=>none
      | none=>none
     else none
   | _=>none
 | _,_=>none
def fK (x stamp v:Value)(H:IH):Option IH :=
 match x,stamp with
 | .map (some r),.int _ born =>
   match H.get r with
   | some (.map es clock) =>
     if decide (H.base<=r)&&zB v then
      match es.findIdx? (fun e=>(e.born:Int)==born) with
      | some i=>some (H.put r (.map (es.modify i fun e=>{ e with val:=v }) clock))
      | none=>none
     else none
   | _=>none
 | _,_=>none
def qI9 (P:Program)(t:TypeId)(x:Value)(H:IH):Option zGU :=
 match P.underlying t,x with
 | some .string,.string s=>some (.val (.pointer (some ⟨H.size,0,none⟩)) (H.push (.stringIter s 0)))
 | some (.map _ _),.map (some m)=>match H.get m with
   | some (.map _ clock)=>some (.val (.pointer (some ⟨H.size,0,none⟩)) (H.push (.mapIter (some m) clock #[] 0)))
   | _=>none
 | _,_=>none
def insertSorted (n:Nat):List Nat->List Nat
 | []=>[n]
 | m::l=>if n < m then n::m::l else m::insertSorted n l
def qHF (m r since:Nat)(seen:Array Nat)(left:Array MapEntry)(H:IH):Option zGU :=
 if left.isEmpty then some (.val (.tuple #[.bool false]) (H.put r (.mapIter (some m) since seen 0)))
 else some (.choice left.size fun i=>match left[i]? with
  | some e=>if !zN e.key then none else some (.tuple #[.bool true,e.key,e.val],H.put r (.mapIter (some m) since (insertSorted e.born seen.toList).toArray (e.born+1)))
  | none=>none)
def qKW (x:Value)(isString:Bool)(H:IH):Option zGU :=
 match x with
 | .pointer (some ⟨r,0,none⟩) =>
   match H.get r,isString with
   | some (.stringIter s pos),true =>
     if decide (H.base<=r) then
      if pos < s.size then
       some (.val (.tuple #[.bool true,goInt pos,.int .i32 (Utf8.decode s pos).1]) (H.put r (.stringIter s (pos+(Utf8.decode s pos).2))))
      else some (.val (.tuple #[.bool false]) H)
     else none
   | some (.mapIter (some m) since seen _),false =>
     match H.get m with
     | some (.map es clock) =>
       if decide (H.base<=r)&&clock==since&&es.all (fun e=>e.born < since) then
        qHF m r since seen (es.filter fun e=>!seen.contains e.born) H
       else none
     | _=>none
   | _,_=>none
 | _=>none
def qEG (x:Value)(H:IH):Option Value :=
 match x with
 | .pointer (some ⟨r,0,none⟩) =>
   match H.get r with
   | some (.mapIter (some m) since _ (last+1))=>match H.get m with
     | some (.map es clock)=>if clock==since then (match es.find? (·.born==last) with
       | some e=>if zN e.key then some (.tuple #[e.key,e.val]) else none
       | none=>none) else none
     | _=>none
   | _=>none
 | _=>none
def qXM (P:Program)(t:TypeId):Value->Value->Option Bool
 | .pointer (some a),.pointer (some b) =>
   match P.underlying t with
   | some (.pointer el)=>match szT P el with
     | some n=>if n != 0&&a.block==b.block&&a.spot.isNone&&b.spot.isNone then some (a.off==b.off) else none
     | none=>none
   | _=>none
 | _,_=>none
def uR:Value->Value->Option Bool
 | .pointer none,.pointer b | .pointer b,.pointer none=>some b.isNone
 | .slice none _ _,.slice b _ _ | .slice b _ _,.slice none _ _=>some b.isNone
 | .map none,.map b | .map b,.map none=>some b.isNone
 | .nilFunc,.nilFunc=>some true
 | .nilFunc,.func _ _ _ | .func _ _ _,.nilFunc=>some false
 | _,_=>none
def zO:List Value->Option (List UInt8)
 | []=>some []
 | .int .u8 n::l=>(zO l).map (UInt8.ofNat n.toNat::·)
 | _=>none
def kL:Value->Option Nat
 | .slice _ n _=>some n
 | .string s=>some s.size
 | _=>none
def wZ (size n:Nat)(H:IH):Value->Option (List Value)
 | .slice (some ⟨b,o,_⟩) _ _=>H.loads b o (n*size)
 | .slice none _ _=>if n=0 then some [] else none
 | .string s=>some (((s.extract 0 n).data.toList).map fun b=>.int .u8 b.toNat)
 | _=>none
def jJ (size n:Nat)(H:IH)(x:Value):Option (List Value):=if n=0 then (if (kL x).isSome then some [] else none) else wZ size n H x
def qLJ (elem:TypeId)(H:IH):Option Addr->Option IH
 | none=>some H
 | some ⟨_,_,none⟩=>some H
 | some ⟨b,_,some el⟩=>match H.get b with
   | some (.cells _ el' fz)=>if bK fz&&decide (H.base<=b)&&el==elem&&el'==elem then some (H.put b xH) else none
   | _=>none
def qWH (size:Nat):Value->Bool
 | .string _=>Nat.beq size 1
 | _=>true
def qOU (P:Program)(elem:TypeId)(info:TypeInfo)(xd:TypeDesc)(x:Value)(H:IH):Option (Nat×List Value) :=
 match xd with
 | .int _=>(match x with
   | .int _ l=>if 0<=l&&l<=65536&&l.toNat*info.bytes<=2 ^ 40 then
      (if l.toNat*info.size=0 then some (l.toNat,[]) else (qBT P elem).map fun z=>(l.toNat,(Builtin.zeroCells z.cells l.toNat).toList)) else none
   | _=>none)
 | _=>(match kL x with
   | some n=>cond (qWH info.size x) ((jJ info.size n H x).map fun l=>(n,l)) none
   | none=>none)
def qNY (elem:TypeId)(size:Nat)(base:Option Addr)(len cap need:Nat)(new:List Value)(H:IH):Option zGU :=
 match base with
 | some a=>if a.spot.all (·==elem) then
    (if new.isEmpty then some (.val (.slice base need cap) H) else match H.stores a.block (a.off+len*size) new with
      | some H'=>some (.val (.slice base need cap) H')
      | none=>none) else none
 | none=>if len==0&&cap==0 then some (.val (.slice none 0 0) H) else none
def qSG (P:Program)(elem:TypeId)(info:TypeInfo)(base:Option Addr)(len cap need:Nat)(new:List Value)(H:IH):Option zGU :=
 if need<=2 ^ 40&&need*info.bytes<=2 ^ 45&&new.all oneCell&&((wT P elem).map (·.cells.size))==some info.size then
  match wZ info.size len H (.slice base len cap),qLJ elem H base with
  | some old,some H'=>some (.val (.slice (some ⟨H'.size,0,some elem⟩) need need) (H'.push (.cells (old++new).toArray elem zJ)))
  | _,_=>none
 else none
def wL (P:Program)(elem:TypeId)(info:TypeInfo)(base:Option Addr)(len cap:Nat)(H:IH)(r:Option (Nat×List Value)):Option zGU :=
 match r with
 | some (n,new)=>if len+n<=cap then qNY elem info.size base len cap (len+n) new H else qSG P elem info base len cap (len+n) new H
 | none=>none
def u7 (P:Program)(argTypes:Array TypeId)(args:List Value)(H:IH):Option zGU :=
 match argTypes.toList,args with
 | [st,xt],[.slice base len cap,x] =>
   match P.underlying st with
   | some (.slice elem) =>
     match P.info? elem,P.underlying xt with
     | some info,some xd=>wL P elem info base len cap H (qOU P elem info xd x H)
     | _,_=>none
   | _=>none
 | _,_=>none
def uL (base:Option Addr)(n:Nat)(l:List Value)(H:IH):Option zGU :=
 match base with
 | some a=>if l.isEmpty then some (.val (goInt n) H) else match H.stores a.block a.off l with
   | some H'=>some (.val (goInt n) H')
   | none=>none
 | none=>some (.val (goInt n) H)
def qD7 (P:Program)(argTypes:Array TypeId)(args:List Value)(H:IH):Option zGU :=
 match argTypes.toList,args with
 | [st,_],[.slice base qPL _,x] =>
   match P.underlying st with
   | some (.slice elem) =>
     match szT P elem,kL x with
     | some size,some m =>
       match jJ size (Nat.min m qPL) H x with
       | some l=>uL base (Nat.min m qPL) l H
       | none=>none
     | _,_=>none
   | _=>none
 | _,_=>none
def qHX (P:Program)(src dst:TypeId)(x:Value)(H:IH):Option Value :=
 match x with
 | .pointer (some ⟨b,o,none⟩) =>
   match H.get b with
   | some (.cells c el fz) =>
     match P.underlying src,P.underlying dst with
     | some (.pointer t),some .unsafePointer=>match szT P t with
       | some n=>if n != 0&&decide (o < c.size) then some x else none
       | none=>none
     | some .unsafePointer,some (.pointer u)=>match szT P u with
       | some n=>if n != 0&&fz==(0,0)&&liesAt P P.depth el (c.size / P.cellsOf el) o u 1 then some x else none
       | none=>none
     | _,_=>none
   | _=>none
 | _=>none
def xV (P:Program)(argTypes:Array TypeId)(args:List Value)(H:IH):Option zGU :=
 match argTypes[0]?,args with
 | some pt,[.pointer none,.int _ n]=>if n=0&&(P.underlying pt).isSome then some (.val (.string .empty) H) else none
 | some pt,[.pointer (some ⟨b,o,none⟩),.int _ n] =>
   match P.underlying pt with
   | some (.pointer u) =>
     if n=0 then some (.val (.string .empty) H)
     else if 0 < n&&n<=2 ^ 60 then
      match H.get b with
      | some (.cells c el fz) =>
        if bK fz&&P.cellsOf el==1&&sameLayout P P.depth el u&&decide (H.base<=b) then
         match (H.loads b o n.toNat).bind zO with
         | some bs=>some (.val (.string ⟨bs.toArray⟩) (H.put b (.cells c el (0,1))))
         | none=>none
        else none
      | _=>none
     else none
   | _=>none
 | _,_=>none
def pM (P:Program)(ts:Array TypeId)(args:List Value)(H:IH):Option zGU :=
 match (ts[0]?).bind P.underlying,args with
  | some (.slice _),[.slice _ n _]=>some (.val (goInt n) H)
  | some (.map _ _),[.map (some r)]=>match H.get r with
    | some (.map es _)=>some (.val (goInt es.size) H)
    | _=>none
  | some (.array n _),[_]=>some (.val (goInt n) H)
  | _,_=>none
def yG (P:Program)(b:Builtin)(c:Call)(args:List Value)(H:IH):Option zGU :=
 match b with
 | .append=>u7 P c.argTypes args H
 | .copy=>qD7 P c.argTypes args H
 | .len=>pM P c.argTypes args H
 | .unsafeSliceData=>match args with
   | [.slice none _ _]=>some (.val (.pointer none) H)
   | [.slice (some a) _ c]=>if c != 0 then some (.val (.pointer (some ⟨a.block,a.off,none⟩)) H) else none
   | _=>none
 | .unsafeString=>xV P c.argTypes args H
 | _=>none
def fP (P:Program)(c:Call)(env:Env)(H:IH):Option zGU :=
 let args:=jA env.val c.args.toList
 match c.callee with
 | .builtin b=>yG P b c args H
 | .invoke _ _=>none
 | .value f=>match env.val f with
   | .func (.func g) first captured =>
     match P.funcs[g]? with
     | some fn=>if fn.body.isSome then (if fn.name != "runtime.NumGoroutine" then some (.enter g (qFR first.toList (qFR args captured.toList)) H) else none)
       else if fn.name == "internal/abi.NoEscape" && fn.origin == "" then (match qFR first.toList (qFR args captured.toList) with
        | [v]=>some (.val v H)
        | _=>none)
       else none
     | none=>none
   | .func (.yield l) first captured=>if first.isEmpty&&captured.isEmpty then some (.round l args H) else none
   | _=>none
def qKH:Value->Bool
 | .tuple vs=>zP vs.toList
 | v=>zN v
def qB8 (H:IH)(v:Value):Option zGU :=
 cond (qKH v) (some (.val v H)) none
def qGC (H:IH):Option Next->Option zGU
 | some (.value v)=>qB8 H v
 | _=>none
def jE (P:Program)(o:Oper)(env:Env)(H:IH):Option zGU :=
 if zP (jA env.val o.op.operands.toList) then qGC H (yU P (execOp env.val o)) else none
def eZ (op:BinOp)(k:IntKind)(a b:Int):Option Value :=
 match op with
 | .add=>some (.int k (k.wrap (a+b)))
 | .sub=>some (.int k (k.wrap (a - b)))
 | .mul=>some (.int k (k.wrap (a*b)))
 | .quo=>if b=0 then none else some (.int k (k.wrap (a.tdiv b)))
 | .rem=>if b=0 then none else some (.int k (a.tmod b))
 | .eql=>some (.bool (a==b))
 | .neq=>some (.bool (a != b))
 | .lss=>some (.bool (a < b))
 | .leq=>some (.bool (a<=b))
 | .gtr=>some (.bool (a > b))
 | .geq=>some (.bool (a ≥ b))
 | _=>none
def q4Z:IntKind->Nat
 | .i8=>0 | .i16=>1 | .i32=>2 | .i64=>3 | .u8=>4 | .u16=>5 | .u32=>6 | .u64=>7
theorem q1P {a b:IntKind}(h:Nat.beq (q4Z a) (q4Z b)=true):a=b:=by
 cases a <;> cases b <;> first | rfl | (exact absurd h (by decide))
theorem qZG (a:IntKind):Nat.beq (q4Z a) (q4Z a)=true:=by cases a <;> rfl
def asI:Value->Option (IntKind×Int)
 | .int k n=>some (k,n)
 | _=>none
def uW (P:Program)(t:TypeId)(x:Value):Bool :=
 match P.underlying t,x with
 | some (.pointer _),.pointer _=>true
 | some (.slice _),.slice _ _ _=>true
 | some (.map _ _),.map _=>true
 | some (.func _ _ _),.nilFunc=>true
 | some (.func _ _ _),.func _ _ _=>true
 | _,_=>false
def mG (P:Program)(t:TypeId)(x y:Value):Option Bool :=
 match uR x y with
 | some b=>cond (uW P t x) (some b) none
 | none=>qXM P t x y
def zG2 (P:Program)(o:Oper)(op:BinOp)(t:TypeId)(x y:Value)(env:Env)(H:IH):Option zGU :=
 match op with
 | .eql=>(match mG P t x y with
   | some b=>some (.val (.bool b) H)
   | none=>jE P o env H)
 | .neq=>(match mG P t x y with
   | some b=>some (.val (.bool !b) H)
   | none=>jE P o env H)
 | _=>jE P o env H
def zHI (P:Program)(o:Oper)(op:BinOp)(k k':IntKind)(a b:Int)(env:Env)(H:IH):Option zGU :=
 cond (Nat.beq (q4Z k) (q4Z k')) (match eZ op k a b with
  | some v=>some (.val v H)
  | none=>jE P o env H) (jE P o env H)
def yX (P:Program)(o:Oper)(op:BinOp)(t:TypeId)(x y:Value)(env:Env)(H:IH):Option zGU :=
 match asI x with
 | some (k,a)=>(match asI y with
   | some (k',b)=>zHI P o op k k' a b env H
   | none=>zG2 P o op t x y env H)
 | none=>zG2 P o op t x y env H
def qOO (c a b:Value)(H:IH):Option zGU :=
 match c with
 | .bool t=>some (.val (cond t a b) H)
 | _=>none
def tN (P:Program)(elem:TypeId)(H:IH):Option zGU :=
 match qBT P elem with
 | some z=>some (.val (.pointer (some ⟨H.size,0,none⟩)) (H.push (.cells z.cells elem)))
 | none=>none
def q8A (elem:TypeId)(v:Value)(H:IH):Option zGU :=
 if zB v then some (.val (.pointer (some ⟨H.size,0,none⟩)) (H.push (.cells v.cells elem))) else none
def qIE:Option IH->Option zGU
 | some H'=>some (.val undef H')
 | none=>none
def uJ (v:Value)(H:IH):Option zGU :=
 match v with
 | .pointer (some a)=>some (.val (.pointer (some a)) H)
 | .func (.func g) f c=>some (.val (.func (.func g) f c) H)
 | .func (.yield l) f c=>some (.val (.func (.yield l) f c) H)
 | _=>none
def fQ (P:Program)(o:Oper)(src dst:TypeId)(v:Value)(env:Env)(H:IH):Option zGU :=
 match v with
 | .pointer a=>zGU.ofO H (qHX P src dst (.pointer a) H)
 | _=>jE P o env H
def uD (fn:Fn)(first captured:Array Value)(H:IH):Option zGU :=
 match fn with
 | .func g=>some (.val (.func (.func g) first captured) H)
 | _=>none
def uT (P:Program)(o:Oper)(t:TypeId)(v:Value)(lo hi mx:Option Value)(env:Env)(H:IH):Option zGU :=
 match v with
 | .string _=>jE P o env H
 | v=>zGU.ofO H (uG P t v lo hi mx)
def uQ (P:Program)(o:Oper)(t:TypeId)(v ix:Value)(env:Env)(H:IH):Option zGU :=
 match v with
 | .string _=>jE P o env H
 | v=>zGU.ofO H (tH P t v ix)
def uF (H:IH):Option Value->Option zGU
 | some v=>cond (zB v) (some (.val v H)) none
 | none=>none
def fG (v:Value)(ix:Nat)(H:IH):Option zGU :=
 match v with
 | .tuple vs=>uF H (zG vs.toList ix)
 | _=>none
def yJ (P:Program)(o:Oper)(c:Call)(env:Env)(H:IH):Option zGU :=
 match fP P c env H with
 | some r=>some r
 | none=>jE P o env H
def dG (r:Option Operand)(H:IH):Option zGU :=
 match r with
 | none=>some (.val (.map (some H.size)) (H.push (.map #[] 0)))
 | some _=>none
def iop (P:Program)(o:Oper)(env:Env)(H:IH):Option zGU :=
 match o.op with
 | .move x=>some (.val (env.val x) H)
 | .assign x=>some (.val (env.val x) H)
 | .pick c a b=>qOO (env.val c) (env.val a) (env.val b) H
 | .alloc elem=>tN P elem H
 | .box elem x=>q8A elem (env.val x) H
 | .build t parts=>zGU.ofO H (qJO P t (parts.toList.map fun p=>(p.1,env.val p.2)))
 | .buildSlice t len parts=>kP P t len (parts.toList.map fun p=>(p.1,env.val p.2)) H
 | .load t a=>zGU.ofO H (kV P t (env.val a) H)
 | .store t a x=>qIE (fI P t (env.val a) (env.val x) H)
 | .nilCheck x=>uJ (env.val x) H
 | .binOp op t x y _=>yX P o op t (env.val x) (env.val y) env H
 | .convert src dst x=>fQ P o src dst (env.val x) env H
 | .makeFunc fn first captured=>uD fn (first.map env.val) (captured.map env.val) H
 | .makeMap _ r=>dG r H
 | .makeSlice t l c=>jY P t (env.val l) (env.val c) H
 | .slice t x lo hi mx=>uT P o t (env.val x) (lo.map env.val) (hi.map env.val) (mx.map env.val) env H
 | .fieldAddr s x f=>zGU.ofO H (dQ P s (env.val x) f)
 | .field t x f=>zGU.ofO H (qXU P t (env.val x) f)
 | .indexAddr t x ix=>zGU.ofO H (kN P t (env.val x) (env.val ix))
 | .index t x ix=>uQ P o t (env.val x) (env.val ix) env H
 | .lookup t x k ok=>zGU.ofO H (qCN P t (env.val x) (env.val k) ok H)
 | .mapUpdate t m k x=>qIE (xX P t (env.val m) (env.val k) (env.val x) H)
 | .insert t m k x=>qIE (xX P t (env.val m) (env.val k) (env.val x) H)
 | .mapEntry t m k=>wU P t (env.val m) (env.val k) H
 | .entryStore _ m st x=>qIE (fK (env.val m) (env.val st) (env.val x) H)
 | .range t x=>qI9 P t (env.val x) H
 | .next it isString=>qKW (env.val it) isString H
 | .entry it=>zGU.ofO H (qEG (env.val it) H)
 | .extract t ix=>fG (env.val t) ix H
 | .call c=>yJ P o c env H
 | .unOp _ _ _=>jE P o env H
 | _=>none
inductive T (α:Type):Type where
 | fail:T α
 | ret (a:α):T α
 | ch (n:Nat) (k:Nat->T α):T α
 | sp (p:Value×IH->Prop) (k:Value×IH->T α):T α
def T.bind {α β:Type}(t:T α)(f:α->T β):T β:=T.rec .fail f (fun n _ ih=>.ch n ih) (fun p _ ih=>.sp p ih) t
def T.ofO {α:Type}:Option α->T α
 | some a=>.ret a
 | none=>.fail
inductive zHR where
 | normal
 | exit (id:Nat)
 | goto (l:Nat)
 | ret
 deriving DecidableEq
structure Out where
 e:zHR
 env:Env
 H:IH
inductive Job where
 | code (c:Code) (env:Env)
 | call (f:FuncId) (args:List Value)
 | round (l:Nat) (args:List Value)
abbrev xJ:=FuncId->Option (List Value->IH->T (Value×IH))
def q1M (P:Program)(env:Env)(H:IH):ResultVar->Option Value
 | .tmp t=>some ((zG env t).getD undef)
 | .cell a t=>kV P t ((zG env a).getD undef) H
def qOT (P:Program)(env:Env)(H:IH):List ResultVar->Option (List Value)
 | []=>some []
 | r::l=>match q1M P env H r with
   | some v=>(match qOT P env H l with
     | some vs=>some (v::vs)
     | none=>none)
   | none=>none
def one (l:List Value):Value :=
 match l with
 | [v]=>v
 | vs=>.tuple vs.toArray
def vG (P:Program)(fn:Func)(env:Env)(H:IH):Option Value:=(qOT P env H fn.results.toList).map one
inductive Cls where
 | pure | read | alloc | call | fresh | write
 deriving DecidableEq
def xQ (o:Oper):Cls :=
 match o.op with
 | .move _ | .assign _ | .pick .. | .nilCheck _ | .binOp .. | .unOp .. | .makeFunc .. | .fieldAddr .. | .field .. | .indexAddr .. | .index .. | .extract .. | .slice .. | .build ..=>.pure
 | .load .. | .lookup .. | .entry _ | .convert ..=>.read
 | .alloc _=>if o.guard.isNone then .alloc else .fresh
 | .box .. | .buildSlice .. | .makeMap .. | .makeSlice .. | .range ..=>.fresh
 | .call c=>match c.callee with
   | .builtin .len=>.read
   | .builtin .min | .builtin .max | .builtin .unsafeSliceData=>.pure
   | .value _=>.call
   | _=>.write
 | _=>.write
def Cls.eff:Cls->Bool
 | .call | .fresh | .write=>true
 | _=>false
def uO (ops:Array Oper)(o:Oper):List Tmp :=
 (o.op.operands.toList.filterMap fun | .tmp t=>some t | _=>none) ++
 (match o.guard with
  | some (g,_)=>((ops[g]?).bind (·.dst)).toList
  | none=>[])
def qL (o:Oper):Bool:=decide (xQ o=.alloc)
def vS (b:Array Nat)(i j:Nat):Bool:=(b.getD j 0).testBit i
def qRR (b:Array Nat)(i j:Nat):Bool:=vS b i j||vS b j i
def qWZ (ops:Array Oper)(b:Array Nat):Bool :=
 let l:=ops.toList.zipIdx
 l.all fun (o,i) =>
  -- each edge leads back
  (o.after.all fun e=>!Region.binds .any e||decide (e.on < i)) &&
  l.all fun (p,j) =>
   (decide (i=j) ||
     ((match o.dst with
       | some d=>p.dst != some d&&(!((uO ops p).contains d)||cond (qL o) (vS b i j) (qRR b i j))
       | none=>true) &&
      (!((xQ o).eff&&(xQ p).eff)||qRR b i j) &&
      true))
def aI (ops:Array Oper):Bool:=qWZ ops (Region.before ops)
def uH (r:Out):T (Value×IH) :=
 match r.env with
 | [v]=>.ret (v,r.H)
 | _=>.fail
def yK (run:Job->IH->T Out)(nat:xJ)(f:FuncId)(args:List Value)(H:IH):T (Value×IH) :=
 match nat f with
 | some g=>g args H
 | none=>(run (.call f args) H).bind uH
def qLR (run:Job->IH->T Out)(nat:xJ)(s:Option zGU):T (Value×IH) :=
 match s with
 | some (.val v H)=>.ret (v,H)
 | some (.enter f args H)=>yK run nat f args H
 | some (.round l args H)=>(run (.round l args) H).bind uH
 | some (.choice n k)=>.ch n fun i=>T.ofO (k i)
 | none=>.fail
def tJ (P:Program)(run:Job->IH->T Out)(nat:xJ)(o:Oper)(env:Env)(H:IH):T (Value×IH) :=
 qLR run nat (iop P o env H)
def vO {α:Type}(c:Option Bool)(yes no bad:α):α :=
 match c with
 | some true=>yes
 | some false=>no
 | none=>bad
def q5G (P:Program)(run:Job->IH->T Out)(nat:xJ)(ops:Array Oper)(l:List Oper):Env->IH->T (Env×IH) :=
 List.rec (fun env H=>.ret (env,H)) (fun o _ ih env H =>
  vO (kS ops o env) ((tJ P run nat o env H).bind fun r=>ih (env.zG9 o.dst r.1) r.2) (ih (env.zG9 o.dst undef) H) .fail) l
theorem qJ3 {P:Program}{run:Job->IH->T Out}{nat:xJ}{ops:Array Oper}{o:Oper}{l:List Oper}{env:Env}{H:IH} :
 q5G P run nat ops (o::l) env H=vO (kS ops o env) ((tJ P run nat o env H).bind fun r=>q5G P run nat ops l (env.zG9 o.dst r.1) r.2)
  (q5G P run nat ops l (env.zG9 o.dst undef) H) .fail:=rfl
def q4Y (t:T (Value×IH)):Option (Value×IH) :=
 match t with
 | .ret r=>some r
 | _=>none
def qGX (P:Program):List Oper->Env->IH->Option (Env×IH)
 | [],env,H=>some (env,H)
 | o::rest,env,H =>
   if qL o then
    match iop P o env H with
    | some (.val v H')=>qGX P rest (env.zG9 o.dst v) H'
    | _=>none
   else qGX P rest env H
structure Rec where
 i:Nat
 o:Oper
 env:Env
 v:Value
def qNZ (ops:Array Oper)(b:Array Nat):List (Nat×Nat×Nat) :=
 (ops.toList.zipIdx.filter fun p=>decide (xQ p.1=.read)).filterMap fun p =>
   let zKV:=ops.toList.zipIdx.filter fun q=>(xQ q.1).eff
   let lo:=(zKV.filter fun q=>vS b q.2 p.2).length
   let hi:=(zKV.filter fun q=>!vS b p.2 q.2).length
   if lo=hi then none else some (p.2,lo,hi)
def loose (ops:Array Oper):List (Nat×Nat×Nat):=qNZ ops (Region.before ops)
def qCF (i:Nat)(l:List (Nat×Nat×Nat)):Option (Nat×Nat) :=
 List.rec none (fun a _ ih=>cond (Nat.beq a.1 i) (some a.2) ih) l
def qE7 {α:Type}(c:Bool)(a:α)(l:List α):List α:=cond c (a::l) l
def q03 (c:Option (Nat×Nat))(i:Nat)(o:Oper)(env:Env)(v:Value)(l:List Rec):List Rec :=
 match c with
 | some _=>⟨i,o,env,v⟩::l
 | none=>l
def q8M (o:Oper)(i:Nat)(env:Env)(v:Value)(H':IH)(lo:List (Nat×Nat×Nat))(r:Option (Env×IH×List IH×List Rec)):Option (Env×IH×List IH×List Rec) :=
 match r with
 | some (e,h,hs,rs)=>some (e,h,qE7 (xQ o).eff H' hs,q03 (qCF i lo) i o env v rs)
 | none=>none
def q23 (o:Oper)(H:IH)(r:Option (Env×IH×List IH×List Rec)):Option (Env×IH×List IH×List Rec) :=
 match r with
 | some (e,h,hs,rs)=>some (e,h,qE7 (xQ o).eff H hs,rs)
 | none=>none
def q19 (o:Oper)(i:Nat)(env:Env)(lo:List (Nat×Nat×Nat))(ih:Env->IH->Option (Env×IH×List IH×List Rec))(r:Option (Value×IH)):Option (Env×IH×List IH×List Rec) :=
 match r with
 | some r=>q8M o i env r.1 r.2 lo (ih (env.zG9 o.dst r.1) r.2)
 | none=>none
def qM0 (P:Program)(run:Job->IH->T Out)(nat:xJ)(ops:Array Oper)(lo:List (Nat×Nat×Nat))(l:List Oper):Nat->Env->IH->Option (Env×IH×List IH×List Rec) :=
 List.rec (fun _ env H=>some (env,H,[],[])) (fun o _ ih i env H =>
  cond (qL o) (ih (i+1) env H)
   (vO (kS ops o env) (q19 o i env lo (ih (i+1)) (q4Y (tJ P run nat o env H)))
     (q23 o H (ih (i+1) (env.zG9 o.dst undef) H)) none)) l
def eqL {α:Type}(eq:α->α->Bool)(l:List α):List α->Bool :=
 List.rec (fun m=>m.isEmpty) (fun a _ ih m=>match m with | []=>false | b::m=>cond (eq a b) (ih m) false) l
theorem nX {α:Type}{eq:α->α->Bool}(h:∀ a b,eq a b=true->a=b){l:List α}:∀ {m:List α},eqL eq l m=true->l=m:=by
 induction l with
 | nil=>intro m hm;cases m with
   | nil=>rfl
   | cons b m=>exact absurd hm (by show ¬ ((b::m).isEmpty=true);simp)
 | cons a l ih=>intro m hm;cases m with
   | nil=>exact absurd hm (by show ¬ (false=true);simp)
   | cons b m =>
     have hm':cond (eq a b) (eqL eq l m) false=true:=hm
     cases he:eq a b with
     | false=>rw[he] at hm';cases hm'
     | true=>rw[he] at hm';rw[h a b he,ih hm']
def zAP (n:Nat):Value->Value->Bool :=
 Nat.rec (fun _ _=>false) (fun _ ih v w=>match v,w with
 | .bool a,.bool b=>a==b
 | .int k a,.int k' b=>k==k'&&a==b
 | .string a,.string b=>eqL (·==·) a.data.toList b.data.toList
 | .pointer a,.pointer b=>a==b
 | .slice a l c,.slice a' l' c'=>a==a'&&(l==l'&&c==c')
 | .map a,.map b=>a==b
 | .func f a b,.func f' a' b'=>f==f'&&(eqL ih a.toList a'.toList&&eqL ih b.toList b'.toList)
 | .nilFunc,.nilFunc=>true
 | .nilIface,.nilIface=>true
 | .agg a,.agg b=>eqL ih a.toList b.toList
 | .tuple a,.tuple b=>eqL ih a.toList b.toList
 | _,_=>false) n
def veq (v w:Value):Bool:=zAP 4 v w
def zBI (l m:List Value):Bool:=eqL veq l m
def oeq:Obj->Obj->Bool
 | .cells c e f,.cells c' e' f'=>zBI c.toList c'.toList&&e==e'&&f==f'
 | .pending c e,.pending c' e'=>zBI c.toList c'.toList&&e==e'
 | .stringIter s p,.stringIter s' p'=>eqL (·==·) s.data.toList s'.data.toList&&p==p'
 | .mapIter m s a l,.mapIter m' s' a' l'=>m==m'&&s==s'&&a.toList==a'.toList&&l==l'
 | .map es c,.map es' c'=>c==c'&&zBI (es.toList.map (·.key)) (es'.toList.map (·.key))&&zBI (es.toList.map (·.val)) (es'.toList.map (·.val))&&es.toList.map (·.born)==es'.toList.map (·.born)
 | _,_=>false
def q97:Option Obj->Option Obj->Bool
 | none,none=>true
 | some a,some b=>oeq a b
 | _,_=>false
def nH (v:Value)(r:Option zGU):Bool :=
 match r with
 | some (.val u _)=>veq v u
 | _=>false
def gQ (P:Program)(lo hi:Nat)(r:Rec)(hs:List IH):Nat->Bool :=
 List.rec (fun _=>true) (fun E _ ih m=>cond (Nat.ble lo m&&Nat.ble m hi) (cond (nH r.v (iop P r.o r.env E)) (ih (m+1)) false) (ih (m+1))) hs
def qA2 (P:Program)(lo:List (Nat×Nat×Nat))(hs:List IH)(r:Rec):Bool :=
 match qCF r.i lo with
 | some p=>gQ P p.1 p.2 r hs 0
 | none=>true
def qC2 (b:Nat)(o:Option Obj)(hs:List IH):Nat->Bool :=
 List.rec (fun _=>true) (fun h _ ih n=>Nat.casesOn n true fun m=>cond (q97 (h.get b) o) (ih m) false) hs
def oN (H1:IH)(hs:List IH)(al:List Nat):Nat->Bool :=
 List.rec (fun _=>true) (fun hi _ ih b=>cond (qC2 b (H1.get b) hs hi) (ih (b+1)) false) al
def qP8 (ops:Array Oper)(b:Array Nat):List Nat :=
 (ops.toList.zipIdx.filter fun p=>qL p.1).map fun p =>
   ((ops.toList.zipIdx.filter fun q=>(xQ q.1).eff).filter fun q=>!vS b p.2 q.2).length
def qE9 (ops:Array Oper):List Nat:=qP8 ops (Region.before ops)
def qO3 (P:Program)(lo:List (Nat×Nat×Nat))(al:List Nat)(n:Nat)(H1:IH)(r:Option (Env×IH×List IH×List Rec)):Option (Env×IH) :=
 match r with
 | some (zG3,H2,hs,rs)=>cond (cond (jL (qA2 P lo (H1::hs)) rs) (oN H1 hs al n) false) (some (zG3,H2)) none
 | none=>none
def qSK (P:Program)(run:Job->IH->T Out)(nat:xJ)(ops:Array Oper)(env:Env)(H:IH):Option (Env×IH) :=
 match qGX P ops.toList env H with
 | some (zGS,H1)=>qO3 P (loose ops) (qE9 ops) H.size H1 (qM0 P run nat ops (loose ops) ops.toList 0 zGS H1)
 | none=>none
def T.leaves {α:Type}:T α->Option (List α)
 | .fail=>none
 | .ret a=>some [a]
 | .ch n k=>((List.range n).mapM fun i=>(k i).leaves).map List.flatten
 | .sp _ _=>none
def nK:Env->Env->Env
 | a::l,b::m=>(if veq a b then a else unk)::nK l m
 | _,_=>[]
def IH.since (H:IH)(n:Nat):List Nat:=H.log.take (H.log.length - n)
def q4X (H H':IH)(l:List Nat):Bool:=l.all fun b=>q97 (H.get b) (H'.get b)
def qOD (H0:IH)(n:Nat):List Out->Option Out
 | []=>none
 | o::rest =>
   if ((o.H.since n).filter (· < H0.size)).all (fun b=>(o.H.get b).isSome)&&rest.all (fun p=>decide (p.e=o.e)&&decide (p.env.length=o.env.length) &&
       q4X o.H p.H ((o.H.since n).filter (· < H0.size))&&q4X o.H p.H ((p.H.since n).filter (· < H0.size))) then
    some ⟨o.e,rest.foldl (fun e p=>nK e p.env) o.env,
     { tr:=((o.H.since n).filter (· < H0.size)).foldl (fun t b=>match o.H.get b with
        | some ob=>t.set b ob
        | none=>t) H0.tr,
       size:=(o::rest).foldl (fun m p=>Nat.max m p.H.size) 0,base:=H0.base,log:=(o.H.since n).filter (· < H0.size)++H0.log }⟩
   else none
def join (H0:IH):T Out->T Out
 | .ch n k=>match (T.ch n k).leaves with
   | some l=>match qOD H0 H0.log.length l with
     | some o=>.ret o
     | none=>.ch n k
   | none=>.ch n k
 | t=>t
def qIK (run:Job->IH->T Out)(b:Code)(r:Out):T Out :=
 match r.e with
 | .normal=>run (.code b r.env) r.H
 | _=>.ret r
def p8 (id:Nat)(r:Out):T Out :=
 match r.e with
 | .exit id'=>cond (Nat.beq id' id) (.ret ⟨.normal,r.env,r.H⟩) (.ret r)
 | _=>.ret r
def eB (run:Job->IH->T Out)(a:Code)(r:Out):T Out :=
 match r.e with
 | .normal=>run (.code (.loop a) r.env) r.H
 | _=>.ret r
def oH (r:Out):T Out :=
 match r.e with
 | .goto _=>.fail
 | _=>.ret r
def qA7 (run:Job->IH->T Out)(v:Value)(a b:Code)(env:Env)(H:IH):T Out :=
 match v with
 | .bool t=>run (.code (cond t a b) env) H
 | _=>.fail
def qHB (r:Option (Env×IH)):T Out :=
 match r with
 | some (zG3,H2)=>.ret ⟨.normal,zG3,H2⟩
 | none=>.fail
def dM (P:Program)(run:Job->IH->T Out)(nat:xJ)(ops:Array Oper)(draw:Bool)(env:Env)(H:IH):T Out :=
 cond draw (qHB (qSK P run nat ops env H)) ((q5G P run nat ops ops.toList env H).bind fun r=>.ret ⟨.normal,r.1,r.2⟩)
def kW (run:Job->IH->T Out)(l:Nat)(env:Env)(r:Value×IH):T Out :=
 match r.2.get l with
 | some (.loop lp)=>if lp.state==.busy then .fail else
   (match lp.pending with
   | none=>.ret ⟨.normal,env,r.2.put l (.loop { lp with state:=.exhausted })⟩
   | some c=>run (.code c env) (r.2.put l (.loop { lp with state:=.exhausted })))
 | _=>.fail
def entered (P:Program)(g:FuncId):Bool :=
 match P.funcs[g]? with
 | some fn=>fn.body.isSome&&fn.name != "runtime.NumGoroutine"
 | none=>false
def jG (P:Program)(run:Job->IH->T Out)(nat:xJ)(v:Value)(params:Array Tmp)(assign body:Code)(env:Env)(H:IH):T Out :=
 match v with
 | .func (.func g) first captured=>cond (entered P g)
   ((yK run nat g (qFR first.toList (.func (.yield H.size) #[] #[]::captured.toList))
     (H.push (.loop { state:=.ready,pending:=none,fn:=0,tmps:=env.toArray,params,assign,body,defers:=0 }))).bind (kW run H.size env)) .fail
 | _=>.fail
def qA8 (P:Program)(run:Job->IH->T Out)(nat:xJ)(c:Code)(env:Env)(H:IH):T Out :=
 match c with
 | .skip=>.ret ⟨.normal,env,H⟩
 | .label _=>.ret ⟨.normal,env,H⟩
 | .ret=>.ret ⟨.ret,env,H⟩
 | .exit id=>.ret ⟨.exit id,env,H⟩
 | .seq a b=>(run (.code a env) H).bind (qIK run b)
 | .cond x a b=>qA7 run (env.val x) a b env H
 | .block id a=>(run (.code a env) H).bind (p8 id)
 | .loop a=>join H ((run (.code a env) H).bind (eB run a))
 | .scope a=>(run (.code a env) H).bind oH
 | .region _ ops draw=>dM P run nat ops draw env H
 | .rangeFunc f params assign body=>jG P run nat (env.val f) params assign body env H
 | _=>.fail
def qDH (P:Program)(fn:Func)(r:Out):T Out :=
 match r.e with
 | .normal=>(match vG P fn r.env r.H with
   | some v=>.ret ⟨.normal,[v],r.H⟩
   | none=>.fail)
 | .ret=>(match vG P fn r.env r.H with
   | some v=>.ret ⟨.normal,[v],r.H⟩
   | none=>.fail)
 | _=>.fail
def oC (P:Program)(good:FuncId->Bool)(run:Job->IH->T Out)(f:FuncId)(args:List Value)(H:IH):T Out :=
 match P.funcs[f]? with
 | some fn=>(match fn.body with
   | some c=>cond (good f) (join H ((run (.code c (qFR args (List.replicate (fn.ntmps - args.length) undef))) H).bind (qDH P fn))) .fail
   | none=>.fail)
 | none=>.fail
def yV:zHR->Option Code
 | .normal=>none
 | .ret=>some .ret
 | .exit id=>some (.exit id)
 | .goto t=>some (.goto t)
def roundEnd (l:Nat)(s:Out):T Out :=
 match s.H.get l with
 | some (.loop lp2)=>.ret ⟨.normal,[.bool (yV s.e).isNone],s.H.put l (.loop { lp2 with state:=if (yV s.e).isNone then .ready else .done,pending:=yV s.e })⟩
 | _=>.fail
def qDP (run:Job->IH->T Out)(l:Nat)(body:Code)(r:Out):T Out :=
 match r.e with
 | .normal=>(match r.H.get l with
   | some (.loop lp1)=>if lp1.state==.ready then (run (.code body r.env) (r.H.put l (.loop { lp1 with state:=.busy }))).bind (roundEnd l) else .fail
   | _=>.fail)
 | _=>.fail
def bL (run:Job->IH->T Out)(l:Nat)(args:List Value)(H:IH):T Out :=
 match H.get l with
 | some (.loop lp) =>
   if lp.state==.ready&&(decide (H.base<=l)&&Nat.beq args.length lp.params.size) then
    (run (.code lp.assign ((lp.params.toList.zip args).foldl (fun e p=>yS e p.1 p.2) lp.tmps.toList)) H).bind (qDP run l lp.body)
   else .fail
 | _=>.fail
def jC (G:Nat->Bool):Operand->Bool
 | .const v=>zN v
 | .global g=>G g
 | _=>true
def gF (G:Nat->Bool)(ops:Array Oper):Bool:=ops.toList.all fun o=>o.op.operands.toList.all (jC G)
def codeOk (G:Nat->Bool)(round:Bool):Code->Bool
 | .seq a b=>codeOk G round a&&codeOk G round b
 | .cond x a b=>jC G x&&(codeOk G round a&&codeOk G round b)
 | .block _ a=>codeOk G round a
 | .loop a=>codeOk G round a
 | .scope a=>codeOk G round a
 | .region _ ops draw=>gF G ops&&(!draw||aI ops)
 | .rangeFunc f _ x y=>(round||!round)&&(jC G f&&(codeOk G true x&&codeOk G true y))
 | _=>true
def qMF:Code->Bool
 | .ret=>true
 | .exit _=>true
 | .goto _=>true
 | _=>false
def qMV (P:Program)(good:FuncId->Bool)(nat:xJ)(run:Job->IH->T Out)(j:Job)(H:IH):T Out :=
 match j with
 | .code c env=>qA8 P run nat c env H
 | .call f args=>oC P good run f args H
 | .round l args=>bL run l args H
def iex (P:Program)(good:FuncId->Bool)(nat:xJ)(n:Nat):Job->IH->T Out :=
 Nat.rec (fun _ _=>.fail) (fun _ ih j H=>qMV P good nat ih j H) n
theorem q2U {P:Program}{good:FuncId->Bool}{nat:xJ}{n:Nat}{j:Job}{H:IH}:iex P good nat (n+1) j H=qMV P good nat (iex P good nat n) j H:=rfl
end
end Go.Idl
namespace Go.Idl
variable {F:Fence}{G G':Nat->Bool}{H:IH}{P:Program}{a a':Array Value}{b r0 x:Nat}{l l' m:List Value}{o o':Obj}{v v':Value}
structure Emb where
 r:Nat
 shift:Nat
 N:Nat
 ro:Bool
abbrev Inj:=Nat->Option Emb
def Inj.le (f g:Inj):Prop:=∀ b e,f b=some e->g b=some e
theorem Inj.le_refl (f:Inj):f.le f:=fun _ _ h=>h
theorem Inj.le_trans {f g h:Inj}(a:f.le g)(b:g.le h):f.le h:=fun x e hx=>b x e (a x e hx)
def Inj.add (f:Inj)(b:Nat)(e:Emb):Inj:=fun x=>if x=b then some e else f x
theorem Inj.zHU {f:Inj}{e:Emb}(h:f b=none):f.le (f.add b e):=fun x y hx=>by
 unfold Inj.add;by_cases hb:x=b
 ·subst hb;rw[h] at hx;cases hx
 ·simp[hb,hx]
theorem Inj.add_same {f:Inj}{e:Emb}:f.add b e b=some e:=by simp[Inj.add]
theorem Inj.zGQ {f:Inj}{e:Emb}(h:x≠b):f.add b e x=f x:=by simp[Inj.add,h]
inductive zGO (P:Program) (f:Inj):Value->Value->Prop
 | any (v:Value):zGO P f unk v
 | undef:zGO P f undef undef
 | base (v:Value) (h:zN v=true):zGO P f v v
 | ptr {b o:Nat} {e:Emb} (h:f b=some e):zGO P f (.pointer (some ⟨b,o,none⟩)) (.pointer (some ⟨e.r,o+e.shift,none⟩))
 | sl {b o len cap:Nat} {e:Emb} (h:f b=some e):zGO P f (.slice (some ⟨b,o,none⟩) len cap) (.slice (some ⟨e.r,o+e.shift,none⟩) len cap)
 | room {b o el len cap cap':Nat} {e:Emb} (h:f b=some e) (hc:cap<=cap') (hn:o+e.shift+cap'*P.cellsOf el<=e.N) :
    zGO P f (.slice (some ⟨b,o,some el⟩) len cap) (.slice (some ⟨e.r,o+e.shift,none⟩) len cap')
 | zHL {b o o' el cap':Nat} {e:Emb} (h:f b=some e) (hs:e.shift<=o') (hn:o'+cap'*P.cellsOf el<=e.N) :
    zGO P f (.slice (some ⟨b,o,some el⟩) 0 0) (.slice (some ⟨e.r,o',none⟩) 0 cap')
 | gh {b:Nat} {a':Addr} {e:Emb} (h:f b=some e) (hg:e.N < e.shift):zGO P f (.slice (some ⟨b,0,none⟩) 0 0) (.slice (some a') 0 0)
 | map {b:Nat} {e:Emb} (h:f b=some e):zGO P f (.map (some b)) (.map (some e.r))
 | func {g:FuncId} {a a' c c':Array Value} (ha:a.size=a'.size) (hc:c.size=c'.size)
    (hav:∀ (i:Nat) v v',a[i]?=some v->a'[i]?=some v'->zGO P f v v') (hcv:∀ (i:Nat) v v',c[i]?=some v->c'[i]?=some v'->zGO P f v v') :
    zGO P f (.func (.func g) a c) (.func (.func g) a' c')
 | yield {l:Nat} {e:Emb} (h:f l=some e):zGO P f (.func (.yield l) #[] #[]) (.func (.yield e.r) #[] #[])
 | iface {t:TypeId} {v v':Value} (h:zGO P f v v'):zGO P f (.iface t v) (.iface t v')
 | agg {a a':Array Value} (ha:a.size=a'.size) (hav:∀ (i:Nat) v v',a[i]?=some v->a'[i]?=some v'->zGO P f v v'):zGO P f (.agg a) (.agg a')
 | tuple {a a':Array Value} (ha:a.size=a'.size) (hav:∀ (i:Nat) v v',a[i]?=some v->a'[i]?=some v'->zGO P f v v'):zGO P f (.tuple a) (.tuple a')
theorem zGO.mono {f g:Inj}(h:zGO P f v v')(hl:f.le g):zGO P g v v':=by
 induction h with
 | any v=>exact .any v
 | undef=>exact .undef
 | base v h=>exact .base v h
 | ptr h=>exact .ptr (hl _ _ h)
 | sl h=>exact .sl (hl _ _ h)
 | room h hc hn=>exact .room (hl _ _ h) hc hn
 | zHL h hs hn=>exact .zHL (hl _ _ h) hs hn
 | gh h hg=>exact .gh (hl _ _ h) hg
 | map h=>exact .map (hl _ _ h)
 | func ha hc _ _ i1 i2=>exact .func ha hc i1 i2
 | yield h=>exact .yield (hl _ _ h)
 | iface _ ih=>exact .iface ih
 | agg ha _ ih=>exact .agg ha ih
 | tuple ha _ ih=>exact .tuple ha ih
def qD (P:Program)(f:Inj)(l l':List Value):Prop:=l.length=l'.length∧∀ (i:Nat) v v',l[i]?=some v->l'[i]?=some v'->zGO P f v v'
theorem qD.nil {f:Inj}:qD P f [] []:=⟨rfl,fun i v v' h=>by simp at h⟩
theorem qD.cons {f:Inj}(h:zGO P f v v')(t:qD P f l l'):qD P f (v::l) (v'::l') :=
 ⟨by simp[t.1],fun i u u' hu hu'=>by
   cases i with
   | zero=>simp at hu hu';subst hu hu';exact h
   | succ i=>exact t.2 i u u' (by simpa using hu) (by simpa using hu')⟩
theorem qD.zGP {f:Inj}(h:qD P f (v::l) m):∃ v' l',m=v'::l'∧zGO P f v v'∧qD P f l l':=by
 cases m with
 | nil=>simp[qD] at h
 | cons v' l'=>exact⟨v',l',rfl,h.2 0 v v' rfl rfl,by have:=h.1;simpa using this,fun i u u' hu hu'=>h.2 (i+1) u u' (by simpa using hu) (by simpa using hu')⟩
theorem qD.zGT {f:Inj}(h:qD P f [] m):m=[]:=by
 cases m with
 | nil=>rfl
 | cons a b=>simp[qD] at h
theorem qD.mono {P:Program}{f g:Inj}{l l':List Value}(h:qD P f l l')(hl:f.le g):qD P g l l':=⟨h.1,fun i v v' a b=>(h.2 i v v' a b).mono hl⟩
theorem qD.get {f:Inj}(h:qD P f l l'){i:Nat}(hv:l[i]?=some v):∃ v',l'[i]?=some v'∧zGO P f v v':=by
 have hlt:i < l.length:=(zP4.1 hv).1;have hlt':i < l'.length:=h.1 ▸ hlt;exact⟨l'[i],zP2 hlt',h.2 i v _ hv (zP2 hlt')⟩
theorem qD.append {f:Inj}{m':List Value}(h:qD P f l l')(k:qD P f m m'):qD P f (l++m) (l'++m'):=by
 induction l generalizing l' with
 | nil=>rw[h.zGT];exact k
 | cons v l ih=>obtain⟨v',t',rfl,hv,ht⟩:=h.zGP;exact .cons hv (ih ht)
theorem qD.take {f:Inj}(h:qD P f l l')(n:Nat):qD P f (l.take n) (l'.take n):=by
 induction n generalizing l l' with
 | zero=>simpa using qD.nil
 | succ n ih =>
   cases l with
   | nil=>rw[h.zGT];simpa using qD.nil
   | cons v l=>obtain⟨v',t',rfl,hv,ht⟩:=h.zGP;simpa using qD.cons hv (ih ht)
theorem qD.drop {f:Inj}(h:qD P f l l')(n:Nat):qD P f (l.drop n) (l'.drop n):=by
 induction n generalizing l l' with
 | zero=>simpa using h
 | succ n ih =>
   cases l with
   | nil=>rw[h.zGT];simpa using qD.nil
   | cons v l=>obtain⟨v',t',rfl,hv,ht⟩:=h.zGP;simpa using ih ht
theorem qD.set {f:Inj}(h:qD P f l l')(hv:zGO P f v v')(n:Nat):qD P f (l.set n v) (l'.set n v'):=by
 induction n generalizing l l' with
 | zero =>
   cases l with
   | nil=>rw[h.zGT];simpa using qD.nil
   | cons u l=>obtain⟨u',t',rfl,hu,ht⟩:=h.zGP;simpa using qD.cons hv ht
 | succ n ih =>
   cases l with
   | nil=>rw[h.zGT];simpa using qD.nil
   | cons u l=>obtain⟨u',t',rfl,hu,ht⟩:=h.zGP;simpa using qD.cons hu (ih ht)
theorem mW:zP (v::l)=(zN v&&zP l):=xR _ _ _
theorem xW {l:List Value}:zP l=true ↔ ∀ v∈l,zN v=true:=kC
theorem qD.zG5 {f:Inj}(h:zP l=true):qD P f l l:=by
 induction l with
 | nil=>exact .nil
 | cons v l ih=>rw[mW,zPY] at h;exact .cons (.base v h.1) (ih h.2)
theorem qDN (n:Nat):∀ v,xS n v=true->xS (n+1) v=true:=by
 induction n with
 | zero=>intro v h;exact absurd h (by show ¬ (false=true);simp)
 | succ n ih =>
   intro v h;have hall:∀ (l:List Value),jL (xS n) l=true->jL (xS (n+1)) l=true:=fun l hl=>kC.2 fun a ha=>ih a (kC.1 hl a ha)
   cases v <;> first | exact h | skip
   case func fn first captured =>
    have h':(zBQ fn&&(jL (xS n) first.toList&&jL (xS n) captured.toList))=true:=h;show (zBQ fn&&(jL (xS (n+1)) first.toList&&jL (xS (n+1)) captured.toList))=true;simp only[zPY] at h' ⊢;exact⟨h'.1,hall _ h'.2.1,hall _ h'.2.2⟩
   case iface t v=>exact ih v h
   case agg cs=>exact hall _ h
theorem zGO.zLS {f:Inj}(h:zGO P f v v'):∀ n,xS n v=true->v'=v:=by
 induction h with
 | any v=>intro n hp;cases n <;> exact absurd hp (by show ¬ (false=true);simp)
 | undef=>intro n hp;rfl
 | base v _=>intro n hp;rfl
 | ptr _=>intro n hp;cases n <;> exact absurd hp (by show ¬ (false=true);simp)
 | sl _=>intro n hp;cases n <;> exact absurd hp (by show ¬ (false=true);simp)
 | room _ _ _=>intro n hp;cases n <;> exact absurd hp (by show ¬ (false=true);simp)
 | zHL _ _ _=>intro n hp;cases n <;> exact absurd hp (by show ¬ (false=true);simp)
 | gh _ _=>intro n hp;cases n <;> exact absurd hp (by show ¬ (false=true);simp)
 | map _=>intro n hp;cases n <;> exact absurd hp (by show ¬ (false=true);simp)
 | @func g a a' c c' ha hc hav hcv i1 i2 =>
   intro n hp
   cases n with
   | zero=>exact absurd hp (by show ¬ (false=true);simp)
   | succ n =>
     have hp':(zBQ (.func g)&&(jL (xS n) a.toList&&jL (xS n) c.toList))=true:=hp;simp only[zPY,kC] at hp';have e1:a'=a:=Array.ext ha.symm fun i h1 h2=>i1 i a[i] a'[i] (by simp[h2]) (by simp[h1]) n (hp'.2.1 _ (by simp))
     have e2:c'=c:=Array.ext hc.symm fun i h1 h2=>i2 i c[i] c'[i] (by simp[h2]) (by simp[h1]) n (hp'.2.2 _ (by simp))
     rw[e1,e2]
 | yield _ =>
   intro n hp
   cases n with
   | zero=>exact absurd hp (by show ¬ (false=true);simp)
   | succ n=>have hp':false=true:=hp;cases hp'
 | iface _ ih =>
   intro n hp
   cases n with
   | zero=>exact absurd hp (by show ¬ (false=true);simp)
   | succ n=>rw[ih n hp]
 | @agg a a' ha hav i1 =>
   intro n hp
   cases n with
   | zero=>exact absurd hp (by show ¬ (false=true);simp)
   | succ n =>
     have hp':jL (xS n) a.toList=true:=hp;simp only[kC] at hp';have e1:a'=a:=Array.ext ha.symm fun i h1 h2=>i1 i a[i] a'[i] (by simp[h2]) (by simp[h1]) n (hp' _ (by simp))
     rw[e1]
 | tuple _ _ _=>intro n hp;cases n <;> exact absurd hp (by show ¬ (false=true);simp)
theorem zGO.plain {f:Inj}(h:zGO P f v v')(hp:zN v=true):v'=v:=h.zLS 3 hp
theorem qD.plain {P:Program}{f:Inj}{l l':List Value}(h:qD P f l l')(hp:zP l=true):l'=l:=by
 induction l generalizing l' with
 | nil=>exact h.zGT
 | cons v l ih =>
   obtain⟨v',t',rfl,hv,ht⟩:=h.zGP;rw[mW,zPY] at hp;rw[hv.plain hp.1,ih ht hp.2]
theorem qL2 (h:zN (.agg a)=true):zP a.toList=true:=by
 have h':jL (xS 2) a.toList=true:=h;exact xW.2 fun v hv=>qDN 2 v (kC.1 h' v hv)
theorem zGO.zJG {f:Inj}(h:zGO P f (.agg a) v'):∃ a',v'=.agg a'∧qD P f a.toList a'.toList:=by
 cases h with
 | base _ hp=>exact⟨a,rfl,.zG5 (qL2 hp)⟩
 | agg ha hav=>exact⟨_,rfl,by simpa using ha,fun i v v' h1 h2=>hav i v v' (by simpa using h1) (by simpa using h2)⟩
theorem zGO.zIU {f:Inj}(h:qD P f a.toList a'.toList):zGO P f (.agg a) (.agg a') :=
 .agg (by simpa using h.1) fun i v v' h1 h2=>h.2 i v v' (by simpa using h1) (by simpa using h2)
theorem zGO.zHA {f:Inj}(h:qD P f a.toList a'.toList):zGO P f (.tuple a) (.tuple a') :=
 .tuple (by simpa using h.1) fun i v v' h1 h2=>h.2 i v v' (by simpa using h1) (by simpa using h2)
theorem zGO.cells {P:Program}{f:Inj}{v v':Value}(h:zGO P f v v')(hn:zB v=true):qD P f v.cells.toList v'.cells.toList:=by
 cases h with
 | any v=>simp[unk,zB] at hn
 | undef=>simp[Go.undef,zB] at hn
 | base v hp =>
   cases v <;> first
    | (simp only[Value.cells];exact .cons (.base _ hp) .nil)
    | exact .zG5 (qL2 hp)
    | (simp[zB] at hn)
 | ptr h=>exact .cons (.ptr h) .nil
 | sl h=>exact .cons (.sl h) .nil
 | room h a b=>exact .cons (.room h a b) .nil
 | zHL h a b=>exact .cons (.zHL h a b) .nil
 | gh h a=>exact .cons (.gh h a) .nil
 | map h=>exact .cons (.map h) .nil
 | func a b c d=>exact .cons (.func a b c d) .nil
 | yield h=>exact .cons (.yield h) .nil
 | iface h=>exact .cons (.iface h) .nil
 | agg ha hav=>exact⟨by simpa [Value.cells] using ha,fun i v v' h1 h2=>hav i v v' (by simpa [Value.cells] using h1) (by simpa [Value.cells] using h2)⟩
 | tuple _ _=>simp[zB] at hn
def live:Obj->Bool
 | .pending _ _=>false
 | _=>true
def zDW (g:Nat):List (Nat×Nat)->Option Nat
 | []=>none
 | (k,n)::l=>cond (Nat.beq k g) (some n) (zDW g l)
def zDU (g N:Nat):Bool:=match zDW g zD8 with
 | some n=>Nat.beq N n
 | none=>true
def zBG (g:Nat):Nat:=(zDW g zD8).getD 0
theorem zBL (g:Nat):zDU g (zBG g)=true:=by
 unfold zDU zBG
 cases zDW g zD8 with
 | none=>rfl
 | some n=>exact zT9 n
def qX (f:Inj)(g:Nat):Bool :=
 match f g with
 | some e=>decide (e.r=g)&&(decide (e.shift=0)&&zDU g e.N)
 | none=>false
theorem bX {f:Inj}{g:Nat}:qX f g=true ↔ ∃ e,f g=some e∧e.r=g∧e.shift=0∧zDU g e.N=true:=by
 unfold qX;split
 ·rename_i e he;simp[he]
 ·rename_i he;simp[he]
theorem zF {f f':Inj}(hl:f.le f')(g:Nat)(h:qX f g=true):qX f' g=true:=by
 rw[bX] at h ⊢;obtain⟨e,h1,h2⟩:=h;exact⟨e,hl _ _ h1,h2⟩
theorem j3 (h:∀ g,G g=true->G' g=true){x:Operand}(hx:jC G x=true):jC G' x=true:=by
 cases x <;> first | exact hx | exact h _ hx
theorem jB (h:∀ g,G g=true->G' g=true){ops:Array Oper}(hx:gF G ops=true):gF G' ops=true:=by
 simp only[gF,zP1] at hx ⊢;exact fun o ho x hxx=>j3 h (hx o ho x hxx)
theorem qP {G G':Nat->Bool}(h:∀ g,G g=true->G' g=true):∀ (c:Code) (b:Bool),codeOk G b c=true->codeOk G' b c=true
 | .skip,_,_=>rfl
 | .label _,_,_=>rfl
 | .ret,_,_=>rfl
 | .exit _,_,_=>rfl
 | .goto _,_,_=>rfl
 | .refuse _,_,_=>rfl
 | .seq x y,b,hc=>by
   simp only[codeOk,zPY] at hc ⊢;exact⟨qP h x b hc.1,qP h y b hc.2⟩
 | .cond v x y,b,hc=>by
   simp only[codeOk,zPY] at hc ⊢;exact⟨j3 h hc.1,qP h x b hc.2.1,qP h y b hc.2.2⟩
 | .block _ x,b,hc=>by simp only[codeOk] at hc ⊢;exact qP h x b hc
 | .loop x,b,hc=>by simp only[codeOk] at hc ⊢;exact qP h x b hc
 | .scope x,b,hc=>by simp only[codeOk] at hc ⊢;exact qP h x b hc
 | .region _ ops draw,b,hc=>by
   simp only[codeOk,zPY] at hc ⊢;exact⟨jB h hc.1,hc.2⟩
 | .rangeFunc v _ x y,b,hc=>by
   simp only[codeOk,zPY] at hc ⊢;exact⟨hc.1,j3 h hc.2.1,qP h x true hc.2.2.1,qP h y true hc.2.2.2⟩
def qAP (P:Program)(f:Inj)(e:Emb)(o:Obj)(ro:Option Obj):Prop :=
 match o with
 | .cells c el fz=>∃ c' el' fz',ro=some (.cells c' el' fz')∧c'.size=e.N∧e.shift+c.size<=c'.size ∧
    (∀ (i:Nat) v,c[i]?=some v->∃ v',c'[e.shift+i]?=some v'∧zGO P f v v') ∧
    (bK fz=true->e.ro=false∧el'=el∧∀ j,j < c'.size->¬(fz'.1<=j∧j < fz'.2)) ∧
    (fz=(0,0)->e.shift=0∧c.size=c'.size)
 | .pending _ _=>True
 | .map es clk=>e.ro=false∧∃ es',ro=some (.map es' clk)∧es'.size=es.size ∧
    ∀ (i:Nat) x,es[i]?=some x->∃ x',es'[i]?=some x'∧x'.key=x.key∧x'.born=x.born∧zGO P f x.val x'.val
 | .stringIter s p=>e.ro=false∧e.shift=0∧ro=some (.stringIter s p)
 | .mapIter (some m) since seen last=>e.ro=false∧e.shift=0∧∃ em seen' stepped,f m=some em∧ro=some (.mapIter (some em.r) since seen' stepped) ∧
    (∀ x,x∈seen' ↔ x∈seen.toList)∧(∀ n,last=n+1->seen'.back?=some n)∧(seen'.isEmpty=false->stepped=since)∧(∀ x,x∈seen'->x < since)
 | .loop lp=>e.ro=false∧∃ lp',ro=some (.loop lp')∧lp'.state=lp.state∧lp'.pending=lp.pending∧lp'.params=lp.params∧lp'.assign=lp.assign∧lp'.body=lp.body ∧
    qD P f lp.tmps.toList lp'.tmps.toList∧codeOk (qX f) true lp.assign=true∧codeOk (qX f) true lp.body=true∧(∀ c,lp.pending=some c->qMF c=true)∧e.shift=0
 | _=>False
theorem qAP.mono {P:Program}{f g:Inj}{e:Emb}{o:Obj}{ro:Option Obj}(h:qAP P f e o ro)(hl:f.le g):qAP P g e o ro:=by
 cases o <;> simp only[qAP] at h ⊢
 case cells c el fz =>
  obtain⟨c',el',fz',h1,h2,h3,h4,h5,h6⟩:=h;exact⟨c',el',fz',h1,h2,h3,fun i v hv=>let ⟨v',a,b⟩:=h4 i v hv;⟨v',a,b.mono hl⟩,h5,h6⟩
 case map es clk =>
  obtain⟨h0,es',h1,h2,h3⟩:=h;exact⟨h0,es',h1,h2,fun i x hx=>let ⟨x',a,b,c,d⟩:=h3 i x hx;⟨x',a,b,c,d.mono hl⟩⟩
 case stringIter s p=>exact h
 case mapIter m since seen last =>
  cases m with
  | none=>simp only at h
  | some m =>
    obtain⟨h0,h01,em,seen',st,h1,h2,h3⟩:=h;exact⟨h0,h01,em,seen',st,hl _ _ h1,h2,h3⟩
 case loop lp =>
  obtain⟨h0,lp',h1,h2,h3,h4,h5,h6,h7,h8,h9,h10⟩:=h;exact⟨h0,lp',h1,h2,h3,h4,h5,h6,h7.mono hl,qP (zF hl) _ _ h8,qP (zF hl) _ _ h9,h10⟩
structure Rel (P:Program) (f:Inj) (H:IH) (w:World):Prop where
 dom:∀ b e,f b=some e->b < H.size
 fresh:∀ b,H.size<=b->H.get b=none
 bound:∀ b e,f b=some e->e.r < w.heap.size
 obj:∀ b e o,f b=some e->H.get b=some o->qAP P f e o w.heap[e.r]?
 sep:∀ b1 b2 e1 e2 o1 o2,b1≠b2->f b1=some e1->f b2=some e2->H.get b1=some o1->H.get b2=some o2->live o1=true->live o2=true->e1.r=e2.r ->
  e1.ro=true∧e2.ro=true
 zHD:∀ b1 b2 e1 e2,f b1=some e1->f b2=some e2->e1.r=e2.r->e1.ro=e2.ro
def Own (f:Inj)(r:Nat):Prop:=∃ b e,f b=some e∧e.r=r∧e.ro=false
def vM (w:World)(r:Nat):Prop:=∃ lp,w.heap[r]?=some (.loop lp)
structure Grow (f:Inj) (H:IH) (w:World) (f':Inj) (H':IH) (w':World):Prop where
 zHN:H.size<=H'.size
 stay:∀ b,b < H.size->f b=none->f' b=none
 le:f.le f'
 size:w.heap.size<=w'.heap.size
 keep:∀ r,r < w.heap.size->¬ Own f r->¬ Own f' r∧w'.heap[r]?=w.heap[r]?
 un:∀ r,r < w.heap.size->(∀ b e,f b=some e->e.r≠r)->∀ b e,f' b=some e->e.r≠r
 out:w'.os=w.os∧w'.output=w.output∧w'.tape=w.tape
 lps:∀ r,vM w r->vM w' r
theorem Grow.refl (f:Inj)(H:IH)(w:World):Grow f H w f H w:=⟨zP0 _,fun _ _ h=>h,f.le_refl,zP0 _,fun _ _ h=>⟨h,rfl⟩,fun _ _ h=>h,⟨rfl,rfl,rfl⟩,fun _ h=>h⟩
theorem Grow.trans {f f1 f2:Inj}{H H1 H2:IH}{w w1 w2:World}(a:Grow f H w f1 H1 w1)(b:Grow f1 H1 w1 f2 H2 w2):Grow f H w f2 H2 w2 :=
 ⟨zQM a.zHN b.zHN,fun x hx hn=>b.stay x (zP3 hx a.zHN) (a.stay x hx hn),Inj.le_trans a.le b.le,zQM a.size b.size,fun r hr ho=>by
   obtain⟨h1,h2⟩:=a.keep r hr ho;obtain⟨h3,h4⟩:=b.keep r (zP3 hr a.size) h1
   exact⟨h3,h4.trans h2⟩,fun r hr hu=>b.un r (zP3 hr a.size) (a.un r hr hu),
   ⟨b.out.1.trans a.out.1,b.out.2.1.trans a.out.2.1,b.out.2.2.trans a.out.2.2⟩,fun r h=>b.lps r (a.lps r h)⟩
def Keep (f:Inj)(H H':IH):Prop:=H.size<=H'.size∧∀ b,b < H.size->f b=none->H'.get b=H.get b
theorem Keep.refl (f:Inj)(H:IH):Keep f H H:=⟨zP0 _,fun _ _ _=>rfl⟩
theorem IH.get_put:(H.put b o).get x=if x=b then some o else H.get x:=by
 simp[IH.get,IH.put,Tr.zH1]
theorem IH.zGX:(H.push o).get x=if x=H.size then some o else H.get x:=by
 simp[IH.get,IH.push,Tr.zH1]
@[simp] theorem IH.size_put {H:IH} {b:Nat} {o:Obj}:(H.put b o).size=H.size:=rfl
@[simp] theorem IH.size_push {H:IH} {o:Obj}:(H.push o).size=H.size+1:=rfl
theorem Keep.put {f:Inj}{e:Emb}(h:f b=some e):Keep f H (H.put b o) :=
 ⟨zP0 _,fun x _ hn=>by
   rw[IH.get_put];by_cases hb:x=b
   ·subst hb;rw[h] at hn;cases hn
   ·simp[hb]⟩
theorem Keep.push {f:Inj}:Keep f H (H.push o) :=
 ⟨by simp,fun x hx _=>by rw[IH.zGX,if_neg (by omega)]⟩
def World.put (w:World)(r:Nat)(o:Obj):World:={ w with heap:=w.heap.setIfInBounds r o }
theorem heap_put {w:World}{r:Nat}(h:r < w.heap.size):(World.put w r o).heap[x]?=if x=r then some o else w.heap[x]?:=by
 unfold World.put;by_cases e:x=r
 ·subst e;simp[h]
 ·simp only[e,if_false];rw[zRP (Ne.symm e)]
theorem heap_alloc {w:World}:(w.alloc o).heap[x]?=if x=w.heap.size then some o else w.heap[x]?:=by
 show (w.heap.push o)[x]?=_;rw[Array.getElem?_push]
structure zH5 (rd:Bool) (F:Fence) (w:World):Prop where
 eq:rd=F.round.isSome
 lp:∀ l,F.round=some l->vM w l
theorem zH5.mono {rd:Bool}{w w':World}(h:zH5 rd F w)(hl:∀ r,vM w r->vM w' r):zH5 rd F w':=⟨h.eq,fun l e=>hl l (h.lp l e)⟩
theorem zH5.none {w:World}(h:F.round=.none):zH5 false F w:=⟨by rw[h];rfl,fun l e=>by rw[h] at e;cases e⟩
theorem vM.lt {w:World}{r:Nat}(h:vM w r):r < w.heap.size:=by
 obtain⟨lp,h⟩:=h;exact (zQA.1 h).1
theorem vM.alloc {w:World}{r:Nat}(o:Obj)(h:vM w r):vM (w.alloc o) r:=by
 have:=h.lt;obtain⟨lp,h⟩:=h;exact⟨lp,by rw[heap_alloc,if_neg (by omega)];exact h⟩
theorem vM.put {w:World}{r:Nat}(hr:w.heap[r0]?=some o)(hn:∀ lp,o≠.loop lp)(h:vM w r):vM (World.put w r0 o') r:=by
 obtain⟨lp,h⟩:=h
 have hne:r0≠r:=fun e=>by
  subst e;rw[hr] at h;exact hn lp (zQZ h)
 refine⟨lp,?_⟩;show (w.heap.setIfInBounds r0 o')[r]?=_;rw[zRP hne];exact h
theorem vM.loop {w:World}{r:Nat}{lp:Loop}(h:vM w r):vM (w.putObj r0 (.loop lp)) r:=by
 obtain⟨lp1,h⟩:=h;have hs:=(zQA.1 h).1;by_cases hne:r0=r
 ·subst hne;exact⟨lp,by show (w.heap.setIfInBounds r0 _)[r0]?=_;rw[Array.getElem?_setIfInBounds_self_of_lt hs]⟩
 ·refine⟨lp1,?_⟩;show (w.heap.setIfInBounds r0 _)[r]?=_;rw[zRP hne];exact h
theorem Rel.push {f:Inj}{w:World}{e:Emb}(h:Rel P f H w)(her:e.r=w.heap.size)
 (ho:qAP P (f.add H.size e) e o (some o')):Rel P (f.add H.size e) (H.push o) (w.alloc o')∧Grow f H w (f.add H.size e) (H.push o) (w.alloc o'):=by
 have hnone:f H.size=none:=by
  cases hx:f H.size with
  | none=>rfl
  | some y=>have:=h.dom _ _ hx;omega
 have hle:f.le (f.add H.size e):=Inj.zHU hnone;have old:∀ b y,f b=some y->y.r≠w.heap.size:=fun b y hb=>by have:=h.bound b y hb;omega
 refine⟨⟨?_,?_,?_,?_,?_,?_⟩,⟨by simp,(fun b hb hn=>by rw[Inj.zGQ (by omega)];exact hn),hle,by simp,?_,?_,⟨rfl,rfl,rfl⟩,fun r h=>h.alloc _⟩⟩
 ·intro b y hb;by_cases e1:b=H.size
  ·subst e1;simp
  ·rw[Inj.zGQ e1] at hb;have:=h.dom b y hb;simp;omega
 ·intro b hb;simp only[IH.size_push] at hb;rw[IH.zGX,if_neg (by omega)];exact h.fresh b (by omega)
 ·intro b y hb;by_cases e1:b=H.size
  ·subst e1;rw[Inj.add_same] at hb;cases hb;rw[her];simp
  ·rw[Inj.zGQ e1] at hb;have:=h.bound b y hb;simp;omega
 ·intro b y ob hb hob;by_cases e1:b=H.size
  ·subst e1;rw[Inj.add_same] at hb;cases hb;rw[IH.zGX,if_pos rfl] at hob;cases hob;rw[heap_alloc,if_pos her];exact ho
  ·rw[Inj.zGQ e1] at hb;rw[IH.zGX,if_neg e1] at hob;rw[heap_alloc,if_neg (old b y hb)];exact (h.obj b y ob hb hob).mono hle
 ·intro b1 b2 e1 e2 o1 o2 hne h1 h2 g1 g2 l1 l2 hr;by_cases x1:b1=H.size
  ·subst x1;rw[Inj.add_same] at h1;cases h1;rw[Inj.zGQ (Ne.symm hne)] at h2;exact absurd (hr.symm.trans her) (old b2 e2 h2)
  ·rw[Inj.zGQ x1] at h1;by_cases x2:b2=H.size
   ·subst x2;rw[Inj.add_same] at h2;cases h2;exact absurd (hr.trans her) (old b1 e1 h1)
   ·rw[Inj.zGQ x2] at h2;rw[IH.zGX,if_neg x1] at g1;rw[IH.zGX,if_neg x2] at g2;exact h.sep b1 b2 e1 e2 o1 o2 hne h1 h2 g1 g2 l1 l2 hr
 ·intro b1 b2 e1 e2 h1 h2 hr;by_cases x1:b1=H.size
  ·subst x1;rw[Inj.add_same] at h1;cases h1;by_cases x2:b2=H.size
   ·subst x2;rw[Inj.add_same] at h2;cases h2;rfl
   ·rw[Inj.zGQ x2] at h2;exact absurd (hr.symm.trans her) (old b2 e2 h2)
  ·rw[Inj.zGQ x1] at h1;by_cases x2:b2=H.size
   ·subst x2;rw[Inj.add_same] at h2;cases h2;exact absurd (hr.trans her) (old b1 e1 h1)
   ·rw[Inj.zGQ x2] at h2;exact h.zHD b1 b2 e1 e2 h1 h2 hr
 ·intro r hr hno;refine⟨?_,by rw[heap_alloc,if_neg (by omega)]⟩;rintro⟨b,y,hb,hyr,hro⟩;by_cases e1:b=H.size
  ·subst e1;rw[Inj.add_same] at hb;cases hb;omega
  ·rw[Inj.zGQ e1] at hb;exact hno ⟨b,y,hb,hyr,hro⟩
 ·intro r hr hu b y hb;by_cases e1:b=H.size
  ·subst e1;rw[Inj.add_same] at hb;cases hb;omega
  ·rw[Inj.zGQ e1] at hb;exact hu b y hb
theorem qAP.zJX {f:Inj}{e:Emb}{lp:Loop}(h:qAP P f e o (some (.loop lp)))(hl:live o=true):∃ lp,o=.loop lp:=by
 cases o <;> simp only[qAP] at h
 case cells=>obtain⟨_,_,_,h,_⟩:=h;cases h
 case map=>obtain⟨_,_,h,_⟩:=h;cases h
 case stringIter=>obtain⟨_,_,h⟩:=h;cases h
 case mapIter m _ _ _ =>
  cases m with
  | none=>exact h.elim
  | some m=>obtain⟨_,_,_,_,_,_,h,_⟩:=h;cases h
 case loop lp=>exact⟨lp,rfl⟩
 case pending=>cases hl
theorem Rel.put {P:Program}{f:Inj}{H:IH}{w w':World}{o o1 o1':Obj}{b:Nat}{e:Emb}(h:Rel P f H w)(hb:f b=some e)(hg:H.get b=some o)(hlive:live o=true)
 (hro:e.ro=false) (ho:qAP P f e o1 (some o1')) (hw:∀ x:Nat,w'.heap[x]?=if x=e.r then some o1' else w.heap[x]?) (hws:w'.heap.size=w.heap.size)
 (hout:w'.os=w.os∧w'.output=w.output∧w'.tape=w.tape:=by exact⟨rfl,rfl,rfl⟩)
 (hlo:(∃ lp,o=.loop lp)->∃ lp,o1'=.loop lp:=by first | exact fun _=>⟨_,rfl⟩ | (rintro⟨_,h⟩;cases h)) :
 Rel P f (H.put b o1) w'∧Grow f H w f (H.put b o1) w'∧Keep f H (H.put b o1):=by
 refine⟨⟨h.dom,?_,?_,?_,?_,h.zHD⟩,⟨zP0 _,fun _ _ h=>h,f.le_refl,by omega,?_,fun _ _ h=>h,hout,fun r hl=>?_⟩,Keep.put hb⟩
 ·intro x hx;rw[IH.get_put,if_neg]
  ·exact h.fresh x hx
  ·intro e1;subst e1;have:=h.dom _ _ hb;simp at hx;omega
 ·intro x y hx;rw[hws];exact h.bound x y hx
 ·intro x y ox hx hox;rw[hw];by_cases e1:x=b
  ·subst e1;rw[hb] at hx;cases hx;rw[IH.get_put,if_pos rfl] at hox;cases hox;rw[if_pos rfl];exact ho
  ·rw[IH.get_put,if_neg e1] at hox;by_cases e2:y.r=e.r
   ·-- another block at the same place: dead
    by_cases hlx:live ox=true
    ·have:=h.sep x b y e ox o e1 hx hb hox hg hlx hlive e2;rw[hro] at this;exact absurd this.2 (by simp)
    ·cases ox <;> simp[live] at hlx;simp[qAP]
   ·rw[if_neg e2];exact h.obj x y ox hx hox
 ·intro b1 b2 e1 e2 o1' o2' hne h1 h2 g1 g2 l1 l2 hr;rw[IH.get_put] at g1 g2;by_cases x1:b1=b
  ·subst x1;rw[hb] at h1;cases h1;rw[if_neg (Ne.symm hne)] at g2;exact h.sep b1 b2 e e2 o o2' hne hb h2 hg g2 hlive l2 hr
  ·rw[if_neg x1] at g1;by_cases x2:b2=b
   ·subst x2;rw[hb] at h2;cases h2;exact h.sep b1 b2 e1 e o1' o hne h1 hb g1 hg l1 hlive hr
   ·rw[if_neg x2] at g2;exact h.sep b1 b2 e1 e2 o1' o2' hne h1 h2 g1 g2 l1 l2 hr
 ·intro r _ hno;refine⟨hno,?_⟩;rw[hw,if_neg];intro e1;exact hno ⟨b,e,hb,e1.symm,hro⟩
 ·obtain⟨lp,hlp⟩:=hl;by_cases e1:r=e.r
  ·subst e1;obtain⟨lp',zNP⟩:=hlo (qAP.zJX (hlp ▸ h.obj b e o hb hg) hlive);exact⟨lp',by rw[hw,if_pos rfl,zNP]⟩
  ·exact⟨lp,by rw[hw,if_neg e1];exact hlp⟩
theorem Rel.kill {f:Inj}{w:World}{e:Emb}(h:Rel P f H w)(hb:f b=some e):Rel P f (H.put b xH) w:=by
 refine⟨h.dom,?_,h.bound,?_,?_,h.zHD⟩
 ·intro x hx;rw[IH.get_put,if_neg]
  ·exact h.fresh x hx
  ·intro e1;subst e1;have:=h.dom _ _ hb;simp at hx;omega
 ·intro x y ox hx hox;rw[IH.get_put] at hox;by_cases e1:x=b
  ·rw[if_pos e1] at hox;cases hox;simp[qAP,xH]
  ·rw[if_neg e1] at hox;exact h.obj x y ox hx hox
 ·intro b1 b2 e1 e2 o1 o2 hne h1 h2 g1 g2 l1 l2 hr;rw[IH.get_put] at g1 g2;by_cases x1:b1=b
  ·rw[if_pos x1] at g1;cases g1;simp[live,xH] at l1
  ·by_cases x2:b2=b
   ·rw[if_pos x2] at g2;cases g2;simp[live,xH] at l2
   ·rw[if_neg x1] at g1;rw[if_neg x2] at g2;exact h.sep b1 b2 e1 e2 o1 o2 hne h1 h2 g1 g2 l1 l2 hr
theorem Rel.world {f:Inj}{w w':World}(h:Rel P f H w)(hw:w'.heap=w.heap):Rel P f H w' :=
 ⟨h.dom,h.fresh,fun b e hb=>by rw[hw];exact h.bound b e hb,fun b e o hb ho=>by rw[hw];exact h.obj b e o hb ho,h.sep,h.zHD⟩
theorem Grow.sizes {f f':Inj}{H' H0 H1:IH}{w w':World}(h:Grow f H w f' H' w')(h0:H0.size<=H.size)(h1:H'.size<=H1.size):Grow f H0 w f' H1 w' :=
 ⟨zQM h0 (zQM h.zHN h1),fun b hb hn=>h.stay b (zP3 hb h0) hn,h.le,h.size,h.keep,h.un,h.out,h.lps⟩
theorem Grow.world {f:Inj}{w w':World}(hw:w'.heap=w.heap)(hout:w'.os=w.os∧w'.output=w.output∧w'.tape=w.tape:=by exact⟨rfl,rfl,rfl⟩):Grow f H w f H w':=⟨zP0 _,fun _ _ h=>h,f.le_refl,by rw[hw];exact zP0 _,fun r _ h=>⟨h,by rw[hw]⟩,fun _ _ h=>h,hout,fun r h=>by unfold vM;rw[hw];exact h⟩
end Go.Idl
