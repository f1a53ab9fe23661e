/- An ideal interpreter of the model's code: its definitions; the relation of an ideal heap and a world. Conditions: none. -/
import Derived.ControlIn
import Derived.Scope
import GoSem.Machine.Frame
import GoSem.Dispatch
import Derived.RangeFuncRecord
import Derived.OrdersIn
set_option linter.all false
namespace Go.Idl
def zOG:=@Bool.and_eq_true
def zOH:=@Nat.eq_of_beq_eq_true
def zOI:=@Nat.le_refl
def zOJ:=@List.all_eq_true
def zOK:=@List.mem_cons_of_mem
def zOL:=@List.getElem?_eq_getElem
def zOM:=@Nat.lt_of_lt_of_le
def zON:=@List.mem_cons_self
def zOO:=@List.getElem?_eq_some_iff
def zOP:=@Option.some.injEq
def zOQ:=@Nat.le_of_ble_eq_true
def zOR:=@Option.map_eq_some_iff
def zOS:=@List.length_map
def zOT:=@Array.getElem?_eq_some_iff
def zOU:=@Array.getD_eq_getD_getElem?
def zOV:=@Nat.ble_eq_true_of_le
def zOW:=@Option.map_some
def zOX:=@List.getElem?_map
def zOY:=@Array.getElem?_eq_getElem
def zOZ:=@List.map_cons
def zO0:=@List.length_append
def zO1:=@List.mem_cons
def zO2:=@Option.bind_some
def zO3:=@Bool.not_eq_true'
def zO4:=@List.length_cons
def zO5:=@List.take_of_length_le
def zO6:=@List.mem_map
def zO7:=@Nat.le_trans
def zO8:=@List.flatMap_cons
def zO9:=@List.getElem?_cons_zero
def zPA:=@List.getElem?_set
def zPB:=@Nat.lt_succ_self
def zPC:=@Option.some.inj
def zPD:=@List.cons.injEq
def zPE:=@List.append_assoc
def zPF:=@Nat.zero_add
def zPG:=@Bool.and_self
def zPH:=@List.getD_eq_getElem?_getD
def zPI:=@List.mem_iff_getElem
def zPJ:=@List.mem_append
def zPK:=@List.mem_singleton
def zPL:=@Bool.or_eq_true
def zPM:=@Nat.not_lt_zero
def zPN:=@Option.isSome_iff_exists
def zPO:=@Nat.mul_le_mul_right
def zPP:=@List.mem_of_getElem?
def zPQ:=@List.length_take
def zPR:=@List.length_set
def zPS:=@List.map_append
def zPT:=@List.length_eq_zero_iff
def zPU:=@Array.length_toList
def zPV:=@List.mem_append_left
def zPW:=@Array.mem_def
def zPX:=@List.getElem?_append_right
def zPY:=@List.all_cons
def zPZ:=@List.getElem?_eq_none
def zP0:=@List.getElem?_append_left
def zP1:=@List.drop_zero
def zP2:=@List.ext_getElem?
def zP3:=@List.map_congr_left
def zP4:=@Nat.lt_succ_of_lt
def zP5:=@Array.ext'
def zP6:=@List.getElem?_take
def zP7:=@Nat.min_eq_left
def zP8:=@List.getElem_mem
def zP9:=@List.getElem?_drop
def zQA:=@List.foldl_cons
def zQB:=@List.append_nil
def zQC:=@Bool.not_eq_false'
def zQD:=@Nat.zero_le
def zQE:=@List.eq_nil_of_length_eq_zero
def zQF:=@List.replicate_succ
def zQG:=@Nat.add_assoc
def zQH:=@List.mem_append_right
def zQI:=@Option.bind_eq_some_iff
def zQJ:=@Array.getElem?_setIfInBounds_ne
def zQK:=@List.take_succ_cons
def zQL:=@Option.getD_some
def zQM:=@List.length_drop
def zQN:=@List.cons_append
def zQO:=@List.map_take
def zQP:=@List.map_map
def zQQ:=@List.map_nil
def zQR:=@List.set_eq_take_append_cons_drop
def zQS:=@Bool.and_true
def zQT:=@List.map_drop
def zQU:=@Array.mem_append
def zQV:=@List.getElem?_toArray
def zQW:=@Array.foldl_toList
def zQX:=@Bool.false_eq_true
def zQY:=@List.mem_filterMap
def zQZ:=@List.mem_range
def zQ0:=@List.length_replicate
def zQ1:=@List.mk_mem_zipIdx_iff_getElem?
def zQ2:=@Nat.add_mul
def zQ3:=@Nat.add_zero
def zQ4:=@Bool.or_eq_false_iff
def zQ5:=@List.size_toArray
def zQ6:=@Int.toNat_natCast
def zQ7:=@List.any_eq_false
def zQ8:=@List.getElem?_replicate
def zQ9:=@Array.toList_map
def zRA:=@List.take_length
def zRB:=@Nat.add_comm
def zRC:=@Nat.succ_mul
def zRD:=@Bool.false_ne_true
def zRE:=@Array.toList_setIfInBounds
def zRF:=@Bool.false_or
def zRG:=@List.nodup_iff_pairwise_ne
def zRH:=@List.getElem?_eq_none_iff
def zRI:=@List.drop_eq_getElem_cons
def zRJ:=@List.mem_of_mem_take
def zRK:=@List.mem_of_mem_drop
def zRL:=@List.mem_flatten
def zRM:=@List.flatMap_append
def zRN:=@List.getElem?_cons_succ
def zRO:=@List.mem_singleton_self
def zRP:=@Nat.lt_irrefl
def zRQ:=@Bool.true_and
def zRR:=@Array.eq_empty_of_size_eq_zero
def zRS:=@List.nil_append
def zRT:=@List.take_append_drop
def zRU:=@List.take_take
def zRV:=@Nat.zero_mul
def zRW:=@List.zipIdx_cons
def zRX:=@List.countP_cons
def zRY:=@List.filter_cons
def zRZ:=@Nat.min_eq_right
def zR0:=@Bool.not_eq_true
def zR1:=@Nat.le_succ
def zR2:=@List.mem_map_of_mem
def zR3:=@List.countP_eq_zero
def zR4:=@Nat.mul_eq_zero
def zR5:=@List.all_append
def zR6:=@Option.isSome_some
def zR7:=@Array.getElem?_replicate
def zR8:=@Bool.or_true
def zR9:=@List.eq_of_mem_replicate
def zSA:=@List.drop_drop
def zSB:=@Nat.add_sub_cancel_left
def zSC:=@List.flatten_cons
def zSD:=@Array.getElem?_eq_none
def zSE:=@List.drop_of_length_le
def zSF:=@Bool.not_true
def zSG:=@Bool.or_false
def zSH:=@Nat.succ_lt_succ
def zSI:=@Array.all_eq_true_iff_forall_mem
def zSJ:=@Nat.le_of_not_lt
def zSK:=@List.isEmpty_iff
def zSL:=@List.countP_le_length
def zSM:=@Array.getElem?_toList
def zSN:=@Nat.beq_refl
def zSO:=@List.getElem?_append
def zSP:=@Nat.min_zero
def zSQ:=@List.length_nil
def zSR:=@Nat.sub_self
def zSS:=@Option.map_none
def zST:=@List.getElem?_set_ne
def zSU:=@List.getElem?_range
def zSV:=@List.filterMap_cons
def zSW:=@List.mapM_cons
def zSX:=@Array.ext_getElem?
def zSY:=@Option.isSome_none
open Go
variable {c:Code}
section
variable {F:Fence}{n:Nat}{P:Program}{b:Frame}{a:Act}{k:List Item}{cs:List Frame}{w:World}{Q:Exit->Act->World->Prop}
theorem jN:step P (lone (b.atR a (.code (.scope c)::k)) cs w)=.next (lone (b.atR a (.code c::.inScope c::k)) cs w):=step_lone_go (by simp[stepG,stepG.exec,Frame.atR])
theorem qGP:step P (lone (b.atR a (.inScope c::k)) cs w)=.next (lone (b.atR a k) cs w):=step_lone_go (by simp[stepG,stepG.exec,Frame.atR])
theorem wI (h:c.wpIn F n P (Exit.noGoto Q) a w):(Code.scope c).wpIn F n P Q a w:=by
 intro b k cs hro hb hr;have h0:(lone (b.atR a (.code (.scope c)::k)) cs w).fenced P F:=fenced_calm hb hr rfl;obtain⟨e,a₁,w₁,hq,harr⟩:=h b (.inScope c::k) cs hro hb hr
 cases e with
 | normal=>exact⟨.normal,a₁,w₁,hq,.head h0 jN (StepsIn.trans harr (.one (fenced_calm hb hr rfl) qGP))⟩
 | exit id =>
   have hx:exitTo id (.inScope c::k)=exitTo id k:=by simp[exitTo]
   exact⟨.exit id,a₁,w₁,hq,fun k' hk=>.head h0 jN (harr.1 k' (by rw[hx];exact hk)),
    fun hr' hk=>let ⟨k₁,h1,h2⟩:=harr.2 hr' (by rw[hx];exact hk);⟨k₁,h1,.head h0 jN h2⟩⟩
 | goto l=>exact hq.elim
 | ret=>exact⟨_,a₁,w₁,hq,.of_steps (.one h0 jN) harr⟩
 | panic ch=>exact⟨_,a₁,w₁,hq,.of_steps (.one h0 jN) harr⟩
 | outgrown=>exact⟨_,a₁,w₁,hq,.of_steps (.one h0 jN) harr⟩
end
end Go.Idl
namespace Go.Idl
def zDI:List (Nat×Nat):=[(5,20)]
noncomputable section
inductive Tr (α:Type):Type where
 | nil:Tr α
 | node (v:Option α) (l r:Tr α):Tr α
namespace Tr
variable {α:Type}
def get (t:Tr α):Nat->Option α :=
 Tr.rec (fun _=>none) (fun v _ _ ihl ihr n=>Nat.casesOn n v fun m=>cond (Nat.beq (m % 2) 0) (ihl (m / 2)) (ihr (m / 2))) t
theorem get_nil (n:Nat):(Tr.nil:Tr α).get n=none:=rfl
theorem dG (v:Option α)(l r:Tr α):(Tr.node v l r).get 0=v:=rfl
theorem wX (v:Option α)(l r:Tr α)(n:Nat):(Tr.node v l r).get (n+1)=if n % 2=0 then l.get (n / 2) else r.get (n / 2):=by
 show cond (Nat.beq (n % 2) 0) (l.get (n / 2)) (r.get (n / 2))=_;by_cases h:n % 2=0
 ·rw[if_pos h,h];rfl
 ·rw[if_neg h];have:n % 2=1:=by omega
  rw[this];rfl
def qPI (f:Nat):Tr α->Nat->α->Tr α :=
 Nat.rec (fun t _ _=>t) (fun _ ih t n a=>Tr.casesOn t
  (Nat.casesOn n (.node (some a) .nil .nil) fun m=>cond (Nat.beq (m % 2) 0) (.node none (ih .nil (m / 2) a) .nil) (.node none .nil (ih .nil (m / 2) a)))
  (fun v l r=>Nat.casesOn n (.node (some a) l r) fun m=>cond (Nat.beq (m % 2) 0) (.node v (ih l (m / 2) a) r) (.node v l (ih r (m / 2) a)))) f
theorem qFQ (f:Nat)(a:α):qPI (f+1) .nil 0 a=.node (some a) .nil .nil:=rfl
theorem qC5 (f:Nat)(v:Option α)(l r:Tr α)(a:α):qPI (f+1) (.node v l r) 0 a=.node (some a) l r:=rfl
theorem sD (n:Nat):Nat.beq (n % 2) 0=decide (n % 2=0):=by
 by_cases h:n % 2=0
 ·rw[h];rfl
 ·rw[decide_eq_false h];have:n % 2=1:=by omega
  rw[this];rfl
theorem nM (f n:Nat)(a:α):qPI (f+1) .nil (n+1) a=if n % 2=0 then .node none (qPI f .nil (n / 2) a) .nil else .node none .nil (qPI f .nil (n / 2) a):=by
 show cond (Nat.beq (n % 2) 0) (Tr.node none (qPI f .nil (n / 2) a) .nil) (Tr.node none .nil (qPI f .nil (n / 2) a))=_;rw[sD];by_cases h:n % 2=0 <;> simp[h]
theorem dV (f n:Nat)(v:Option α)(l r:Tr α)(a:α):qPI (f+1) (.node v l r) (n+1) a=if n % 2=0 then .node v (qPI f l (n / 2) a) r else .node v l (qPI f r (n / 2) a):=by
 show cond (Nat.beq (n % 2) 0) (Tr.node v (qPI f l (n / 2) a) r) (Tr.node v l (qPI f r (n / 2) a))=_;rw[sD];by_cases h:n % 2=0 <;> simp[h]
def set (t:Tr α)(n:Nat)(a:α):Tr α:=qPI (n+1) t n a
theorem qZI (f:Nat):∀ (t:Tr α) (n m:Nat) (a:α),n < f->(qPI f t n a).get m=if m=n then some a else t.get m:=by
 induction f with
 | zero=>intro t n m a h;omega
 | succ f ih =>
   intro t n m a h
   cases t with
   | nil =>
     cases n with
     | zero=>cases m <;> simp[qFQ,dG,wX,get_nil]
     | succ n =>
       have hlt:n / 2 < f:=by omega
       by_cases hn:n % 2=0
       ·rw[nM,if_pos hn]
        cases m with
        | zero=>simp[dG,get_nil]
        | succ m =>
          rw[wX];by_cases hm:m % 2=0
          ·rw[if_pos hm,ih _ _ _ _ hlt];by_cases e:m=n
           ·simp[e]
           ·rw[if_neg (by omega),if_neg (by omega),get_nil,get_nil]
          ·rw[if_neg hm,if_neg (by omega),get_nil,get_nil]
       ·rw[nM,if_neg hn]
        cases m with
        | zero=>simp[dG,get_nil]
        | succ m =>
          rw[wX];by_cases hm:m % 2=0
          ·rw[if_pos hm,if_neg (by omega),get_nil,get_nil]
          ·rw[if_neg hm,ih _ _ _ _ hlt];by_cases e:m=n
           ·simp[e]
           ·rw[if_neg (by omega),if_neg (by omega),get_nil,get_nil]
   | node v l r =>
     cases n with
     | zero=>cases m <;> simp[qC5,dG,wX]
     | succ n =>
       have hlt:n / 2 < f:=by omega
       by_cases hn:n % 2=0
       ·rw[dV,if_pos hn]
        cases m with
        | zero=>simp[dG]
        | succ m =>
          rw[wX,wX];by_cases hm:m % 2=0
          ·rw[if_pos hm,if_pos hm,ih _ _ _ _ hlt];by_cases e:m=n
           ·simp[e]
           ·rw[if_neg (by omega),if_neg (by omega)]
          ·rw[if_neg hm,if_neg hm,if_neg (by omega)]
       ·rw[dV,if_neg hn]
        cases m with
        | zero=>simp[dG]
        | succ m =>
          rw[wX,wX];by_cases hm:m % 2=0
          ·rw[if_pos hm,if_pos hm,if_neg (by omega)]
          ·rw[if_neg hm,if_neg hm,ih _ _ _ _ hlt];by_cases e:m=n
           ·simp[e]
           ·rw[if_neg (by omega),if_neg (by omega)]
theorem zGA (t:Tr α)(n m:Nat)(a:α):(t.set n a).get m=if m=n then some a else t.get m:=qZI _ t n m a (zPB n)
end Tr
structure IH where
 tr:Tr Obj
 size:Nat
 base:Nat
 log:List Nat
def xE:Obj:=.pending #[] 0
def IH.get (H:IH)(b:Nat):Option Obj:=H.tr.get b
def IH.put (H:IH)(b:Nat)(o:Obj):IH:={ H with tr:=H.tr.set b o,log:=b::H.log }
def IH.push (H:IH)(o:Obj):IH:={ H with tr:=H.tr.set H.size o,size:=H.size+1 }
def oneCell:Value->Bool
 | .agg _ | .tuple _=>false
 | _=>true
def aH (fz:Nat×Nat):Bool:=fz.2<=fz.1
def IH.load (H:IH)(b i:Nat):Option Value :=
 match H.get b with
 | some (.cells c _ _)=>c[i]?
 | _=>none
def IH.loads (H:IH)(b i n:Nat):Option (List Value) :=
 match H.get b with
 | some (.cells c _ _)=>if i+n<=c.size then some ((c.toList.drop i).take n) else none
 | _=>none
def overwrite (l:List Value)(i:Nat)(vs:List Value):List Value:=l.take i++vs++l.drop (i+vs.length)
def IH.stores (H:IH)(b i:Nat)(vs:List Value):Option IH :=
 match H.get b with
 | some (.cells c el fz) =>
   if i+vs.length<=c.size&&aH fz&&decide (H.base<=b)&&vs.all oneCell then some (H.put b (.cells (overwrite c.toList i vs).toArray el fz)) else none
 | _=>none
def jZ {α:Type}(p:α->Bool)(l:List α):Bool:=List.rec true (fun a _ ih=>cond (p a) ih false) l
theorem q1H {α:Type}(p:α->Bool):jZ p []=true:=rfl
theorem vG {α:Type}(p:α->Bool)(a:α)(l:List α):jZ p (a::l)=(p a&&jZ p l):=by
 show cond (p a) (jZ p l) false=_;cases p a <;> rfl
theorem xR {α:Type}{p:α->Bool}{l:List α}:jZ p l=true ↔ ∀ a∈l,p a=true:=by
 induction l with
 | nil=>simp[q1H]
 | cons a l ih=>simp[vG,ih]
def zL {α:Type}(l:List α):Nat->Option α :=
 List.rec (fun _=>none) (fun a _ ih n=>Nat.casesOn n (some a) fun m=>ih m) l
theorem qF {α:Type}(l:List α):∀ n,zL l n=l[n]?:=by
 induction l with
 | nil=>intro n;simp;rfl
 | cons a l ih =>
   intro n
   cases n with
   | zero=>simp;rfl
   | succ n => have:zL (a::l) (n+1)=zL l n:=rfl
               rw[this,ih];simp
def yR {α:Type}(l:List α):Nat->α->List α :=
 List.rec (fun _ _=>[]) (fun a t ih n v=>Nat.casesOn n (v::t) fun m=>a::ih m v) l
theorem qX {α:Type}(l:List α):∀ n v,yR l n v=l.set n v:=by
 induction l with
 | nil=>intro n v;simp;rfl
 | cons a l ih =>
   intro n v
   cases n with
   | zero=>simp;rfl
   | succ n => have:yR (a::l) (n+1) v=a::yR l n v:=rfl
               rw[this,ih];simp
def kS {α β:Type}(g:α->β)(l:List α):List β:=List.rec [] (fun a _ ih=>g a::ih) l
theorem xD {α β:Type}(g:α->β)(l:List α):kS g l=l.map g:=by
 induction l with
 | nil=>rfl
 | cons a l ih=>show g a::kS g l=_;rw[ih];rfl
def qDO {α:Type}(l m:List α):List α:=List.rec m (fun a _ ih=>a::ih) l
theorem aI {α:Type}(l m:List α):qDO l m=l++m:=by
 induction l with
 | nil=>rfl
 | cons a l ih=>show a::qDO l m=_;rw[ih];rfl
def zAJ:Fn->Bool
 | .func _=>true
 | _=>false
def kD (n:Nat):Value->Bool :=
 Nat.rec (fun _=>false) (fun _ ih v=>match v with
  | .bool _ | .int _ _ | .float _ _ | .complex _ _ _ | .string _ | .nilFunc | .nilIface=>true
  | .pointer a=>a.isNone
  | .slice a l c=>a.isNone&&(Nat.beq l 0&&Nat.beq c 0)
  | .map r | .chan r=>r.isNone
  | .func fn first captured=>zAJ fn&&(jZ ih first.toList&&jZ ih captured.toList)
  | .iface _ v=>ih v
  | .agg cs=>jZ ih cs.toList
  | .tuple _=>false) n
def yV (v:Value):Bool:=kD 3 v
def zQ (l:List Value):Bool:=jZ yV l
def z8 {α:Type}(P:Program)(s:Sem α):Option α :=
 Sem.rec (motive:=fun _=>Option α) (fun a=>some a) (fun _ _ _ _=>none) (fun _ _ _ _ _=>none) (fun _ _ _=>none) (fun _ _ _=>none) (fun _ _ _ _=>none) (fun _ _ _=>none)
  (fun _ _ _=>none) (fun _ _ _ _=>none) (fun q _ ih=>cond q.forced (ih 0) none) (fun _ _ _=>none) (fun _ ih=>ih P) (fun _ _ ih=>ih) (fun _=>none) s
abbrev Env:=List Value
def unk:Value:=.tuple #[.tuple #[]]
def Env.val (env:Env):Operand->Value
 | .tmp t=>(zL env t).getD undef
 | .const v=>v
 | .global g=>.pointer (some ⟨g,0,none⟩)
 | .func f=>.func (.func f) #[] #[]
def Env.zFK (env:Env)(d:Option Tmp)(v:Value):Env :=
 match d with
 | some t=>yR env t v
 | none=>env
def qTQ (want:Bool):Value->Option Bool
 | .bool b=>some (b==want)
 | .tuple vs=>cond vs.isEmpty (some false) none
 | _=>none
def kM (ops:Array Oper)(o:Oper)(env:Env):Option Bool :=
 match o.guard with
 | none=>some true
 | some (j,want)=>match (ops[j]?).bind (·.dst) with
   | some t=>match zL env t with
     | some v=>qTQ want v
     | none=>none
   | none=>some false
def qOX (P:Program)(t:TypeId):Option Bool :=
 match P.underlying t with
 | some (.struct _) | some (.array _ _)=>some true
 | some _=>some false
 | none=>none
def gQ (P:Program)(t:TypeId):Option Value:=(P.info? t).bind (·.zero)
def qAU (P:Program)(t:TypeId):Option Value :=
 match gQ P t with
 | some z=>if zQ z.cells.toList then some z else none
 | none=>none
def szT (P:Program)(t:TypeId):Option Nat:=(P.info? t).map (·.size)
inductive zE7 where
 | val (v:Value) (H:IH)
 | enter (f:FuncId) (args:List Value) (H:IH)
 | round (l:Nat) (args:List Value) (H:IH)
 | choice (n:Nat) (k:Nat->Option (Value×IH))
def zE7.ofO (H:IH):Option Value->Option zE7
 | some v=>some (.val v H)
 | none=>none
def uN (P:Program)(t:TypeId)(a:Value)(H:IH):Option Value :=
 match a with
 | .pointer (some ⟨b,i,none⟩) =>
   match qOX P t with
   | some true=>match szT P t with
     | some n=>match H.loads b i n with
       | some l=>some (.agg l.toArray)
       | none=>none
     | none=>none
   | some false=>H.load b i
   | none=>none
 | _=>none
def fF (P:Program)(t:TypeId)(a v:Value)(H:IH):Option IH :=
 match a with
 | .pointer (some ⟨b,i,none⟩) =>
   if szT P t=some v.cells.size then H.stores b i v.cells.toList else none
 | _=>none
def zK:Value->Bool
 | .tuple _=>false
 | _=>true
def qIS (P:Program)(t:TypeId)(parts:List (Nat×Value)):Option Value :=
 match qAU P t,P.underlying t with
 | some zero,some (.struct fields) =>
   match fields.toList.mapM (fun f=>(szT P f.type).map fun s=>(f.offset,s)) with
   | some places=>if parts.all (fun p=>zK p.2) then (Instr.fill (fun i=>places.toArray[i]?) zero.cells parts).map .agg else none
   | none=>none
 | some zero,some (.array _ elem) =>
   match szT P elem with
   | some size=>if parts.all (fun p=>zK p.2) then (Instr.fill (fun i=>some (i*size,size)) zero.cells parts).map .agg else none
   | none=>none
 | _,_=>none
def aX (P:Program)(elem:TypeId)(n:Nat):Option (Array Value) :=
 if n=0 then some #[] else (qAU P elem).map fun z=>(Array.range n).map fun i=>z.cells[i % z.cells.size]!
def kJ (P:Program)(t:TypeId)(len:Nat)(parts:List (Nat×Value))(H:IH):Option zE7 :=
 match P.underlying t with
 | some (.slice elem) =>
   match szT P elem with
   | some size =>
     if len*size<=65536&&parts.all (fun p=>zK p.2) then
      match aX P elem (len*size) with
      | some z=>match Instr.fill (fun i=>some (i*size,size)) z parts with
        | some cells=>some (.val (.slice (some ⟨H.size,0,none⟩) len len) (H.push (.cells cells elem)))
        | none=>none
      | none=>none
     else none
   | none=>none
 | _=>none
def jU (P:Program)(t:TypeId)(l c:Value)(H:IH):Option zE7 :=
 match P.underlying t,l,c with
 | some (.slice elem),.int _ l,.int _ c =>
   match P.info? elem with
   | some i =>
     if 0<=l&&l<=c&&(i.bytes:Int)*c<=2 ^ 47&&c<=2 ^ 47 then
      match aX P elem (c.toNat*i.size) with
      | some z=>some (.val (.slice (some ⟨H.size,0,none⟩) l.toNat c.toNat) (H.push (.cells z elem)))
      | none=>none
     else none
   | none=>none
 | _,_,_=>none
def u6 (d:Nat)(most:Nat):Option Value->Option Nat
 | none=>some d
 | some (.int _ i)=>if 0<=i&&i<=(most:Int) then some i.toNat else none
 | some _=>none
def zO:Nat×Nat:=(1,1)
def wJ (P:Program)(t:TypeId)(x:Value)(lo hi mx:Option Value):Option Value :=
 match P.underlying t,x,mx with
 | some (.slice elem),.slice none 0 0,none =>
   match szT P elem,u6 0 0 hi with
   | some _,some h=>match u6 0 h lo with
     | some _=>some (.slice none 0 0)
     | none=>none
   | _,_=>none
 | some (.slice elem),.slice (some ⟨b,o,sp⟩) len cap,none =>
   match szT P elem,u6 len cap hi with
   | some size,some h=>match u6 0 h lo with
     | some l=>if sp.all (·==elem)&&Nat.ble h cap then some (.slice (some ⟨b,if cap=l then o else o+l*size,sp⟩) (h - l) (cap - l)) else none
     | none=>none
   | _,_=>none
 | some (.array n elem),.pointer (some ⟨b,o,none⟩),none =>
   match szT P elem,u6 n n hi with
   | some size,some h=>match u6 0 h lo with
     | some l=>some (.slice (some ⟨b,if n=l then o else o+l*size,none⟩) (h - l) (n - l))
     | none=>none
   | _,_=>none
 | _,_,_=>none
def cK (P:Program)(s:TypeId)(x:Value)(fd:Nat):Option Value :=
 match P.underlying s,x with
 | some (.struct fields),.pointer (some ⟨b,o,none⟩) =>
   match fields[fd]? with
   | some f=>match szT P f.type with
     | some sz=>if sz=0 then none else some (.pointer (some ⟨b,o+f.offset,none⟩))
     | none=>none
   | none=>none
 | _,_=>none
def qR1 (P:Program)(t:TypeId)(cs:Array Value)(off:Nat):Option Value :=
 match qOX P t with
 | some true=>match szT P t with
   | some n=>if off+n<=cs.size then some (.agg (cs.extract off (off+n))) else none
   | none=>none
 | some false=>cs[off]?
 | none=>none
def zD6 (P:Program)(t:TypeId)(x:Value)(fd:Nat):Option Value :=
 match P.underlying t,x with
 | some (.struct fields),.agg cs=>match fields[fd]? with
   | some f=>qR1 P f.type cs f.offset
   | none=>none
 | _,_=>none
def uG (P:Program)(t:TypeId)(x ix:Value):Option Value :=
 match P.underlying t,x,ix with
 | some (.array n elem),.pointer (some ⟨b,o,none⟩),.int _ i =>
   match szT P elem with
   | some size=>if 0<=i&&i < (n:Int) then some (.pointer (some ⟨b,o+i.toNat*size,none⟩)) else none
   | none=>none
 | some (.slice elem),.slice (some ⟨b,o,_⟩) len _,.int _ i =>
   match szT P elem with
   | some size=>if 0<=i&&i < (len:Int) then some (.pointer (some ⟨b,o+i.toNat*size,none⟩)) else none
   | none=>none
 | _,_,_=>none
def sP (P:Program)(t:TypeId)(x ix:Value):Option Value :=
 match P.underlying t,x,ix with
 | some (.array n elem),.agg cs,.int _ i =>
   match szT P elem with
   | some size=>if 0<=i&&i < (n:Int) then qR1 P elem cs (i.toNat*size) else none
   | none=>none
 | _,_,_=>none
def eY (P:Program)(kt:TypeId)(k:Value)(es:List MapEntry):Option (Option Nat) :=
 if yV k&&es.all (fun e=>yV e.key) then
  match z8 P (Instr.checkKey es.isEmpty 10000 kt k),z8 P (Instr.checkKey false 10000 kt k),z8 P (Instr.findKey kt k es) with
  | some _,some _,some r=>some (r.map (·.1))
  | _,_,_=>none
 else none
def q4H (ok:Bool)(v:Value)(b:Bool):Value:=cond ok (.tuple #[v,.bool b]) v
def qC0 (P:Program)(t:TypeId)(x k:Value)(ok:Bool)(H:IH):Option Value :=
 match P.underlying t,x with
 | some (.map kt et),.map (some r) =>
   match H.get r with
   | some (.map es _)=>match eY P kt k es.toList with
     | some (some i)=>match es[i]? with
       | some e=>some (q4H ok e.val true)
       | none=>none
     | some none=>match gQ P et with
       | some z=>if yV z then some (q4H ok z false) else none
       | none=>none
     | none=>none
   | _=>none
 | _,_=>none
def jS (P:Program)(t:TypeId)(x k v:Value)(H:IH):Option IH :=
 match P.underlying t,x with
 | some (.map kt _),.map (some r) =>
   match H.get r with
   | some (.map es clock) =>
     if decide (H.base<=r)&&zK v then
      match eY P kt k es.toList with
      | some (some i)=>match es[i]? with
        | some e=>if Instr.sameBits 10000 e.key k then some (H.put r (.map (es.modify i fun e=>{ e with key:=k,val:=v }) clock)) else none
        | none=>none
      | some none=>some (H.put r (.map (es.push { key:=k,val:=v,born:=clock }) (clock+1)))
      | none=>none
     else none
   | _=>none
 | _,_=>none
def zDZ (P:Program)(t:TypeId)(x:Value)(H:IH):Option zE7 :=
 match P.underlying t,x with
 | some .string,.string s=>some (.val (.pointer (some ⟨H.size,0,none⟩)) (H.push (.stringIter s 0)))
 | some (.map _ _),.map (some m)=>match H.get m with
   | some (.map _ clock)=>some (.val (.pointer (some ⟨H.size,0,none⟩)) (H.push (.mapIter (some m) clock #[] 0)))
   | _=>none
 | _,_=>none
def zDY (x:Value)(H:IH):Option Value :=
 match x with
 | .pointer (some ⟨r,0,none⟩) =>
   match H.get r with
   | some (.mapIter (some m) since _ (last+1))=>match H.get m with
     | some (.map es clock)=>if clock==since then (match es.find? (·.born==last) with
       | some e=>if yV e.key then some (.tuple #[e.key,e.val]) else none
       | none=>none) else none
     | _=>none
   | _=>none
 | _=>none
def qS7 (P:Program)(t:TypeId):Value->Value->Option Bool
 | .pointer (some a),.pointer (some b) =>
   match P.underlying t with
   | some (.pointer el)=>match szT P el with
     | some n=>if n != 0&&a.block==b.block&&a.spot.isNone&&b.spot.isNone then some (a.off==b.off) else none
     | none=>none
   | _=>none
 | _,_=>none
def uI:Value->Value->Option Bool
 | .pointer none,.pointer b | .pointer b,.pointer none=>some b.isNone
 | .slice none _ _,.slice b _ _ | .slice b _ _,.slice none _ _=>some b.isNone
 | .map none,.map b | .map b,.map none=>some b.isNone
 | .nilFunc,.nilFunc=>some true
 | .nilFunc,.func _ _ _ | .func _ _ _,.nilFunc=>some false
 | _,_=>none
def zR:List Value->Option (List UInt8)
 | []=>some []
 | .int .u8 n::l=>(zR l).map (UInt8.ofNat n.toNat::·)
 | _=>none
def kH:Value->Option Nat
 | .slice _ n _=>some n
 | .string s=>some s.size
 | _=>none
def wT (size n:Nat)(H:IH):Value->Option (List Value)
 | .slice (some ⟨b,o,_⟩) _ _=>H.loads b o (n*size)
 | .slice none _ _=>if n=0 then some [] else none
 | .string s=>some (((s.extract 0 n).data.toList).map fun b=>.int .u8 b.toNat)
 | _=>none
def kX (size n:Nat)(H:IH)(x:Value):Option (List Value):=if n=0 then (if (kH x).isSome then some [] else none) else wT size n H x
def qKN (elem:TypeId)(H:IH):Option Addr->Option IH
 | none=>some H
 | some ⟨_,_,none⟩=>some H
 | some ⟨b,_,some el⟩=>match H.get b with
   | some (.cells _ el' fz)=>if aH fz&&decide (H.base<=b)&&el==elem&&el'==elem then some (H.put b xE) else none
   | _=>none
def qVD (size:Nat):Value->Bool
 | .string _=>Nat.beq size 1
 | _=>true
def qLI (P:Program)(elem:TypeId)(info:TypeInfo)(xd:TypeDesc)(x:Value)(H:IH):Option (Nat×List Value) :=
 match xd with
 | .int _=>(match x with
   | .int _ l=>if 0<=l&&l<=65536&&l.toNat*info.bytes<=2 ^ 40 then
      (if l.toNat*info.size=0 then some (l.toNat,[]) else (qAU P elem).map fun z=>(l.toNat,(Builtin.zeroCells z.cells l.toNat).toList)) else none
   | _=>none)
 | _=>(match kH x with
   | some n=>cond (qVD info.size x) ((kX info.size n H x).map fun l=>(n,l)) none
   | none=>none)
def qMS (elem:TypeId)(size:Nat)(base:Option Addr)(len cap need:Nat)(new:List Value)(H:IH):Option zE7 :=
 match base with
 | some a=>if a.spot.all (·==elem) then
    (if new.isEmpty then some (.val (.slice base need cap) H) else match H.stores a.block (a.off+len*size) new with
      | some H'=>some (.val (.slice base need cap) H')
      | none=>none) else none
 | none=>if len==0&&cap==0 then some (.val (.slice none 0 0) H) else none
def qSS (P:Program)(elem:TypeId)(info:TypeInfo)(base:Option Addr)(len cap need:Nat)(new:List Value)(H:IH):Option zE7 :=
 if need<=2 ^ 40&&need*info.bytes<=2 ^ 45&&new.all oneCell&&((gQ P elem).map (·.cells.size))==some info.size then
  match wT info.size len H (.slice base len cap),qKN elem H base with
  | some old,some H'=>some (.val (.slice (some ⟨H'.size,0,some elem⟩) need need) (H'.push (.cells (old++new).toArray elem zO)))
  | _,_=>none
 else none
def wC (P:Program)(elem:TypeId)(info:TypeInfo)(base:Option Addr)(len cap:Nat)(H:IH)(r:Option (Nat×List Value)):Option zE7 :=
 match r with
 | some (n,new)=>if len+n<=cap then qMS elem info.size base len cap (len+n) new H else qSS P elem info base len cap (len+n) new H
 | none=>none
def uV (P:Program)(argTypes:Array TypeId)(args:List Value)(H:IH):Option zE7 :=
 match argTypes.toList,args with
 | [st,xt],[.slice base len cap,x] =>
   match P.underlying st with
   | some (.slice elem) =>
     match P.info? elem,P.underlying xt with
     | some info,some xd=>wC P elem info base len cap H (qLI P elem info xd x H)
     | _,_=>none
   | _=>none
 | _,_=>none
def uF (base:Option Addr)(n:Nat)(l:List Value)(H:IH):Option zE7 :=
 match base with
 | some a=>if l.isEmpty then some (.val (goInt n) H) else match H.stores a.block a.off l with
   | some H'=>some (.val (goInt n) H')
   | none=>none
 | none=>some (.val (goInt n) H)
def qDB (P:Program)(argTypes:Array TypeId)(args:List Value)(H:IH):Option zE7 :=
 match argTypes.toList,args with
 | [st,_],[.slice base qOH _,x] =>
   match P.underlying st with
   | some (.slice elem) =>
     match szT P elem,kH x with
     | some size,some m =>
       match kX size (Nat.min m qOH) H x with
       | some l=>uF base (Nat.min m qOH) l H
       | none=>none
     | _,_=>none
   | _=>none
 | _,_=>none
def qG0 (P:Program)(src dst:TypeId)(x:Value)(H:IH):Option Value :=
 match x with
 | .pointer (some ⟨b,o,none⟩) =>
   match H.get b with
   | some (.cells c el fz) =>
     match P.underlying src,P.underlying dst with
     | some (.pointer t),some .unsafePointer=>match szT P t with
       | some n=>if n != 0&&decide (o < c.size) then some x else none
       | none=>none
     | some .unsafePointer,some (.pointer u)=>match szT P u with
       | some n=>if n != 0&&fz==(0,0)&&liesAt P P.depth el (c.size / P.cellsOf el) o u 1 then some x else none
       | none=>none
     | _,_=>none
   | _=>none
 | _=>none
def xU (P:Program)(argTypes:Array TypeId)(args:List Value)(H:IH):Option zE7 :=
 match argTypes[0]?,args with
 | some pt,[.pointer none,.int _ n]=>if n=0&&(P.underlying pt).isSome then some (.val (.string .empty) H) else none
 | some pt,[.pointer (some ⟨b,o,none⟩),.int _ n] =>
   match P.underlying pt with
   | some (.pointer u) =>
     if n=0 then some (.val (.string .empty) H)
     else if 0 < n&&n<=2 ^ 60 then
      match H.get b with
      | some (.cells c el fz) =>
        if aH fz&&P.cellsOf el==1&&sameLayout P P.depth el u&&decide (H.base<=b) then
         match (H.loads b o n.toNat).bind zR with
         | some bs=>some (.val (.string ⟨bs.toArray⟩) (H.put b (.cells c el (0,1))))
         | none=>none
        else none
      | _=>none
     else none
   | _=>none
 | _,_=>none
def nL (P:Program)(ts:Array TypeId)(args:List Value)(H:IH):Option zE7 :=
 match (ts[0]?).bind P.underlying,args with
  | some (.slice _),[.slice _ n _]=>some (.val (goInt n) H)
  | some (.map _ _),[.map (some r)]=>match H.get r with
    | some (.map es _)=>some (.val (goInt es.size) H)
    | _=>none
  | some (.array n _),[_]=>some (.val (goInt n) H)
  | _,_=>none
def yG (P:Program)(b:Builtin)(c:Call)(args:List Value)(H:IH):Option zE7 :=
 match b with
 | .append=>uV P c.argTypes args H
 | .copy=>qDB P c.argTypes args H
 | .len=>nL P c.argTypes args H
 | .unsafeSliceData=>match args with
   | [.slice none _ _]=>some (.val (.pointer none) H)
   | [.slice (some a) _ c]=>if c != 0 then some (.val (.pointer (some ⟨a.block,a.off,none⟩)) H) else none
   | _=>none
 | .unsafeString=>xU P c.argTypes args H
 | _=>none
def fQ (P:Program)(c:Call)(env:Env)(H:IH):Option zE7 :=
 let args:=kS env.val c.args.toList
 match c.callee with
 | .builtin b=>yG P b c args H
 | .invoke _ _=>none
 | .value f=>match env.val f with
   | .func (.func g) first captured =>
     match P.funcs[g]? with
     | some fn=>if fn.body.isSome then (if fn.name != "runtime.NumGoroutine" then some (.enter g (qDO first.toList (qDO args captured.toList)) H) else none)
       else if fn.name == "internal/abi.NoEscape" && fn.origin == "" then (match qDO first.toList (qDO args captured.toList) with
        | [v]=>some (.val v H)
        | _=>none)
       else none
     | none=>none
   | .func (.yield l) first captured=>if first.isEmpty&&captured.isEmpty then some (.round l args H) else none
   | _=>none
def qH6:Value->Bool
 | .tuple vs=>zQ vs.toList
 | v=>yV v
def qB7 (H:IH)(v:Value):Option zE7 :=
 cond (qH6 v) (some (.val v H)) none
def qF7 (H:IH):Option Next->Option zE7
 | some (.value v)=>qB7 H v
 | _=>none
def kL (P:Program)(o:Oper)(env:Env)(H:IH):Option zE7 :=
 if zQ (kS env.val o.op.operands.toList) then qF7 H (z8 P (execOp env.val o)) else none
def dU (op:BinOp)(k:IntKind)(a b:Int):Option Value :=
 match op with
 | .add=>some (.int k (k.wrap (a+b)))
 | .sub=>some (.int k (k.wrap (a - b)))
 | .mul=>some (.int k (k.wrap (a*b)))
 | .quo=>if b=0 then none else some (.int k (k.wrap (a.tdiv b)))
 | .rem=>if b=0 then none else some (.int k (a.tmod b))
 | .eql=>some (.bool (a==b))
 | .neq=>some (.bool (a != b))
 | .lss=>some (.bool (a < b))
 | .leq=>some (.bool (a<=b))
 | .gtr=>some (.bool (a > b))
 | .geq=>some (.bool (a ≥ b))
 | _=>none
def q3U:IntKind->Nat
 | .i8=>0 | .i16=>1 | .i32=>2 | .i64=>3 | .u8=>4 | .u16=>5 | .u32=>6 | .u64=>7
theorem q2Q {a b:IntKind}(h:Nat.beq (q3U a) (q3U b)=true):a=b:=by
 cases a <;> cases b <;> first | rfl | (exact absurd h (by decide))
theorem qUT (a:IntKind):Nat.beq (q3U a) (q3U a)=true:=by cases a <;> rfl
def asI:Value->Option (IntKind×Int)
 | .int k n=>some (k,n)
 | _=>none
def uM (P:Program)(t:TypeId)(x:Value):Bool :=
 match P.underlying t,x with
 | some (.pointer _),.pointer _=>true
 | some (.slice _),.slice _ _ _=>true
 | some (.map _ _),.map _=>true
 | some (.func _ _ _),.nilFunc=>true
 | some (.func _ _ _),.func _ _ _=>true
 | _,_=>false
def eG (P:Program)(t:TypeId)(x y:Value):Option Bool :=
 match uI x y with
 | some b=>cond (uM P t x) (some b) none
 | none=>qS7 P t x y
def zFE (P:Program)(o:Oper)(op:BinOp)(t:TypeId)(x y:Value)(env:Env)(H:IH):Option zE7 :=
 match op with
 | .eql=>(match eG P t x y with
   | some b=>some (.val (.bool b) H)
   | none=>kL P o env H)
 | .neq=>(match eG P t x y with
   | some b=>some (.val (.bool !b) H)
   | none=>kL P o env H)
 | _=>kL P o env H
def zFR (P:Program)(o:Oper)(op:BinOp)(k k':IntKind)(a b:Int)(env:Env)(H:IH):Option zE7 :=
 cond (Nat.beq (q3U k) (q3U k')) (match dU op k a b with
  | some v=>some (.val v H)
  | none=>kL P o env H) (kL P o env H)
def yT (P:Program)(o:Oper)(op:BinOp)(t:TypeId)(x y:Value)(env:Env)(H:IH):Option zE7 :=
 match asI x with
 | some (k,a)=>(match asI y with
   | some (k',b)=>zFR P o op k k' a b env H
   | none=>zFE P o op t x y env H)
 | none=>zFE P o op t x y env H
def qNB (c a b:Value)(H:IH):Option zE7 :=
 match c with
 | .bool t=>some (.val (cond t a b) H)
 | _=>none
def r9 (P:Program)(elem:TypeId)(H:IH):Option zE7 :=
 match qAU P elem with
 | some z=>some (.val (.pointer (some ⟨H.size,0,none⟩)) (H.push (.cells z.cells elem)))
 | none=>none
def q4V (elem:TypeId)(v:Value)(H:IH):Option zE7 :=
 if zK v then some (.val (.pointer (some ⟨H.size,0,none⟩)) (H.push (.cells v.cells elem))) else none
def qLX:Option IH->Option zE7
 | some H'=>some (.val undef H')
 | none=>none
def wG (v:Value)(H:IH):Option zE7 :=
 match v with
 | .pointer (some a)=>some (.val (.pointer (some a)) H)
 | .func (.func g) f c=>some (.val (.func (.func g) f c) H)
 | .func (.yield l) f c=>some (.val (.func (.yield l) f c) H)
 | _=>none
def gY (P:Program)(o:Oper)(src dst:TypeId)(v:Value)(env:Env)(H:IH):Option zE7 :=
 match v with
 | .pointer a=>zE7.ofO H (qG0 P src dst (.pointer a) H)
 | _=>kL P o env H
def wN (fn:Fn)(first captured:Array Value)(H:IH):Option zE7 :=
 match fn with
 | .func g=>some (.val (.func (.func g) first captured) H)
 | _=>none
def wZ (P:Program)(o:Oper)(t:TypeId)(v:Value)(lo hi mx:Option Value)(env:Env)(H:IH):Option zE7 :=
 match v with
 | .string _=>kL P o env H
 | v=>zE7.ofO H (wJ P t v lo hi mx)
def wV (P:Program)(o:Oper)(t:TypeId)(v ix:Value)(env:Env)(H:IH):Option zE7 :=
 match v with
 | .string _=>kL P o env H
 | v=>zE7.ofO H (sP P t v ix)
def wP (H:IH):Option Value->Option zE7
 | some v=>cond (zK v) (some (.val v H)) none
 | none=>none
def fK (v:Value)(ix:Nat)(H:IH):Option zE7 :=
 match v with
 | .tuple vs=>wP H (zL vs.toList ix)
 | _=>none
def yJ (P:Program)(o:Oper)(c:Call)(env:Env)(H:IH):Option zE7 :=
 match fQ P c env H with
 | some r=>some r
 | none=>kL P o env H
def bK (r:Option Operand)(H:IH):Option zE7 :=
 match r with
 | none=>some (.val (.map (some H.size)) (H.push (.map #[] 0)))
 | some _=>none
def iop (P:Program)(o:Oper)(env:Env)(H:IH):Option zE7 :=
 match o.op with
 | .move x=>some (.val (env.val x) H)
 | .assign x=>some (.val (env.val x) H)
 | .pick c a b=>qNB (env.val c) (env.val a) (env.val b) H
 | .alloc elem=>r9 P elem H
 | .box elem x=>q4V elem (env.val x) H
 | .build t parts=>zE7.ofO H (qIS P t (parts.toList.map fun p=>(p.1,env.val p.2)))
 | .buildSlice t len parts=>kJ P t len (parts.toList.map fun p=>(p.1,env.val p.2)) H
 | .load t a=>zE7.ofO H (uN P t (env.val a) H)
 | .store t a x=>qLX (fF P t (env.val a) (env.val x) H)
 | .nilCheck x=>wG (env.val x) H
 | .binOp op t x y _=>yT P o op t (env.val x) (env.val y) env H
 | .convert src dst x=>gY P o src dst (env.val x) env H
 | .makeFunc fn first captured=>wN fn (first.map env.val) (captured.map env.val) H
 | .makeMap _ r=>bK r H
 | .makeSlice t l c=>jU P t (env.val l) (env.val c) H
 | .slice t x lo hi mx=>wZ P o t (env.val x) (lo.map env.val) (hi.map env.val) (mx.map env.val) env H
 | .fieldAddr s x f=>zE7.ofO H (cK P s (env.val x) f)
 | .indexAddr t x ix=>zE7.ofO H (uG P t (env.val x) (env.val ix))
 | .index t x ix=>wV P o t (env.val x) (env.val ix) env H
 | .lookup t x k ok=>zE7.ofO H (qC0 P t (env.val x) (env.val k) ok H)
 | .mapUpdate t m k x=>qLX (jS P t (env.val m) (env.val k) (env.val x) H)
 | .extract t ix=>fK (env.val t) ix H
 | .call c=>yJ P o c env H
 | .unOp _ _ _=>kL P o env H
 | _=>none
inductive T (α:Type):Type where
 | fail:T α
 | ret (a:α):T α
 | ch (n:Nat) (k:Nat->T α):T α
 | sp (p:Value×IH->Prop) (k:Value×IH->T α):T α
def T.bind {α β:Type}(t:T α)(f:α->T β):T β:=T.rec .fail f (fun n _ ih=>.ch n ih) (fun p _ ih=>.sp p ih) t
def T.ofO {α:Type}:Option α->T α
 | some a=>.ret a
 | none=>.fail
inductive zF1 where
 | normal
 | exit (id:Nat)
 | goto (l:Nat)
 | ret
 deriving DecidableEq
structure Out where
 e:zF1
 env:Env
 H:IH
inductive Job where
 | code (c:Code) (env:Env)
 | call (f:FuncId) (args:List Value)
 | round (l:Nat) (args:List Value)
abbrev xC:=FuncId->Option (List Value->IH->T (Value×IH))
def qZV (P:Program)(env:Env)(H:IH):ResultVar->Option Value
 | .tmp t=>some ((zL env t).getD undef)
 | .cell a t=>uN P t ((zL env a).getD undef) H
def qM4 (P:Program)(env:Env)(H:IH):List ResultVar->Option (List Value)
 | []=>some []
 | r::l=>match qZV P env H r with
   | some v=>(match qM4 P env H l with
     | some vs=>some (v::vs)
     | none=>none)
   | none=>none
def one (l:List Value):Value :=
 match l with
 | [v]=>v
 | vs=>.tuple vs.toArray
def jX (P:Program)(fn:Func)(env:Env)(H:IH):Option Value:=(qM4 P env H fn.results.toList).map one
inductive Cls where
 | pure | read | alloc | call | fresh | write
 deriving DecidableEq
def xM (o:Oper):Cls :=
 match o.op with
 | .move _ | .assign _ | .pick .. | .nilCheck _ | .binOp .. | .unOp .. | .makeFunc .. | .fieldAddr .. | .field .. | .indexAddr .. | .index .. | .extract .. | .slice .. | .build ..=>.pure
 | .load .. | .lookup .. | .entry _ | .convert ..=>.read
 | .alloc _=>if o.guard.isNone then .alloc else .fresh
 | .box .. | .buildSlice .. | .makeMap .. | .makeSlice .. | .range ..=>.fresh
 | .call c=>match c.callee with
   | .builtin .len=>.read
   | .builtin .min | .builtin .max | .builtin .unsafeSliceData=>.pure
   | .value _=>.call
   | _=>.write
 | _=>.write
def Cls.eff:Cls->Bool
 | .call | .fresh | .write=>true
 | _=>false
def uE (ops:Array Oper)(o:Oper):List Tmp :=
 (o.op.operands.toList.filterMap fun | .tmp t=>some t | _=>none) ++
 (match o.guard with
  | some (g,_)=>((ops[g]?).bind (·.dst)).toList
  | none=>[])
def qL (o:Oper):Bool:=decide (xM o=.alloc)
def vI (b:Array Nat)(i j:Nat):Bool:=(b.getD j 0).testBit i
def qPY (b:Array Nat)(i j:Nat):Bool:=vI b i j||vI b j i
def qWW (ops:Array Oper)(b:Array Nat):Bool :=
 let l:=ops.toList.zipIdx
 l.all fun (o,i) =>
  -- each edge leads back
  (o.after.all fun e=>!Region.binds .any e||decide (e.on < i)) &&
  l.all fun (p,j) =>
   (decide (i=j) ||
     ((match o.dst with
       | some d=>p.dst != some d&&(!((uE ops p).contains d)||cond (qL o) (vI b i j) (qPY b i j))
       | none=>true) &&
      (!((xM o).eff&&(xM p).eff)||qPY b i j) &&
      true))
def aF (ops:Array Oper):Bool:=qWW ops (Region.before ops)
def wQ (r:Out):T (Value×IH) :=
 match r.env with
 | [v]=>.ret (v,r.H)
 | _=>.fail
def yK (run:Job->IH->T Out)(nat:xC)(f:FuncId)(args:List Value)(H:IH):T (Value×IH) :=
 match nat f with
 | some g=>g args H
 | none=>(run (.call f args) H).bind wQ
def qI0 (run:Job->IH->T Out)(nat:xC)(s:Option zE7):T (Value×IH) :=
 match s with
 | some (.val v H)=>.ret (v,H)
 | some (.enter f args H)=>yK run nat f args H
 | some (.round l args H)=>(run (.round l args) H).bind wQ
 | some (.choice n k)=>.ch n fun i=>T.ofO (k i)
 | none=>.fail
def sI (P:Program)(run:Job->IH->T Out)(nat:xC)(o:Oper)(env:Env)(H:IH):T (Value×IH) :=
 qI0 run nat (iop P o env H)
def j6 {α:Type}(c:Option Bool)(yes no bad:α):α :=
 match c with
 | some true=>yes
 | some false=>no
 | none=>bad
def q8H (P:Program)(run:Job->IH->T Out)(nat:xC)(ops:Array Oper)(l:List Oper):Env->IH->T (Env×IH) :=
 List.rec (fun env H=>.ret (env,H)) (fun o _ ih env H =>
  j6 (kM ops o env) ((sI P run nat o env H).bind fun r=>ih (env.zFK o.dst r.1) r.2) (ih (env.zFK o.dst undef) H) .fail) l
theorem qLA {P:Program}{run:Job->IH->T Out}{nat:xC}{ops:Array Oper}{o:Oper}{l:List Oper}{env:Env}{H:IH} :
 q8H P run nat ops (o::l) env H=j6 (kM ops o env) ((sI P run nat o env H).bind fun r=>q8H P run nat ops l (env.zFK o.dst r.1) r.2)
  (q8H P run nat ops l (env.zFK o.dst undef) H) .fail:=rfl
def q3X (t:T (Value×IH)):Option (Value×IH) :=
 match t with
 | .ret r=>some r
 | _=>none
def qFZ (P:Program):List Oper->Env->IH->Option (Env×IH)
 | [],env,H=>some (env,H)
 | o::rest,env,H =>
   if qL o then
    match iop P o env H with
    | some (.val v H')=>qFZ P rest (env.zFK o.dst v) H'
    | _=>none
   else qFZ P rest env H
structure Rec where
 i:Nat
 o:Oper
 env:Env
 v:Value
def qMG (ops:Array Oper)(b:Array Nat):List (Nat×Nat×Nat) :=
 (ops.toList.zipIdx.filter fun p=>decide (xM p.1=.read)).filterMap fun p =>
   let zI1:=ops.toList.zipIdx.filter fun q=>(xM q.1).eff
   let lo:=(zI1.filter fun q=>vI b q.2 p.2).length
   let hi:=(zI1.filter fun q=>!vI b p.2 q.2).length
   if lo=hi then none else some (p.2,lo,hi)
def loose (ops:Array Oper):List (Nat×Nat×Nat):=qMG ops (Region.before ops)
def qCT (i:Nat)(l:List (Nat×Nat×Nat)):Option (Nat×Nat) :=
 List.rec none (fun a _ ih=>cond (Nat.beq a.1 i) (some a.2) ih) l
def qEV {α:Type}(c:Bool)(a:α)(l:List α):List α:=cond c (a::l) l
def qZW (c:Option (Nat×Nat))(i:Nat)(o:Oper)(env:Env)(v:Value)(l:List Rec):List Rec :=
 match c with
 | some _=>⟨i,o,env,v⟩::l
 | none=>l
def q74 (o:Oper)(i:Nat)(env:Env)(v:Value)(H':IH)(lo:List (Nat×Nat×Nat))(r:Option (Env×IH×List IH×List Rec)):Option (Env×IH×List IH×List Rec) :=
 match r with
 | some (e,h,hs,rs)=>some (e,h,qEV (xM o).eff H' hs,qZW (qCT i lo) i o env v rs)
 | none=>none
def q0N (o:Oper)(H:IH)(r:Option (Env×IH×List IH×List Rec)):Option (Env×IH×List IH×List Rec) :=
 match r with
 | some (e,h,hs,rs)=>some (e,h,qEV (xM o).eff H hs,rs)
 | none=>none
def q18 (o:Oper)(i:Nat)(env:Env)(lo:List (Nat×Nat×Nat))(ih:Env->IH->Option (Env×IH×List IH×List Rec))(r:Option (Value×IH)):Option (Env×IH×List IH×List Rec) :=
 match r with
 | some r=>q74 o i env r.1 r.2 lo (ih (env.zFK o.dst r.1) r.2)
 | none=>none
def qNS (P:Program)(run:Job->IH->T Out)(nat:xC)(ops:Array Oper)(lo:List (Nat×Nat×Nat))(l:List Oper):Nat->Env->IH->Option (Env×IH×List IH×List Rec) :=
 List.rec (fun _ env H=>some (env,H,[],[])) (fun o _ ih i env H =>
  cond (qL o) (ih (i+1) env H)
   (j6 (kM ops o env) (q18 o i env lo (ih (i+1)) (q3X (sI P run nat o env H)))
     (q0N o H (ih (i+1) (env.zFK o.dst undef) H)) none)) l
def eqL {α:Type}(eq:α->α->Bool)(l:List α):List α->Bool :=
 List.rec (fun m=>m.isEmpty) (fun a _ ih m=>match m with | []=>false | b::m=>cond (eq a b) (ih m) false) l
theorem oM {α:Type}{eq:α->α->Bool}(h:∀ a b,eq a b=true->a=b){l:List α}:∀ {m:List α},eqL eq l m=true->l=m:=by
 induction l with
 | nil=>intro m hm;cases m with
   | nil=>rfl
   | cons b m=>exact absurd hm (by show ¬ ((b::m).isEmpty=true);simp)
 | cons a l ih=>intro m hm;cases m with
   | nil=>exact absurd hm (by show ¬ (false=true);simp)
   | cons b m =>
     have hm':cond (eq a b) (eqL eq l m) false=true:=hm
     cases he:eq a b with
     | false=>rw[he] at hm';cases hm'
     | true=>rw[he] at hm';rw[h a b he,ih hm']
def zAT (n:Nat):Value->Value->Bool :=
 Nat.rec (fun _ _=>false) (fun _ ih v w=>match v,w with
 | .bool a,.bool b=>a==b
 | .int k a,.int k' b=>k==k'&&a==b
 | .string a,.string b=>eqL (·==·) a.data.toList b.data.toList
 | .pointer a,.pointer b=>a==b
 | .slice a l c,.slice a' l' c'=>a==a'&&(l==l'&&c==c')
 | .map a,.map b=>a==b
 | .func f a b,.func f' a' b'=>f==f'&&(eqL ih a.toList a'.toList&&eqL ih b.toList b'.toList)
 | .nilFunc,.nilFunc=>true
 | .nilIface,.nilIface=>true
 | .agg a,.agg b=>eqL ih a.toList b.toList
 | .tuple a,.tuple b=>eqL ih a.toList b.toList
 | _,_=>false) n
def veq (v w:Value):Bool:=zAT 4 v w
def zAF (l m:List Value):Bool:=eqL veq l m
def oeq:Obj->Obj->Bool
 | .cells c e f,.cells c' e' f'=>zAF c.toList c'.toList&&e==e'&&f==f'
 | .pending c e,.pending c' e'=>zAF c.toList c'.toList&&e==e'
 | .stringIter s p,.stringIter s' p'=>eqL (·==·) s.data.toList s'.data.toList&&p==p'
 | .mapIter m s a l,.mapIter m' s' a' l'=>m==m'&&s==s'&&a.toList==a'.toList&&l==l'
 | .map es c,.map es' c'=>c==c'&&zAF (es.toList.map (·.key)) (es'.toList.map (·.key))&&zAF (es.toList.map (·.val)) (es'.toList.map (·.val))&&es.toList.map (·.born)==es'.toList.map (·.born)
 | _,_=>false
def q8R:Option Obj->Option Obj->Bool
 | none,none=>true
 | some a,some b=>oeq a b
 | _,_=>false
def eU (v:Value)(r:Option zE7):Bool :=
 match r with
 | some (.val u _)=>veq v u
 | _=>false
def gJ (P:Program)(lo hi:Nat)(r:Rec)(hs:List IH):Nat->Bool :=
 List.rec (fun _=>true) (fun E _ ih m=>cond (Nat.ble lo m&&Nat.ble m hi) (cond (eU r.v (iop P r.o r.env E)) (ih (m+1)) false) (ih (m+1))) hs
def qAG (P:Program)(lo:List (Nat×Nat×Nat))(hs:List IH)(r:Rec):Bool :=
 match qCT r.i lo with
 | some p=>gJ P p.1 p.2 r hs 0
 | none=>true
def qBP (b:Nat)(o:Option Obj)(hs:List IH):Nat->Bool :=
 List.rec (fun _=>true) (fun h _ ih n=>Nat.casesOn n true fun m=>cond (q8R (h.get b) o) (ih m) false) hs
def oC (H1:IH)(hs:List IH)(al:List Nat):Nat->Bool :=
 List.rec (fun _=>true) (fun hi _ ih b=>cond (qBP b (H1.get b) hs hi) (ih (b+1)) false) al
def qPF (ops:Array Oper)(b:Array Nat):List Nat :=
 (ops.toList.zipIdx.filter fun p=>qL p.1).map fun p =>
   ((ops.toList.zipIdx.filter fun q=>(xM q.1).eff).filter fun q=>!vI b p.2 q.2).length
def qE3 (ops:Array Oper):List Nat:=qPF ops (Region.before ops)
def qMN (P:Program)(lo:List (Nat×Nat×Nat))(al:List Nat)(n:Nat)(H1:IH)(r:Option (Env×IH×List IH×List Rec)):Option (Env×IH) :=
 match r with
 | some (zFH,H2,hs,rs)=>cond (cond (jZ (qAG P lo (H1::hs)) rs) (oC H1 hs al n) false) (some (zFH,H2)) none
 | none=>none
def qQ9 (P:Program)(run:Job->IH->T Out)(nat:xC)(ops:Array Oper)(env:Env)(H:IH):Option (Env×IH) :=
 match qFZ P ops.toList env H with
 | some (zE4,H1)=>qMN P (loose ops) (qE3 ops) H.size H1 (qNS P run nat ops (loose ops) ops.toList 0 zE4 H1)
 | none=>none
def T.leaves {α:Type}:T α->Option (List α)
 | .fail=>none
 | .ret a=>some [a]
 | .ch n k=>((List.range n).mapM fun i=>(k i).leaves).map List.flatten
 | .sp _ _=>none
def mM:Env->Env->Env
 | a::l,b::m=>(if veq a b then a else unk)::mM l m
 | _,_=>[]
def IH.since (H:IH)(n:Nat):List Nat:=H.log.take (H.log.length - n)
def q33 (H H':IH)(l:List Nat):Bool:=l.all fun b=>q8R (H.get b) (H'.get b)
def qNY (H0:IH)(n:Nat):List Out->Option Out
 | []=>none
 | o::rest =>
   if ((o.H.since n).filter (· < H0.size)).all (fun b=>(o.H.get b).isSome)&&rest.all (fun p=>decide (p.e=o.e)&&decide (p.env.length=o.env.length) &&
       q33 o.H p.H ((o.H.since n).filter (· < H0.size))&&q33 o.H p.H ((p.H.since n).filter (· < H0.size))) then
    some ⟨o.e,rest.foldl (fun e p=>mM e p.env) o.env,
     { tr:=((o.H.since n).filter (· < H0.size)).foldl (fun t b=>match o.H.get b with
        | some ob=>t.set b ob
        | none=>t) H0.tr,
       size:=(o::rest).foldl (fun m p=>Nat.max m p.H.size) 0,base:=H0.base,log:=(o.H.since n).filter (· < H0.size)++H0.log }⟩
   else none
def join (H0:IH):T Out->T Out
 | .ch n k=>match (T.ch n k).leaves with
   | some l=>match qNY H0 H0.log.length l with
     | some o=>.ret o
     | none=>.ch n k
   | none=>.ch n k
 | t=>t
def qFO (run:Job->IH->T Out)(b:Code)(r:Out):T Out :=
 match r.e with
 | .normal=>run (.code b r.env) r.H
 | _=>.ret r
def o7 (id:Nat)(r:Out):T Out :=
 match r.e with
 | .exit id'=>cond (Nat.beq id' id) (.ret ⟨.normal,r.env,r.H⟩) (.ret r)
 | _=>.ret r
def bZ (run:Job->IH->T Out)(a:Code)(r:Out):T Out :=
 match r.e with
 | .normal=>run (.code (.loop a) r.env) r.H
 | _=>.ret r
def nG (r:Out):T Out :=
 match r.e with
 | .goto _=>.fail
 | _=>.ret r
def qAC (run:Job->IH->T Out)(v:Value)(a b:Code)(env:Env)(H:IH):T Out :=
 match v with
 | .bool t=>run (.code (cond t a b) env) H
 | _=>.fail
def qF9 (r:Option (Env×IH)):T Out :=
 match r with
 | some (zFH,H2)=>.ret ⟨.normal,zFH,H2⟩
 | none=>.fail
def bO (P:Program)(run:Job->IH->T Out)(nat:xC)(ops:Array Oper)(draw:Bool)(env:Env)(H:IH):T Out :=
 cond draw (qF9 (qQ9 P run nat ops env H)) ((q8H P run nat ops ops.toList env H).bind fun r=>.ret ⟨.normal,r.1,r.2⟩)
def kQ (run:Job->IH->T Out)(l:Nat)(env:Env)(r:Value×IH):T Out :=
 match r.2.get l with
 | some (.loop lp)=>if lp.state==.busy then .fail else
   (match lp.pending with
   | none=>.ret ⟨.normal,env,r.2.put l (.loop { lp with state:=.exhausted })⟩
   | some c=>run (.code c env) (r.2.put l (.loop { lp with state:=.exhausted })))
 | _=>.fail
def entered (P:Program)(g:FuncId):Bool :=
 match P.funcs[g]? with
 | some fn=>fn.body.isSome&&fn.name != "runtime.NumGoroutine"
 | none=>false
def jC (P:Program)(run:Job->IH->T Out)(nat:xC)(v:Value)(params:Array Tmp)(assign body:Code)(env:Env)(H:IH):T Out :=
 match v with
 | .func (.func g) first captured=>cond (entered P g)
   ((yK run nat g (qDO first.toList (.func (.yield H.size) #[] #[]::captured.toList))
     (H.push (.loop { state:=.ready,pending:=none,fn:=0,tmps:=env.toArray,params,assign,body,defers:=0 }))).bind (kQ run H.size env)) .fail
 | _=>.fail
def tQ (P:Program)(run:Job->IH->T Out)(nat:xC)(c:Code)(env:Env)(H:IH):T Out :=
 match c with
 | .skip=>.ret ⟨.normal,env,H⟩
 | .label _=>.ret ⟨.normal,env,H⟩
 | .ret=>.ret ⟨.ret,env,H⟩
 | .exit id=>.ret ⟨.exit id,env,H⟩
 | .seq a b=>(run (.code a env) H).bind (qFO run b)
 | .cond x a b=>qAC run (env.val x) a b env H
 | .block id a=>(run (.code a env) H).bind (o7 id)
 | .loop a=>join H ((run (.code a env) H).bind (bZ run a))
 | .scope a=>(run (.code a env) H).bind nG
 | .region _ ops draw=>bO P run nat ops draw env H
 | .rangeFunc f params assign body=>jC P run nat (env.val f) params assign body env H
 | _=>.fail
def qA1 (P:Program)(fn:Func)(r:Out):T Out :=
 match r.e with
 | .normal=>(match jX P fn r.env r.H with
   | some v=>.ret ⟨.normal,[v],r.H⟩
   | none=>.fail)
 | .ret=>(match jX P fn r.env r.H with
   | some v=>.ret ⟨.normal,[v],r.H⟩
   | none=>.fail)
 | _=>.fail
def nK (P:Program)(good:FuncId->Bool)(run:Job->IH->T Out)(f:FuncId)(args:List Value)(H:IH):T Out :=
 match P.funcs[f]? with
 | some fn=>(match fn.body with
   | some c=>cond (good f) (join H ((run (.code c (qDO args (List.replicate (fn.ntmps - args.length) undef))) H).bind (qA1 P fn))) .fail
   | none=>.fail)
 | none=>.fail
def yX:zF1->Option Code
 | .normal=>none
 | .ret=>some .ret
 | .exit id=>some (.exit id)
 | .goto t=>some (.goto t)
def roundEnd (l:Nat)(s:Out):T Out :=
 match s.H.get l with
 | some (.loop lp2)=>.ret ⟨.normal,[.bool (yX s.e).isNone],s.H.put l (.loop { lp2 with state:=if (yX s.e).isNone then .ready else .done,pending:=yX s.e })⟩
 | _=>.fail
def qCD (run:Job->IH->T Out)(l:Nat)(body:Code)(r:Out):T Out :=
 match r.e with
 | .normal=>(match r.H.get l with
   | some (.loop lp1)=>if lp1.state==.ready then (run (.code body r.env) (r.H.put l (.loop { lp1 with state:=.busy }))).bind (roundEnd l) else .fail
   | _=>.fail)
 | _=>.fail
def aY (run:Job->IH->T Out)(l:Nat)(args:List Value)(H:IH):T Out :=
 match H.get l with
 | some (.loop lp) =>
   if lp.state==.ready&&(decide (H.base<=l)&&Nat.beq args.length lp.params.size) then
    (run (.code lp.assign ((lp.params.toList.zip args).foldl (fun e p=>yR e p.1 p.2) lp.tmps.toList)) H).bind (qCD run l lp.body)
   else .fail
 | _=>.fail
def kV (G:Nat->Bool):Operand->Bool
 | .const v=>yV v
 | .global g=>G g
 | _=>true
def uY (G:Nat->Bool)(ops:Array Oper):Bool:=ops.toList.all fun o=>o.op.operands.toList.all (kV G)
def codeOk (G:Nat->Bool)(round:Bool):Code->Bool
 | .seq a b=>codeOk G round a&&codeOk G round b
 | .cond x a b=>kV G x&&(codeOk G round a&&codeOk G round b)
 | .block _ a=>codeOk G round a
 | .loop a=>codeOk G round a
 | .scope a=>codeOk G round a
 | .region _ ops draw=>uY G ops&&(!draw||aF ops)
 | .rangeFunc f _ x y=>(round||!round)&&(kV G f&&(codeOk G true x&&codeOk G true y))
 | _=>true
def qK9:Code->Bool
 | .ret=>true
 | .exit _=>true
 | .goto _=>true
 | _=>false
def qMZ (P:Program)(good:FuncId->Bool)(nat:xC)(run:Job->IH->T Out)(j:Job)(H:IH):T Out :=
 match j with
 | .code c env=>tQ P run nat c env H
 | .call f args=>nK P good run f args H
 | .round l args=>aY run l args H
def iex (P:Program)(good:FuncId->Bool)(nat:xC)(n:Nat):Job->IH->T Out :=
 Nat.rec (fun _ _=>.fail) (fun _ ih j H=>qMZ P good nat ih j H) n
theorem q2E {P:Program}{good:FuncId->Bool}{nat:xC}{n:Nat}{j:Job}{H:IH}:iex P good nat (n+1) j H=qMZ P good nat (iex P good nat n) j H:=rfl
end
end Go.Idl
namespace Go.Idl
variable {F:Fence}{G G':Nat->Bool}{H:IH}{P:Program}{a a':Array Value}{b x:Nat}{l l' m:List Value}{o o':Obj}{v v':Value}
structure Emb where
 r:Nat
 shift:Nat
 N:Nat
 ro:Bool
abbrev Inj:=Nat->Option Emb
def Inj.le (f g:Inj):Prop:=∀ b e,f b=some e->g b=some e
theorem Inj.le_refl (f:Inj):f.le f:=fun _ _ h=>h
theorem Inj.le_trans {f g h:Inj}(a:f.le g)(b:g.le h):f.le h:=fun x e hx=>b x e (a x e hx)
def Inj.add (f:Inj)(b:Nat)(e:Emb):Inj:=fun x=>if x=b then some e else f x
theorem Inj.zF6 {f:Inj}{e:Emb}(h:f b=none):f.le (f.add b e):=fun x y hx=>by
 unfold Inj.add;by_cases hb:x=b
 ·subst hb;rw[h] at hx;cases hx
 ·simp[hb,hx]
theorem Inj.add_same {f:Inj}{e:Emb}:f.add b e b=some e:=by simp[Inj.add]
theorem Inj.zE1 {f:Inj}{e:Emb}(h:x≠b):f.add b e x=f x:=by simp[Inj.add,h]
inductive zE0 (P:Program) (f:Inj):Value->Value->Prop
 | any (v:Value):zE0 P f unk v
 | undef:zE0 P f undef undef
 | base (v:Value) (h:yV v=true):zE0 P f v v
 | ptr {b o:Nat} {e:Emb} (h:f b=some e):zE0 P f (.pointer (some ⟨b,o,none⟩)) (.pointer (some ⟨e.r,o+e.shift,none⟩))
 | sl {b o len cap:Nat} {e:Emb} (h:f b=some e):zE0 P f (.slice (some ⟨b,o,none⟩) len cap) (.slice (some ⟨e.r,o+e.shift,none⟩) len cap)
 | room {b o el len cap cap':Nat} {e:Emb} (h:f b=some e) (hc:cap<=cap') (hn:o+e.shift+cap'*P.cellsOf el<=e.N) :
    zE0 P f (.slice (some ⟨b,o,some el⟩) len cap) (.slice (some ⟨e.r,o+e.shift,none⟩) len cap')
 | zFU {b o o' el cap':Nat} {e:Emb} (h:f b=some e) (hs:e.shift<=o') (hn:o'+cap'*P.cellsOf el<=e.N) :
    zE0 P f (.slice (some ⟨b,o,some el⟩) 0 0) (.slice (some ⟨e.r,o',none⟩) 0 cap')
 | gh {b:Nat} {a':Addr} {e:Emb} (h:f b=some e) (hg:e.N < e.shift):zE0 P f (.slice (some ⟨b,0,none⟩) 0 0) (.slice (some a') 0 0)
 | map {b:Nat} {e:Emb} (h:f b=some e):zE0 P f (.map (some b)) (.map (some e.r))
 | func {g:FuncId} {a a' c c':Array Value} (ha:a.size=a'.size) (hc:c.size=c'.size)
    (hav:∀ (i:Nat) v v',a[i]?=some v->a'[i]?=some v'->zE0 P f v v') (hcv:∀ (i:Nat) v v',c[i]?=some v->c'[i]?=some v'->zE0 P f v v') :
    zE0 P f (.func (.func g) a c) (.func (.func g) a' c')
 | yield {l:Nat} {e:Emb} (h:f l=some e):zE0 P f (.func (.yield l) #[] #[]) (.func (.yield e.r) #[] #[])
 | iface {t:TypeId} {v v':Value} (h:zE0 P f v v'):zE0 P f (.iface t v) (.iface t v')
 | agg {a a':Array Value} (ha:a.size=a'.size) (hav:∀ (i:Nat) v v',a[i]?=some v->a'[i]?=some v'->zE0 P f v v'):zE0 P f (.agg a) (.agg a')
 | tuple {a a':Array Value} (ha:a.size=a'.size) (hav:∀ (i:Nat) v v',a[i]?=some v->a'[i]?=some v'->zE0 P f v v'):zE0 P f (.tuple a) (.tuple a')
theorem zE0.mono {f g:Inj}(h:zE0 P f v v')(hl:f.le g):zE0 P g v v':=by
 induction h with
 | any v=>exact .any v
 | undef=>exact .undef
 | base v h=>exact .base v h
 | ptr h=>exact .ptr (hl _ _ h)
 | sl h=>exact .sl (hl _ _ h)
 | room h hc hn=>exact .room (hl _ _ h) hc hn
 | zFU h hs hn=>exact .zFU (hl _ _ h) hs hn
 | gh h hg=>exact .gh (hl _ _ h) hg
 | map h=>exact .map (hl _ _ h)
 | func ha hc _ _ i1 i2=>exact .func ha hc i1 i2
 | yield h=>exact .yield (hl _ _ h)
 | iface _ ih=>exact .iface ih
 | agg ha _ ih=>exact .agg ha ih
 | tuple ha _ ih=>exact .tuple ha ih
def qE (P:Program)(f:Inj)(l l':List Value):Prop:=l.length=l'.length∧∀ (i:Nat) v v',l[i]?=some v->l'[i]?=some v'->zE0 P f v v'
theorem qE.nil {f:Inj}:qE P f [] []:=⟨rfl,fun i v v' h=>by simp at h⟩
theorem qE.cons {f:Inj}(h:zE0 P f v v')(t:qE P f l l'):qE P f (v::l) (v'::l') :=
 ⟨by simp[t.1],fun i u u' hu hu'=>by
   cases i with
   | zero=>simp at hu hu';subst hu hu';exact h
   | succ i=>exact t.2 i u u' (by simpa using hu) (by simpa using hu')⟩
theorem qE.zE2 {f:Inj}(h:qE P f (v::l) m):∃ v' l',m=v'::l'∧zE0 P f v v'∧qE P f l l':=by
 cases m with
 | nil=>simp[qE] at h
 | cons v' l'=>exact⟨v',l',rfl,h.2 0 v v' rfl rfl,by have:=h.1;simpa using this,fun i u u' hu hu'=>h.2 (i+1) u u' (by simpa using hu) (by simpa using hu')⟩
theorem qE.zE5 {f:Inj}(h:qE P f [] m):m=[]:=by
 cases m with
 | nil=>rfl
 | cons a b=>simp[qE] at h
theorem qE.mono {P:Program}{f g:Inj}{l l':List Value}(h:qE P f l l')(hl:f.le g):qE P g l l':=⟨h.1,fun i v v' a b=>(h.2 i v v' a b).mono hl⟩
theorem qE.get {f:Inj}(h:qE P f l l'){i:Nat}(hv:l[i]?=some v):∃ v',l'[i]?=some v'∧zE0 P f v v':=by
 have hlt:i < l.length:=(zOO.1 hv).1;have hlt':i < l'.length:=h.1 ▸ hlt;exact⟨l'[i],zOL hlt',h.2 i v _ hv (zOL hlt')⟩
theorem qE.append {f:Inj}{m':List Value}(h:qE P f l l')(k:qE P f m m'):qE P f (l++m) (l'++m'):=by
 induction l generalizing l' with
 | nil=>rw[h.zE5];exact k
 | cons v l ih=>obtain⟨v',t',rfl,hv,ht⟩:=h.zE2;exact .cons hv (ih ht)
theorem qE.take {f:Inj}(h:qE P f l l')(n:Nat):qE P f (l.take n) (l'.take n):=by
 induction n generalizing l l' with
 | zero=>simpa using qE.nil
 | succ n ih =>
   cases l with
   | nil=>rw[h.zE5];simpa using qE.nil
   | cons v l=>obtain⟨v',t',rfl,hv,ht⟩:=h.zE2;simpa using qE.cons hv (ih ht)
theorem qE.drop {f:Inj}(h:qE P f l l')(n:Nat):qE P f (l.drop n) (l'.drop n):=by
 induction n generalizing l l' with
 | zero=>simpa using h
 | succ n ih =>
   cases l with
   | nil=>rw[h.zE5];simpa using qE.nil
   | cons v l=>obtain⟨v',t',rfl,hv,ht⟩:=h.zE2;simpa using ih ht
theorem qE.set {f:Inj}(h:qE P f l l')(hv:zE0 P f v v')(n:Nat):qE P f (l.set n v) (l'.set n v'):=by
 induction n generalizing l l' with
 | zero =>
   cases l with
   | nil=>rw[h.zE5];simpa using qE.nil
   | cons u l=>obtain⟨u',t',rfl,hu,ht⟩:=h.zE2;simpa using qE.cons hv ht
 | succ n ih =>
   cases l with
   | nil=>rw[h.zE5];simpa using qE.nil
   | cons u l=>obtain⟨u',t',rfl,hu,ht⟩:=h.zE2;simpa using qE.cons hu (ih ht)
theorem mF:zQ (v::l)=(yV v&&zQ l):=vG _ _ _
theorem xS {l:List Value}:zQ l=true ↔ ∀ v∈l,yV v=true:=xR
theorem qE.zFG {f:Inj}(h:zQ l=true):qE P f l l:=by
 induction l with
 | nil=>exact .nil
 | cons v l ih=>rw[mF,zOG] at h;exact .cons (.base v h.1) (ih h.2)
theorem qBE (n:Nat):∀ v,kD n v=true->kD (n+1) v=true:=by
 induction n with
 | zero=>intro v h;exact absurd h (by show ¬ (false=true);simp)
 | succ n ih =>
   intro v h;have hall:∀ (l:List Value),jZ (kD n) l=true->jZ (kD (n+1)) l=true:=fun l hl=>xR.2 fun a ha=>ih a (xR.1 hl a ha)
   cases v <;> first | exact h | skip
   case func fn first captured =>
    have h':(zAJ fn&&(jZ (kD n) first.toList&&jZ (kD n) captured.toList))=true:=h;show (zAJ fn&&(jZ (kD (n+1)) first.toList&&jZ (kD (n+1)) captured.toList))=true;simp only[zOG] at h' ⊢;exact⟨h'.1,hall _ h'.2.1,hall _ h'.2.2⟩
   case iface t v=>exact ih v h
   case agg cs=>exact hall _ h
theorem zE0.zJZ {f:Inj}(h:zE0 P f v v'):∀ n,kD n v=true->v'=v:=by
 induction h with
 | any v=>intro n hp;cases n <;> exact absurd hp (by show ¬ (false=true);simp)
 | undef=>intro n hp;rfl
 | base v _=>intro n hp;rfl
 | ptr _=>intro n hp;cases n <;> exact absurd hp (by show ¬ (false=true);simp)
 | sl _=>intro n hp;cases n <;> exact absurd hp (by show ¬ (false=true);simp)
 | room _ _ _=>intro n hp;cases n <;> exact absurd hp (by show ¬ (false=true);simp)
 | zFU _ _ _=>intro n hp;cases n <;> exact absurd hp (by show ¬ (false=true);simp)
 | gh _ _=>intro n hp;cases n <;> exact absurd hp (by show ¬ (false=true);simp)
 | map _=>intro n hp;cases n <;> exact absurd hp (by show ¬ (false=true);simp)
 | @func g a a' c c' ha hc hav hcv i1 i2 =>
   intro n hp
   cases n with
   | zero=>exact absurd hp (by show ¬ (false=true);simp)
   | succ n =>
     have hp':(zAJ (.func g)&&(jZ (kD n) a.toList&&jZ (kD n) c.toList))=true:=hp;simp only[zOG,xR] at hp';have e1:a'=a:=Array.ext ha.symm fun i h1 h2=>i1 i a[i] a'[i] (by simp[h2]) (by simp[h1]) n (hp'.2.1 _ (by simp))
     have e2:c'=c:=Array.ext hc.symm fun i h1 h2=>i2 i c[i] c'[i] (by simp[h2]) (by simp[h1]) n (hp'.2.2 _ (by simp))
     rw[e1,e2]
 | yield _ =>
   intro n hp
   cases n with
   | zero=>exact absurd hp (by show ¬ (false=true);simp)
   | succ n=>have hp':false=true:=hp;cases hp'
 | iface _ ih =>
   intro n hp
   cases n with
   | zero=>exact absurd hp (by show ¬ (false=true);simp)
   | succ n=>rw[ih n hp]
 | @agg a a' ha hav i1 =>
   intro n hp
   cases n with
   | zero=>exact absurd hp (by show ¬ (false=true);simp)
   | succ n =>
     have hp':jZ (kD n) a.toList=true:=hp;simp only[xR] at hp';have e1:a'=a:=Array.ext ha.symm fun i h1 h2=>i1 i a[i] a'[i] (by simp[h2]) (by simp[h1]) n (hp' _ (by simp))
     rw[e1]
 | tuple _ _ _=>intro n hp;cases n <;> exact absurd hp (by show ¬ (false=true);simp)
theorem zE0.plain {f:Inj}(h:zE0 P f v v')(hp:yV v=true):v'=v:=h.zJZ 3 hp
theorem qE.plain {P:Program}{f:Inj}{l l':List Value}(h:qE P f l l')(hp:zQ l=true):l'=l:=by
 induction l generalizing l' with
 | nil=>exact h.zE5
 | cons v l ih =>
   obtain⟨v',t',rfl,hv,ht⟩:=h.zE2;rw[mF,zOG] at hp;rw[hv.plain hp.1,ih ht hp.2]
theorem qJO (h:yV (.agg a)=true):zQ a.toList=true:=by
 have h':jZ (kD 2) a.toList=true:=h;exact xS.2 fun v hv=>qBE 2 v (xR.1 h' v hv)
theorem zE0.zI2 {f:Inj}(h:zE0 P f (.agg a) v'):∃ a',v'=.agg a'∧qE P f a.toList a'.toList:=by
 cases h with
 | base _ hp=>exact⟨a,rfl,.zFG (qJO hp)⟩
 | agg ha hav=>exact⟨_,rfl,by simpa using ha,fun i v v' h1 h2=>hav i v v' (by simpa using h1) (by simpa using h2)⟩
theorem zE0.zG3 {f:Inj}(h:qE P f a.toList a'.toList):zE0 P f (.agg a) (.agg a') :=
 .agg (by simpa using h.1) fun i v v' h1 h2=>h.2 i v v' (by simpa using h1) (by simpa using h2)
theorem zE0.zGB {f:Inj}(h:qE P f a.toList a'.toList):zE0 P f (.tuple a) (.tuple a') :=
 .tuple (by simpa using h.1) fun i v v' h1 h2=>h.2 i v v' (by simpa using h1) (by simpa using h2)
theorem zE0.cells {P:Program}{f:Inj}{v v':Value}(h:zE0 P f v v')(hn:zK v=true):qE P f v.cells.toList v'.cells.toList:=by
 cases h with
 | any v=>simp[unk,zK] at hn
 | undef=>simp[Go.undef,zK] at hn
 | base v hp =>
   cases v <;> first
    | (simp only[Value.cells];exact .cons (.base _ hp) .nil)
    | exact .zFG (qJO hp)
    | (simp[zK] at hn)
 | ptr h=>exact .cons (.ptr h) .nil
 | sl h=>exact .cons (.sl h) .nil
 | room h a b=>exact .cons (.room h a b) .nil
 | zFU h a b=>exact .cons (.zFU h a b) .nil
 | gh h a=>exact .cons (.gh h a) .nil
 | map h=>exact .cons (.map h) .nil
 | func a b c d=>exact .cons (.func a b c d) .nil
 | yield h=>exact .cons (.yield h) .nil
 | iface h=>exact .cons (.iface h) .nil
 | agg ha hav=>exact⟨by simpa [Value.cells] using ha,fun i v v' h1 h2=>hav i v v' (by simpa [Value.cells] using h1) (by simpa [Value.cells] using h2)⟩
 | tuple _ _=>simp[zK] at hn
def live:Obj->Bool
 | .pending _ _=>false
 | _=>true
def zCC (g:Nat):List (Nat×Nat)->Option Nat
 | []=>none
 | (k,n)::l=>cond (Nat.beq k g) (some n) (zCC g l)
def zB2 (g N:Nat):Bool:=match zCC g zDI with
 | some n=>Nat.beq N n
 | none=>true
def q9I (g:Nat):Nat:=(zCC g zDI).getD 0
theorem q9D (g:Nat):zB2 g (q9I g)=true:=by
 unfold zB2 q9I
 cases zCC g zDI with
 | none=>rfl
 | some n=>exact zSN n
def zA (f:Inj)(g:Nat):Bool :=
 match f g with
 | some e=>decide (e.r=g)&&(decide (e.shift=0)&&zB2 g e.N)
 | none=>false
theorem dA {f:Inj}{g:Nat}:zA f g=true ↔ ∃ e,f g=some e∧e.r=g∧e.shift=0∧zB2 g e.N=true:=by
 unfold zA;split
 ·rename_i e he;simp[he]
 ·rename_i he;simp[he]
theorem zI {f f':Inj}(hl:f.le f')(g:Nat)(h:zA f g=true):zA f' g=true:=by
 rw[dA] at h ⊢;obtain⟨e,h1,h2⟩:=h;exact⟨e,hl _ _ h1,h2⟩
theorem jV (h:∀ g,G g=true->G' g=true){x:Operand}(hx:kV G x=true):kV G' x=true:=by
 cases x <;> first | exact hx | exact h _ hx
theorem kP (h:∀ g,G g=true->G' g=true){ops:Array Oper}(hx:uY G ops=true):uY G' ops=true:=by
 simp only[uY,zOJ] at hx ⊢;exact fun o ho x hxx=>jV h (hx o ho x hxx)
theorem qP {G G':Nat->Bool}(h:∀ g,G g=true->G' g=true):∀ (c:Code) (b:Bool),codeOk G b c=true->codeOk G' b c=true
 | .skip,_,_=>rfl
 | .label _,_,_=>rfl
 | .ret,_,_=>rfl
 | .exit _,_,_=>rfl
 | .goto _,_,_=>rfl
 | .refuse _,_,_=>rfl
 | .seq x y,b,hc=>by
   simp only[codeOk,zOG] at hc ⊢;exact⟨qP h x b hc.1,qP h y b hc.2⟩
 | .cond v x y,b,hc=>by
   simp only[codeOk,zOG] at hc ⊢;exact⟨jV h hc.1,qP h x b hc.2.1,qP h y b hc.2.2⟩
 | .block _ x,b,hc=>by simp only[codeOk] at hc ⊢;exact qP h x b hc
 | .loop x,b,hc=>by simp only[codeOk] at hc ⊢;exact qP h x b hc
 | .scope x,b,hc=>by simp only[codeOk] at hc ⊢;exact qP h x b hc
 | .region _ ops draw,b,hc=>by
   simp only[codeOk,zOG] at hc ⊢;exact⟨kP h hc.1,hc.2⟩
 | .rangeFunc v _ x y,b,hc=>by
   simp only[codeOk,zOG] at hc ⊢;exact⟨hc.1,jV h hc.2.1,qP h x true hc.2.2.1,qP h y true hc.2.2.2⟩
def qC1 (P:Program)(f:Inj)(e:Emb)(o:Obj)(ro:Option Obj):Prop :=
 match o with
 | .cells c el fz=>∃ c' el' fz',ro=some (.cells c' el' fz')∧c'.size=e.N∧e.shift+c.size<=c'.size ∧
    (∀ (i:Nat) v,c[i]?=some v->∃ v',c'[e.shift+i]?=some v'∧zE0 P f v v') ∧
    (aH fz=true->e.ro=false∧el'=el∧∀ j,j < c'.size->¬(fz'.1<=j∧j < fz'.2)) ∧
    (fz=(0,0)->e.shift=0∧c.size=c'.size)
 | .pending _ _=>True
 | .map es clk=>e.ro=false∧∃ es',ro=some (.map es' clk)∧es'.size=es.size ∧
    ∀ (i:Nat) x,es[i]?=some x->∃ x',es'[i]?=some x'∧x'.key=x.key∧x'.born=x.born∧zE0 P f x.val x'.val
 | .stringIter s p=>e.ro=false∧e.shift=0∧ro=some (.stringIter s p)
 | .mapIter (some m) since seen last=>e.ro=false∧e.shift=0∧∃ em seen' stepped,f m=some em∧ro=some (.mapIter (some em.r) since seen' stepped) ∧
    (∀ x,x∈seen' ↔ x∈seen.toList)∧(∀ n,last=n+1->seen'.back?=some n)∧(seen'.isEmpty=false->stepped=since)∧(∀ x,x∈seen'->x < since)
 | .loop lp=>e.ro=false∧∃ lp',ro=some (.loop lp')∧lp'.state=lp.state∧lp'.pending=lp.pending∧lp'.params=lp.params∧lp'.assign=lp.assign∧lp'.body=lp.body ∧
    qE P f lp.tmps.toList lp'.tmps.toList∧codeOk (zA f) true lp.assign=true∧codeOk (zA f) true lp.body=true∧(∀ c,lp.pending=some c->qK9 c=true)∧e.shift=0
 | _=>False
theorem qC1.mono {P:Program}{f g:Inj}{e:Emb}{o:Obj}{ro:Option Obj}(h:qC1 P f e o ro)(hl:f.le g):qC1 P g e o ro:=by
 cases o <;> simp only[qC1] at h ⊢
 case cells c el fz =>
  obtain⟨c',el',fz',h1,h2,h3,h4,h5,h6⟩:=h;exact⟨c',el',fz',h1,h2,h3,fun i v hv=>let ⟨v',a,b⟩:=h4 i v hv;⟨v',a,b.mono hl⟩,h5,h6⟩
 case map es clk =>
  obtain⟨h0,es',h1,h2,h3⟩:=h;exact⟨h0,es',h1,h2,fun i x hx=>let ⟨x',a,b,c,d⟩:=h3 i x hx;⟨x',a,b,c,d.mono hl⟩⟩
 case stringIter s p=>exact h
 case mapIter m since seen last =>
  cases m with
  | none=>simp only at h
  | some m =>
    obtain⟨h0,h01,em,seen',st,h1,h2,h3⟩:=h;exact⟨h0,h01,em,seen',st,hl _ _ h1,h2,h3⟩
 case loop lp =>
  obtain⟨h0,lp',h1,h2,h3,h4,h5,h6,h7,h8,h9,h10⟩:=h;exact⟨h0,lp',h1,h2,h3,h4,h5,h6,h7.mono hl,qP (zI hl) _ _ h8,qP (zI hl) _ _ h9,h10⟩
structure Rel (P:Program) (f:Inj) (H:IH) (w:World):Prop where
 dom:∀ b e,f b=some e->b < H.size
 fresh:∀ b,H.size<=b->H.get b=none
 bound:∀ b e,f b=some e->e.r < w.heap.size
 obj:∀ b e o,f b=some e->H.get b=some o->qC1 P f e o w.heap[e.r]?
 sep:∀ b1 b2 e1 e2 o1 o2,b1≠b2->f b1=some e1->f b2=some e2->H.get b1=some o1->H.get b2=some o2->live o1=true->live o2=true->e1.r=e2.r ->
  e1.ro=true∧e2.ro=true
 zFM:∀ b1 b2 e1 e2,f b1=some e1->f b2=some e2->e1.r=e2.r->e1.ro=e2.ro
def Own (f:Inj)(r:Nat):Prop:=∃ b e,f b=some e∧e.r=r∧e.ro=false
def uH (w:World)(r:Nat):Prop:=∃ lp,w.heap[r]?=some (.loop lp)
structure Grow (f:Inj) (H:IH) (w:World) (f':Inj) (H':IH) (w':World):Prop where
 zFX:H.size<=H'.size
 stay:∀ b,b < H.size->f b=none->f' b=none
 le:f.le f'
 size:w.heap.size<=w'.heap.size
 keep:∀ r,r < w.heap.size->¬ Own f r->¬ Own f' r∧w'.heap[r]?=w.heap[r]?
 un:∀ r,r < w.heap.size->(∀ b e,f b=some e->e.r≠r)->∀ b e,f' b=some e->e.r≠r
 out:w'.os=w.os∧w'.output=w.output∧w'.tape=w.tape
 lps:∀ r,uH w r->uH w' r
theorem Grow.refl (f:Inj)(H:IH)(w:World):Grow f H w f H w:=⟨zOI _,fun _ _ h=>h,f.le_refl,zOI _,fun _ _ h=>⟨h,rfl⟩,fun _ _ h=>h,⟨rfl,rfl,rfl⟩,fun _ h=>h⟩
theorem Grow.trans {f f1 f2:Inj}{H H1 H2:IH}{w w1 w2:World}(a:Grow f H w f1 H1 w1)(b:Grow f1 H1 w1 f2 H2 w2):Grow f H w f2 H2 w2 :=
 ⟨zO7 a.zFX b.zFX,fun x hx hn=>b.stay x (zOM hx a.zFX) (a.stay x hx hn),Inj.le_trans a.le b.le,zO7 a.size b.size,fun r hr ho=>by
   obtain⟨h1,h2⟩:=a.keep r hr ho;obtain⟨h3,h4⟩:=b.keep r (zOM hr a.size) h1
   exact⟨h3,h4.trans h2⟩,fun r hr hu=>b.un r (zOM hr a.size) (a.un r hr hu),
   ⟨b.out.1.trans a.out.1,b.out.2.1.trans a.out.2.1,b.out.2.2.trans a.out.2.2⟩,fun r h=>b.lps r (a.lps r h)⟩
def Keep (f:Inj)(H H':IH):Prop:=H.size<=H'.size∧∀ b,b < H.size->f b=none->H'.get b=H.get b
theorem Keep.refl (f:Inj)(H:IH):Keep f H H:=⟨zOI _,fun _ _ _=>rfl⟩
theorem IH.get_put:(H.put b o).get x=if x=b then some o else H.get x:=by
 simp[IH.get,IH.put,Tr.zGA]
theorem IH.zE9:(H.push o).get x=if x=H.size then some o else H.get x:=by
 simp[IH.get,IH.push,Tr.zGA]
@[simp] theorem IH.size_put {H:IH} {b:Nat} {o:Obj}:(H.put b o).size=H.size:=rfl
@[simp] theorem IH.size_push {H:IH} {o:Obj}:(H.push o).size=H.size+1:=rfl
theorem Keep.put {f:Inj}{e:Emb}(h:f b=some e):Keep f H (H.put b o) :=
 ⟨zOI _,fun x _ hn=>by
   rw[IH.get_put];by_cases hb:x=b
   ·subst hb;rw[h] at hn;cases hn
   ·simp[hb]⟩
theorem Keep.push {f:Inj}:Keep f H (H.push o) :=
 ⟨by simp,fun x hx _=>by rw[IH.zE9,if_neg (by omega)]⟩
def World.put (w:World)(r:Nat)(o:Obj):World:={ w with heap:=w.heap.setIfInBounds r o }
theorem heap_put {w:World}{r:Nat}(h:r < w.heap.size):(World.put w r o).heap[x]?=if x=r then some o else w.heap[x]?:=by
 unfold World.put;by_cases e:x=r
 ·subst e;simp[h]
 ·simp only[e,if_false];rw[zQJ (Ne.symm e)]
theorem heap_alloc {w:World}:(w.alloc o).heap[x]?=if x=w.heap.size then some o else w.heap[x]?:=by
 show (w.heap.push o)[x]?=_;rw[Array.getElem?_push]
structure zGF (rd:Bool) (F:Fence) (w:World):Prop where
 eq:rd=F.round.isSome
 lp:∀ l,F.round=some l->uH w l
theorem zGF.mono {rd:Bool}{w w':World}(h:zGF rd F w)(hl:∀ r,uH w r->uH w' r):zGF rd F w':=⟨h.eq,fun l e=>hl l (h.lp l e)⟩
theorem zGF.none {w:World}(h:F.round=.none):zGF false F w:=⟨by rw[h];rfl,fun l e=>by rw[h] at e;cases e⟩
theorem uH.lt {w:World}{r:Nat}(h:uH w r):r < w.heap.size:=by
 obtain⟨lp,h⟩:=h;exact (zOT.1 h).1
theorem uH.alloc {w:World}{r:Nat}(o:Obj)(h:uH w r):uH (w.alloc o) r:=by
 have:=h.lt;obtain⟨lp,h⟩:=h;exact⟨lp,by rw[heap_alloc,if_neg (by omega)];exact h⟩
theorem uH.put {w:World}{r r0:Nat}(hr:w.heap[r0]?=some o)(hn:∀ lp,o≠.loop lp)(h:uH w r):uH (World.put w r0 o') r:=by
 obtain⟨lp,h⟩:=h
 have hne:r0≠r:=fun e=>by
  subst e;rw[hr] at h;exact hn lp (zPC h)
 refine⟨lp,?_⟩;show (w.heap.setIfInBounds r0 o')[r]?=_;rw[zQJ hne];exact h
theorem Rel.push {f:Inj}{w:World}{e:Emb}(h:Rel P f H w)(her:e.r=w.heap.size)
 (ho:qC1 P (f.add H.size e) e o (some o')):Rel P (f.add H.size e) (H.push o) (w.alloc o')∧Grow f H w (f.add H.size e) (H.push o) (w.alloc o'):=by
 have hnone:f H.size=none:=by
  cases hx:f H.size with
  | none=>rfl
  | some y=>have:=h.dom _ _ hx;omega
 have hle:f.le (f.add H.size e):=Inj.zF6 hnone;have old:∀ b y,f b=some y->y.r≠w.heap.size:=fun b y hb=>by have:=h.bound b y hb;omega
 refine⟨⟨?_,?_,?_,?_,?_,?_⟩,⟨by simp,(fun b hb hn=>by rw[Inj.zE1 (by omega)];exact hn),hle,by simp,?_,?_,⟨rfl,rfl,rfl⟩,fun r h=>h.alloc _⟩⟩
 ·intro b y hb;by_cases e1:b=H.size
  ·subst e1;simp
  ·rw[Inj.zE1 e1] at hb;have:=h.dom b y hb;simp;omega
 ·intro b hb;simp only[IH.size_push] at hb;rw[IH.zE9,if_neg (by omega)];exact h.fresh b (by omega)
 ·intro b y hb;by_cases e1:b=H.size
  ·subst e1;rw[Inj.add_same] at hb;cases hb;rw[her];simp
  ·rw[Inj.zE1 e1] at hb;have:=h.bound b y hb;simp;omega
 ·intro b y ob hb hob;by_cases e1:b=H.size
  ·subst e1;rw[Inj.add_same] at hb;cases hb;rw[IH.zE9,if_pos rfl] at hob;cases hob;rw[heap_alloc,if_pos her];exact ho
  ·rw[Inj.zE1 e1] at hb;rw[IH.zE9,if_neg e1] at hob;rw[heap_alloc,if_neg (old b y hb)];exact (h.obj b y ob hb hob).mono hle
 ·intro b1 b2 e1 e2 o1 o2 hne h1 h2 g1 g2 l1 l2 hr;by_cases x1:b1=H.size
  ·subst x1;rw[Inj.add_same] at h1;cases h1;rw[Inj.zE1 (Ne.symm hne)] at h2;exact absurd (hr.symm.trans her) (old b2 e2 h2)
  ·rw[Inj.zE1 x1] at h1;by_cases x2:b2=H.size
   ·subst x2;rw[Inj.add_same] at h2;cases h2;exact absurd (hr.trans her) (old b1 e1 h1)
   ·rw[Inj.zE1 x2] at h2;rw[IH.zE9,if_neg x1] at g1;rw[IH.zE9,if_neg x2] at g2;exact h.sep b1 b2 e1 e2 o1 o2 hne h1 h2 g1 g2 l1 l2 hr
 ·intro b1 b2 e1 e2 h1 h2 hr;by_cases x1:b1=H.size
  ·subst x1;rw[Inj.add_same] at h1;cases h1;by_cases x2:b2=H.size
   ·subst x2;rw[Inj.add_same] at h2;cases h2;rfl
   ·rw[Inj.zE1 x2] at h2;exact absurd (hr.symm.trans her) (old b2 e2 h2)
  ·rw[Inj.zE1 x1] at h1;by_cases x2:b2=H.size
   ·subst x2;rw[Inj.add_same] at h2;cases h2;exact absurd (hr.trans her) (old b1 e1 h1)
   ·rw[Inj.zE1 x2] at h2;exact h.zFM b1 b2 e1 e2 h1 h2 hr
 ·intro r hr hno;refine⟨?_,by rw[heap_alloc,if_neg (by omega)]⟩;rintro⟨b,y,hb,hyr,hro⟩;by_cases e1:b=H.size
  ·subst e1;rw[Inj.add_same] at hb;cases hb;omega
  ·rw[Inj.zE1 e1] at hb;exact hno ⟨b,y,hb,hyr,hro⟩
 ·intro r hr hu b y hb;by_cases e1:b=H.size
  ·subst e1;rw[Inj.add_same] at hb;cases hb;omega
  ·rw[Inj.zE1 e1] at hb;exact hu b y hb
theorem qC1.zH6 {f:Inj}{e:Emb}{lp:Loop}(h:qC1 P f e o (some (.loop lp)))(hl:live o=true):∃ lp,o=.loop lp:=by
 cases o <;> simp only[qC1] at h
 case cells=>obtain⟨_,_,_,h,_⟩:=h;cases h
 case map=>obtain⟨_,_,h,_⟩:=h;cases h
 case stringIter=>obtain⟨_,_,h⟩:=h;cases h
 case mapIter m _ _ _ =>
  cases m with
  | none=>exact h.elim
  | some m=>obtain⟨_,_,_,_,_,_,h,_⟩:=h;cases h
 case loop lp=>exact⟨lp,rfl⟩
 case pending=>cases hl
theorem Rel.put {P:Program}{f:Inj}{H:IH}{w w':World}{o o1 o1':Obj}{b:Nat}{e:Emb}(h:Rel P f H w)(hb:f b=some e)(hg:H.get b=some o)(hlive:live o=true)
 (hro:e.ro=false) (ho:qC1 P f e o1 (some o1')) (hw:∀ x:Nat,w'.heap[x]?=if x=e.r then some o1' else w.heap[x]?) (hws:w'.heap.size=w.heap.size)
 (hout:w'.os=w.os∧w'.output=w.output∧w'.tape=w.tape:=by exact⟨rfl,rfl,rfl⟩)
 (hlo:(∃ lp,o=.loop lp)->∃ lp,o1'=.loop lp:=by first | exact fun _=>⟨_,rfl⟩ | (rintro⟨_,h⟩;cases h)) :
 Rel P f (H.put b o1) w'∧Grow f H w f (H.put b o1) w'∧Keep f H (H.put b o1):=by
 refine⟨⟨h.dom,?_,?_,?_,?_,h.zFM⟩,⟨zOI _,fun _ _ h=>h,f.le_refl,by omega,?_,fun _ _ h=>h,hout,fun r hl=>?_⟩,Keep.put hb⟩
 ·intro x hx;rw[IH.get_put,if_neg]
  ·exact h.fresh x hx
  ·intro e1;subst e1;have:=h.dom _ _ hb;simp at hx;omega
 ·intro x y hx;rw[hws];exact h.bound x y hx
 ·intro x y ox hx hox;rw[hw];by_cases e1:x=b
  ·subst e1;rw[hb] at hx;cases hx;rw[IH.get_put,if_pos rfl] at hox;cases hox;rw[if_pos rfl];exact ho
  ·rw[IH.get_put,if_neg e1] at hox;by_cases e2:y.r=e.r
   ·-- another block at the same place: dead
    by_cases hlx:live ox=true
    ·have:=h.sep x b y e ox o e1 hx hb hox hg hlx hlive e2;rw[hro] at this;exact absurd this.2 (by simp)
    ·cases ox <;> simp[live] at hlx;simp[qC1]
   ·rw[if_neg e2];exact h.obj x y ox hx hox
 ·intro b1 b2 e1 e2 o1' o2' hne h1 h2 g1 g2 l1 l2 hr;rw[IH.get_put] at g1 g2;by_cases x1:b1=b
  ·subst x1;rw[hb] at h1;cases h1;rw[if_neg (Ne.symm hne)] at g2;exact h.sep b1 b2 e e2 o o2' hne hb h2 hg g2 hlive l2 hr
  ·rw[if_neg x1] at g1;by_cases x2:b2=b
   ·subst x2;rw[hb] at h2;cases h2;exact h.sep b1 b2 e1 e o1' o hne h1 hb g1 hg l1 hlive hr
   ·rw[if_neg x2] at g2;exact h.sep b1 b2 e1 e2 o1' o2' hne h1 h2 g1 g2 l1 l2 hr
 ·intro r _ hno;refine⟨hno,?_⟩;rw[hw,if_neg];intro e1;exact hno ⟨b,e,hb,e1.symm,hro⟩
 ·obtain⟨lp,hlp⟩:=hl;by_cases e1:r=e.r
  ·subst e1;obtain⟨lp',zL6⟩:=hlo (qC1.zH6 (hlp ▸ h.obj b e o hb hg) hlive);exact⟨lp',by rw[hw,if_pos rfl,zL6]⟩
  ·exact⟨lp,by rw[hw,if_neg e1];exact hlp⟩
theorem Rel.kill {f:Inj}{w:World}{e:Emb}(h:Rel P f H w)(hb:f b=some e):Rel P f (H.put b xE) w:=by
 refine⟨h.dom,?_,h.bound,?_,?_,h.zFM⟩
 ·intro x hx;rw[IH.get_put,if_neg]
  ·exact h.fresh x hx
  ·intro e1;subst e1;have:=h.dom _ _ hb;simp at hx;omega
 ·intro x y ox hx hox;rw[IH.get_put] at hox;by_cases e1:x=b
  ·rw[if_pos e1] at hox;cases hox;simp[qC1,xE]
  ·rw[if_neg e1] at hox;exact h.obj x y ox hx hox
 ·intro b1 b2 e1 e2 o1 o2 hne h1 h2 g1 g2 l1 l2 hr;rw[IH.get_put] at g1 g2;by_cases x1:b1=b
  ·rw[if_pos x1] at g1;cases g1;simp[live,xE] at l1
  ·by_cases x2:b2=b
   ·rw[if_pos x2] at g2;cases g2;simp[live,xE] at l2
   ·rw[if_neg x1] at g1;rw[if_neg x2] at g2;exact h.sep b1 b2 e1 e2 o1 o2 hne h1 h2 g1 g2 l1 l2 hr
theorem Rel.world {f:Inj}{w w':World}(h:Rel P f H w)(hw:w'.heap=w.heap):Rel P f H w' :=
 ⟨h.dom,h.fresh,fun b e hb=>by rw[hw];exact h.bound b e hb,fun b e o hb ho=>by rw[hw];exact h.obj b e o hb ho,h.sep,h.zFM⟩
theorem Grow.sizes {f f':Inj}{H' H0 H1:IH}{w w':World}(h:Grow f H w f' H' w')(h0:H0.size<=H.size)(h1:H'.size<=H1.size):Grow f H0 w f' H1 w' :=
 ⟨zO7 h0 (zO7 h.zFX h1),fun b hb hn=>h.stay b (zOM hb h0) hn,h.le,h.size,h.keep,h.un,h.out,h.lps⟩
theorem Grow.world {f:Inj}{w w':World}(hw:w'.heap=w.heap)(hout:w'.os=w.os∧w'.output=w.output∧w'.tape=w.tape:=by exact⟨rfl,rfl,rfl⟩):Grow f H w f H w':=⟨zOI _,fun _ _ h=>h,f.le_refl,by rw[hw];exact zOI _,fun r _ h=>⟨h,by rw[hw]⟩,fun _ _ h=>h,hout,fun r h=>by unfold uH;rw[hw];exact h⟩
end Go.Idl
