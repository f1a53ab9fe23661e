/- An ideal interpreter of the model's code: its definitions; the relation of an ideal heap and a world. Conditions: none. -/
import Derived.ControlIn
import Derived.Scope
import GoSem.Machine.Frame
import GoSem.Dispatch
import Derived.RangeFuncRecord
import Derived.OrdersIn
set_option linter.all false
namespace Go
def qJ9:=@Nat.eq_of_beq_eq_true
def qJa:=@Bool.and_eq_true
def qJb:=@Nat.le_refl
def qJc:=@List.all_eq_true
def qJd:=@Int.mul_le_mul_of_nonneg_left
def qJe:=@List.getElem?_eq_getElem
def qJf:=@Nat.lt_of_lt_of_le
def qJg:=@Nat.le_of_ble_eq_true
def qJh:=@Int.le_of_lt
def qJi:=@List.mem_cons_of_mem
def qJj:=@Int.mul_le_mul_of_nonneg_right
def qJk:=@List.getD_eq_getElem?_getD
def qJl:=@Nat.ble_eq_true_of_le
def qJm:=@List.mem_cons_self
def qJn:=@Option.map_eq_some_iff
def qJo:=@Int.mul_ediv_add_emod
def qJp:=@Bool.not_eq_true'
def qJq:=@List.length_map
def qJr:=@Int.emod_lt_of_pos
def qJs:=@Option.some.inj
def qJt:=@Array.getElem?_eq_getElem
def qJu:=@List.append_assoc
def qJv:=@List.take_of_length_le
def qJw:=@Int.le_refl
def qJx:=@Int.emod_nonneg
def qJy:=@Nat.le_trans
def qJz:=@List.length_eq_zero_iff
def qJ_:=@Array.getElem?_eq_some_iff
def qKA:=@Int.pow_succ
def qKB:=@Int.tdiv_eq_ediv_of_nonneg
def qKC:=@List.length_append
def qKD:=@Nat.lt_succ_self
def qKE:=@List.getElem?_eq_some_iff
def qKF:=@Array.getD_eq_getD_getElem?
def qKG:=@Option.isSome_iff_exists
def qKH:=@List.length_take
def qKI:=@Int.mul_comm
def qKJ:=@List.map_cons
def qKK:=@Int.mul_nonneg
def qKL:=@List.mem_map
def qKM:=@Int.pow_pos
def qKN:=@List.mem_cons
def qKO:=@Bool.and_self
def qKP:=@Option.bind_some
def qKQ:=@Option.map_some
def qKR:=@Int.ediv_nonneg
def qKS:=@Int.pow_add
def qKT:=@List.mem_of_getElem?
def qKU:=@List.append_nil
def qKV:=@Option.some.injEq
def qKW:=@Int.ediv_lt_of_lt_mul
def qKX:=@List.cons.injEq
def qKY:=@List.ext_getElem?
def qKZ:=@List.getElem?_map
def qK0:=@List.getElem?_set
def qK1:=@List.flatMap_cons
def qK2:=@Nat.mul_le_mul_right
def qK3:=@List.drop_eq_nil_of_le
def qK4:=@Int.ediv_emod_unique
def qK5:=@Nat.pow_le_pow_right
def qK6:=@List.drop_zero
def qK7:=@Nat.min_eq_left
def qK8:=@List.all_cons
def qK9:=@Int.tmod_eq_emod_of_nonneg
def qKa:=@List.drop_drop
def qKb:=@Nat.zero_add
def qKc:=@Int.mul_lt_mul_of_pos_right
def qKd:=@Int.mul_le_mul
def qKe:=@List.map_append
def qKf:=@Bool.not_eq_false'
def qKg:=@List.getElem_mem
def qKh:=@Nat.zero_le
def qKi:=@List.length_pos_iff
def qKj:=@Nat.lt_succ_of_lt
def qKk:=@Int.natCast_mul
def qKl:=@List.set_eq_take_append_cons_drop
def qKm:=@Option.bind_eq_some_iff
def qKn:=@Int.eq_ofNat_of_zero_le
def qKo:=@Array.mem_def
def qKp:=@List.getElem?_append_right
def qKq:=@List.exists_cons_of_ne_nil
def qKr:=@Int.toNat_natCast
def qKs:=@Array.length_toList
def qKt:=@Bool.or_eq_true
def qKu:=@Option.getD_some
def qKv:=@List.length_drop
def qKw:=@List.take_length
def qKx:=@List.mem_iff_getElem
def qKy:=@List.mem_append_left
def qKz:=@List.getElem?_cons_zero
def qK_:=@List.getElem?_replicate
def qLA:=@List.mem_append
def qLB:=@Int.add_mul
def qLC:=@Int.ediv_le_self
def qLD:=@List.mem_append_right
def qLE:=@List.getElem?_append_left
def qLF:=@List.drop_eq_getElem_cons
def qLG:=@Int.lt_of_mul_lt_mul_left
def qLH:=@Nat.add_zero
def qLI:=@List.mem_of_mem_drop
def qLJ:=@List.mem_of_mem_take
def qLK:=@Int.mul_assoc
def qLL:=@Int.toNat_of_nonneg
def qLM:=@List.map_congr_left
def qLN:=@List.take_succ_cons
def qLO:=@List.length_cons
def qLP:=@List.isEmpty_iff
def qLQ:=@Int.natCast_ediv
def qLR:=@Array.foldl_toList
def qLS:=@List.map_map
def qLT:=@List.mem_filterMap
def qLU:=@Bool.false_eq_true
def qLV:=@Nat.add_assoc
def qLW:=@List.getElem?_set_ne
def qLX:=@Nat.not_lt
def qLY:=@Nat.add_mul
def qLZ:=@List.replicate_succ
def qL0:=@List.mk_mem_zipIdx_iff_getElem?
def qL1:=@List.foldl_cons
def qL2:=@List.length_set
def qL3:=@Int.not_lt
def qL4:=@Nat.eq_zero_or_pos
def qL5:=@List.getElem?_set_self
def qL6:=@List.eq_nil_of_length_eq_zero
def qL7:=@Int.emod_eq_of_lt
def qL8:=@List.getElem?_toArray
def qL9:=@List.mem_range
def qLa:=@Nat.zero_mul
def qLb:=@Int.mul_ediv_mul_of_pos_left
def qLc:=@List.take_left
def qLd:=@Int.gcd_pos_of_ne_zero_right
def qLe:=@Int.natAbs_mul
def qLf:=@Array.mem_append
def qLg:=@List.cons_append
def qLh:=@Array.size_replicate
def qLi:=@Array.toList_setIfInBounds
def qLj:=@Bool.and_true
def qLk:=@Nat.lt_irrefl
def qLl:=@List.map_take
def qLm:=@Int.add_mul_emod_self_left
def qLn:=@Nat.le_succ
def qLo:=@List.flatMap_append
def qLp:=@Int.mul_ne_zero
def qLq:=@Nat.add_comm
def qLr:=@Bool.false_ne_true
def qLs:=@Int.mul_ediv_cancel_left
def qLt:=@Array.ext'
def qLu:=@List.take_take
def qLv:=@Int.not_le
def qLw:=@Nat.add_sub_cancel_left
def qLx:=@Int.mul_emod_mul_of_pos
def qLy:=@List.drop_of_length_le
def qLz:=@Int.one_mul
def qL_:=@Bool.true_and
def qMA:=@List.map_drop
def qMB:=@Array.toList_map
def qMC:=@List.mem_flatten
def qMD:=@Array.all_eq_true_iff_forall_mem
def qME:=@List.take_succ_eq_append_getElem
def qMF:=@List.countP_le_length
def qMG:=@Array.getElem?_toList
def qMH:=@List.take_append_drop
def qMI:=@List.getElem?_eq_none
def qMJ:=@Nat.div_lt_iff_lt_mul
def qMK:=@Nat.sub_self
def qML:=@List.map_nil
def qMM:=@Nat.succ_mul
def qMN:=@Nat.div_le_self
def qMO:=@List.countP_eq_zero
def qMP:=@List.filterMap_cons
def qMQ:=@Nat.mul_le_mul
def qMR:=@Int.mul_pos
def qMS:=@Int.mul_neg
def qMT:=@Nat.add_sub_cancel
def qMU:=@List.getElem?_take
def qMV:=@List.getElem?_drop
def qMW:=@Option.isSome_none
def qMX:=@Int.natAbs_natCast
def qMY:=@Bool.or_false
def qMZ:=@List.size_toArray
end Go
namespace Go.Idl
abbrev P':=Value
abbrev T':=Program
abbrev B':=TypeId
abbrev C':=FuncId
abbrev I':=Oper
abbrev J':=World
abbrev K':=Operand
abbrev L':=IntKind
open Go
variable{c:Code}
section
variable{F:Fence}{n:Nat}{P:T'}{b:Frame}{a:Act}{k:List Item}{cs:List Frame}{w:J'}{Q:Exit->Act->J'->Prop}
theorem QO:step P (lone (b.atR a (.code (.scope c)::k)) cs w)=.next (lone (b.atR a (.code c::.inScope c::k)) cs w):=step_lone_go (by simp[stepG,stepG.exec,Frame.atR])
theorem SW:step P (lone (b.atR a (.inScope c::k)) cs w)=.next (lone (b.atR a k) cs w):=step_lone_go (by simp[stepG,stepG.exec,Frame.atR])
theorem F6(h:c.wpIn F n P (Exit.noGoto Q) a w):(Code.scope c).wpIn F n P Q a w:=by intro b k cs j i o;have g:(lone (b.atR a (.code (.scope c)::k)) cs w).fenced P F:=fenced_calm i o rfl;have⟨e,a₁,w₁,f,d⟩:=h b (.inScope c::k) cs j i o;cases e with|normal=>exact⟨.normal,a₁,w₁,f,.head g QO (StepsIn.trans d (.one (fenced_calm i o rfl) SW))⟩|exit id=>(have t:exitTo id (.inScope c::k)=exitTo id k:=by simp[exitTo]);exact⟨.exit id,a₁,w₁,f,λr p=>.head g QO (d.1 r (by grind)),λm p=>let⟨k₁,q,s⟩:=d.2 m (by grind);⟨k₁,q,.head g QO s⟩⟩|goto l=>exact f.elim|_=>exact⟨_,a₁,w₁,f,.of_steps (.one g QO) d⟩
end
end Go.Idl
namespace Go.Idl
def UY:=[(3,20)]
noncomputable section
inductive Tr(α:Type):Type where|nil:Tr α|node(v:Option α)(l r:Tr α):Tr α
namespace Tr
variable{α:Type}
def get(t:Tr α):Nat->Option α:=Tr.rec (λ_=>none) (λv _ _ b a n=>Nat.casesOn n v λm=>cond (Nat.beq (m%2) 0) (b (m/2)) (a (m/2))) t
theorem get_nil(n):(Tr.nil:Tr α).get n=none:=rfl
theorem nO(v)(l r:Tr α):(Tr.node v l r).get 0=v:=rfl
theorem my(v)(l r:Tr α)(n):(Tr.node v l r).get (n+1)=if n%2=0 then l.get (n/2)else r.get (n/2):=by show cond (Nat.beq (n%2) 0) (l.get (n/2)) (r.get (n/2))=_;simp_all
def jz(f:Nat):Tr α->Nat->α->Tr α:=Nat.rec (λt _ _=>t) (λ_ b t n a=>Tr.casesOn t (Nat.casesOn n (.node (some a) .nil .nil) λm=>cond (Nat.beq (m%2) 0) (.node none (b .nil (m/2) a) .nil) (.node none .nil (b .nil (m/2) a))) (λv l r=>Nat.casesOn n (.node (some a) l r) λm=>cond (Nat.beq (m%2) 0) (.node v (b l (m/2) a) r) (.node v l (b r (m/2) a)))) f
theorem SS(f)(a:α):jz (f+1) .nil 0 a=.node (some a) .nil .nil:=rfl
theorem SB(f v l r)(a:α):jz (f+1) (.node v l r) 0 a=.node (some a) l r:=rfl
theorem Fh(f n)(a:α):jz (f+1) .nil (n+1) a=if n%2=0 then .node none (jz f .nil (n/2) a) .nil else .node none .nil (jz f .nil (n/2) a):=by show cond (Nat.beq (n%2) 0) (Tr.node none (jz f .nil (n/2) a) .nil) (Tr.node none .nil (jz f .nil (n/2) a))=_;simp_all
theorem Fb(f n v l r)(a:α):jz (f+1) (.node v l r) (n+1) a=if n%2=0 then .node v (jz f l (n/2) a) r else .node v l (jz f r (n/2) a):=by show cond (Nat.beq (n%2) 0) (Tr.node v (jz f l (n/2) a) r) (Tr.node v l (jz f r (n/2) a))=_;simp_all
def set(t n)(a:α):=jz (n+1) t n a
theorem ID(f):∀(t n m)(a:α),n<f->(jz f t n a).get m=if m=n then some a else t.get m:=by induction f with|zero=>grind|succ f g=>intro t n m a h;cases t with|nil=>(cases n with|zero=>cases m<;>simp[SS,nO,my,get_nil]|succ n=>(have c:n/2<f:=by omega);by_cases d:n%2=0;{rw[Fh,if_pos d];cases m with|zero=>simp[nO,get_nil]|succ m=>rw[my];by_cases b:m%2=0;{rw[if_pos b,g _ _ _ _ c];by_cases e:m=n;{grind};rw[if_neg (by omega),if_neg (by omega),get_nil,get_nil]};rw[if_neg b,if_neg (by omega),get_nil,get_nil]};rw[Fh,if_neg d];cases m with|zero=>simp[nO,get_nil]|succ m=>rw[my];by_cases b:m%2=0;{rw[if_pos b,if_neg (by omega),get_nil,get_nil]};rw[if_neg b,g _ _ _ _ c];by_cases e:m=n;{grind};rw[if_neg (by omega),if_neg (by omega),get_nil,get_nil])|node v l r=>cases n with|zero=>cases m<;>simp[SB,nO,my]|succ n=>by_cases d:n%2=0;{rw[Fb,if_pos d];cases m with|zero=>simp[nO]|succ m=>grind[my]};rw[Fb,if_neg d];cases m with|zero=>simp[nO]|succ m=>grind[my]
theorem s_(t:Tr α)(n m a):(t.set n a).get m=if m=n then some a else t.get m:=ID _ t n m a (qKD n)
end Tr
structure IH where
 tr:Tr Obj
 size:Nat
 base:Nat
 log:List Nat
def kQ:Obj:=.pending #[] 0
def IH.get(H:IH)(b):=H.tr.get b
def IH.put(H:IH)(b o):={H with tr:=H.tr.set b o,log:=b::H.log}
def IH.push(H:IH)(o):={H with tr:=H.tr.set H.size o,size:=H.size+1}
def oneCell:P'->Bool|.agg _|.tuple _=>false|_=>true
def vT(a:Nat×Nat):Bool:=a.2<=a.1
def IH.load(H:IH)(b i:Nat):Option P':=match H.get b with|some (.cells c _ _)=>c[i]?|_=>none
def IH.loads(H:IH)(b i n:Nat):Option (List P'):=match H.get b with|some (.cells c _ _)=>if i+n<=c.size then some ((c.toList.drop i).take n)else none|_=>none
def overwrite(l:List P')(i a):=l.take i++a++l.drop (i+a.length)
def IH.stores(H:IH)(b i:Nat)(a:List P'):Option IH:=match H.get b with|some (.cells c e d)=>if i+a.length<=c.size&&vT d&&decide (H.base<=b)&&a.all oneCell then some (H.put b (.cells (overwrite c.toList i a).toArray e d))else none|_=>none
def zG{α:Type}(p:α->Bool)(l:List α):Bool:=List.rec true (λa _ b=>cond (p a) b false) l
theorem I_{α}(p:α->Bool):zG p []=true:=rfl
theorem aq{α}(p a)(l:List α):zG p (a::l)=(p a&&zG p l):=by show cond (p a) (zG p l) false=_;grind
theorem jC{α p}{l:List α}:zG p l=true↔∀a∈l,p a=true:=by induction l with|nil=>simp[I_]|cons a l b=>grind[aq]
def qT{α:Type}(l:List α):Nat->Option α:=List.rec (λ_=>none) (λa _ b n=>Nat.casesOn n (some a) λm=>b m) l
theorem qd{α}(l:List α):∀n,qT l n=l[n]?:=by induction l with|nil=>intro n;rfl|cons a l b=>intro n;cases n with|zero=>rfl|succ n=>have:qT (a::l) (n+1)=qT l n:=rfl;grind
def qZ{α:Type}(l:List α):Nat->α->List α:=List.rec (λ_ _=>[]) (λa t b n v=>Nat.casesOn n (v::t) λm=>a::b m v) l
theorem ze{α}(l:List α):∀n v,qZ l n v=l.set n v:=by induction l with|nil=>intro n v;rfl|cons a l b=>intro n v;cases n with|zero=>rfl|succ n=>have:qZ (a::l) (n+1) v=a::qZ l n v:=rfl;grind
def qo{α β:Type}(g:α->β)(l:List α):List β:=List.rec [] (λa _ b=>g a::b) l
theorem ke{α β}(g:α->β)(l):qo g l=l.map g:=by induction l with|nil=>rfl|cons a l b=>grind[qo]
def kB{α:Type}(l m:List α):List α:=List.rec m (λa _ b=>a::b) l
theorem fN{α}(l m:List α):kB l m=l++m:=by induction l with|nil=>rfl|cons a l b=>grind[kB]
def sj:Fn->Bool|.func _=>true|_=>false
def xg(n:Nat):P'->Bool:=Nat.rec (λ_=>false) (λ_ e v=>match v with|.bool _|.int _ _|.float _ _|.complex _ _ _|.string _|.nilFunc|.nilIface=>true|.pointer a=>a.isNone|.slice a l c=>a.isNone&&(Nat.beq l 0&&Nat.beq c 0)|.map r|.chan r=>r.isNone|.func f d b=>sj f&&(zG e d.toList&&zG e b.toList)|.iface _ v=>e v|.agg g=>zG e g.toList|.tuple _=>false) n
def yY(v):=xg 3 v
def zt(l):=zG yY l
def qb{α}(P s):=Sem.rec (motive:=λ_=>Option α) (λa=>some a) (λ_ _ _ _=>none) (λ_ _ _ _ _=>none) (λ_ _ _=>none) (λ_ _ _=>none) (λ_ _ _ _=>none) (λ_ _ _=>none) (λ_ _ _=>none) (λ_ _ _ _=>none) (λq _ b=>cond q.forced (b 0) none) (λ_ _ _=>none) (λ_ b=>b P) (λ_ _ b=>b) (λ_=>none) s
abbrev Env:=List P'
def unk:P':=.tuple #[.tuple #[]]
def Env.val(a:Env):K'->P'|.tmp t=>(qT a t).getD undef|.const v=>v|.global g=>.pointer (some ⟨g,0,none⟩)|.func f=>.func (.func f) #[] #[]
def Env.zW(a:Env)(d:Option Tmp)(v:P'):Env:=match d with|some t=>qZ a t v|none=>a
def WU(a:Bool):P'->Option Bool|.bool b=>some (b==a)|.tuple c=>cond c.isEmpty (some false) none|_=>none
def vO(c:Array I')(o:I')(b:Env):=match o.guard with|none=>some true|some (j,a)=>match(c[j]?).bind (·.dst)with
 |some t=>match qT b t with|some v=>WU a v|none=>none
 |none=>some false
def kU(P:T')(t:B'):Option Bool:=match P.underlying t with|some (.struct _)|some (.array _ _)=>some true|some _=>some false|none=>none
def kK(P:T')(t):=(P.info? t).bind (·.zero)
def uG(P:T')(t:B'):Option P':=match kK P t with|some z=>if zt z.cells.toList then some z else none|none=>none
def szT(P:T')(t):=(P.info? t).map (·.size)
inductive zC where|val(v:P')(H:IH)|enter(f:C')(args:List P')(H:IH)|round(l:Nat)(args:List P')(H:IH)|choice(n:Nat)(k:Nat->Option (P'×IH))
def zC.ofO(H:IH):Option P'->Option zC|some v=>some (.val v H)|none=>none
def jD(P:T')(t:B')(a:P')(H:IH):Option P':=match a with
 |.pointer (some ⟨b,i,none⟩)=>match kU P t with
  |some true=>match szT P t with
   |some n=>match H.loads b i n with|some l=>some (.agg l.toArray)|none=>none
   |none=>none
  |some false=>H.load b i|none=>none
 |_=>none
def uj(P t)(a v:P')(H:IH):=match a with|.pointer (some ⟨b,i,none⟩)=>if szT P t=some v.cells.size then H.stores b i v.cells.toList else none|_=>none
def xO:P'->Bool|.tuple _=>false|_=>true
def rp(P:T')(t:B')(a:List (Nat×P')):Option P':=match uG P t,P.underlying t with
 |some b,some (.struct c)=>match c.toList.mapM (λf=>(szT P f.type).map λs=>(f.offset,s))with|some d=>if a.all (λp=>xO p.2)then(Instr.fill (λi=>d.toArray[i]?) b.cells a).map .agg else none|none=>none
 |some b,some (.array _ g)=>match szT P g with|some e=>if a.all (λp=>xO p.2)then(Instr.fill (λi=>some (i*e,e)) b.cells a).map .agg else none|none=>none
 |_,_=>none
def bM(P a n):=if n=0 then some #[]else(uG P a).map λz=>(Array.range n).map λi=>z.cells[i%z.cells.size]!
def dI(P:T')(t:B')(d:Nat)(c:List (Nat×P'))(H:IH):Option zC:=match P.underlying t with
 |some (.slice b)=>match szT P b with
  |some a=>if d*a<=65536&&c.all (λp=>xO p.2)then
   match bM P b (d*a)with
   |some z=>match Instr.fill (λi=>some (i*a,a)) z c with|some e=>some (.val (.slice (some ⟨H.size,0,none⟩) d d) (H.push (.cells e b)))|none=>none
   |none=>none
   else none|none=>none
 |_=>none
def dN(P:T')(t:B')(l c:P')(H:IH):Option zC:=match P.underlying t,l,c with
 |some (.slice a),.int _ l,.int _ c=>match P.info? a with|some i=>if 0<=l&&l<=c&&(i.bytes:Int)*c<=2^47&&c<=2^47 then match bM P a (c.toNat*i.size)with|some z=>some (.val (.slice (some ⟨H.size,0,none⟩) l.toNat c.toNat) (H.push (.cells z a)))|none=>none else none|none=>none
 |_,_,_=>none
def vU(d:Nat)(a:Nat):Option P'->Option Nat|none=>some d|some (.int _ i)=>if 0<=i&&i<=(a:Int)then some i.toNat else none|some _=>none
def zf:=(1,1)
def jb(P:T')(t:B')(x:P')(e f j:Option P'):Option P':=match P.underlying t,x,j with
 |some (.slice a),.slice none 0 0,none=>match szT P a,vU 0 0 f with
  |some _,some h=>match vU 0 h e with|some _=>some (.slice none 0 0)|none=>none
  |_,_=>none
 |some (.slice a),.slice (some ⟨b,o,i⟩) g d,none=>match szT P a,vU g d f with
  |some c,some h=>match vU 0 h e with|some l=>if i.all (·==a)&&Nat.ble h d then some (.slice (some ⟨b,if d=l then o else o+l*c,i⟩) (h-l) (d-l))else none|none=>none
  |_,_=>none
 |some (.array n a),.pointer (some ⟨b,o,none⟩),none=>match szT P a,vU n n f with
  |some c,some h=>match vU 0 h e with|some l=>some (.slice (some ⟨b,if n=l then o else o+l*c,none⟩) (h-l) (n-l))|none=>none
  |_,_=>none
 |_,_,_=>none
def bE(P:T')(s:B')(x:P')(d:Nat):Option P':=match P.underlying s,x with
 |some (.struct a),.pointer (some ⟨b,o,none⟩)=>match a[d]? with
  |some f=>match szT P f.type with|some c=>if c=0 then none else some (.pointer (some ⟨b,o+f.offset,none⟩))|none=>none
  |none=>none
 |_,_=>none
def oN(P:T')(t:B')(b:Array P')(a:Nat):Option P':=match kU P t with
 |some true=>match szT P t with|some n=>if a+n<=b.size then some (.agg (b.extract a (a+n)))else none|none=>none
 |some false=>b[a]?|none=>none
def qI3(P:T')(t:B')(x:P')(b:Nat):Option P':=match P.underlying t,x with
 |some (.struct a),.agg c=>match a[b]? with|some f=>oN P f.type c f.offset|none=>none
 |_,_=>none
def bJ(P:T')(t:B')(x e:P'):Option P':=match P.underlying t,x,e with
 |some (.array n c),.pointer (some ⟨b,o,none⟩),.int _ i=>match szT P c with|some a=>if 0<=i&&i<(n:Int)then some (.pointer (some ⟨b,o+i.toNat*a,none⟩))else none|none=>none
 |some (.slice c),.slice (some ⟨b,o,_⟩) d _,.int _ i=>match szT P c with|some a=>if 0<=i&&i<(d:Int)then some (.pointer (some ⟨b,o+i.toNat*a,none⟩))else none|none=>none
 |_,_,_=>none
def bS(P:T')(t:B')(x c:P'):Option P':=match P.underlying t,x,c with
 |some (.array n a),.agg d,.int _ i=>match szT P a with|some b=>if 0<=i&&i<(n:Int)then oN P a d (i.toNat*b)else none|none=>none
 |_,_,_=>none
def jf(P:T')(b:B')(k:P')(a:List MapEntry):Option (Option Nat):=if yY k&&a.all (λe=>yY e.key)then match qb P (Instr.checkKey a.isEmpty 10000 b k),qb P (Instr.checkKey false 10000 b k),qb P (Instr.findKey b k a)with|some _,some _,some r=>some (r.map (·.1))|_,_,_=>none else none
def cR(a)(v:P')(b):=cond a (.tuple #[v,.bool b]) v
def rO(P:T')(t:B')(x k:P')(a:Bool)(H:IH):Option P':=match P.underlying t,x with
 |some (.map d c),.map (some r)=>match H.get r with
  |some (.map b _)=>match jf P d k b.toList with
   |some (some i)=>match b[i]? with|some e=>some (cR a e.val true)|none=>none
   |some none=>match kK P c with|some z=>if yY z then some (cR a z false)else none|none=>none
   |none=>none
  |_=>none
 |_,_=>none
def dM(P:T')(t:B')(x k v:P')(H:IH):Option IH:=match P.underlying t,x with
 |some (.map c _),.map (some r)=>match H.get r with
  |some (.map b a)=>if decide (H.base<=r)&&xO v then
   match jf P c k b.toList with
   |some (some i)=>match b[i]? with|some e=>if Instr.sameBits 10000 e.key k then some (H.put r (.map (b.modify i λe=>{e with key:=k,val:=v}) a))else none|none=>none
   |some none=>some (H.put r (.map (b.push {key:=k,val:=v,born:=a}) (a+1)))|none=>none
   else none|_=>none
 |_,_=>none
def qI2(P:T')(t:B')(x:P')(H:IH):Option zC:=match P.underlying t,x with
 |some .string,.string s=>some (.val (.pointer (some ⟨H.size,0,none⟩)) (H.push (.stringIter s 0)))|some (.map _ _),.map (some m)=>match H.get m with|some (.map _ a)=>some (.val (.pointer (some ⟨H.size,0,none⟩)) (H.push (.mapIter (some m) a #[] 0)))|_=>none
 |_,_=>none
def qI4(x:P')(H:IH):Option P':=match x with
 |.pointer (some ⟨r,0,none⟩)=>match H.get r with
  |some (.mapIter (some m) b _ (c+1))=>match H.get m with|some (.map d a)=>if a==b then(match d.find? (·.born==c)with|some e=>if yY e.key then some (.tuple #[e.key,e.val])else none|none=>none)else none|_=>none
  |_=>none
 |_=>none
def r8(P:T')(t:B'):P'->P'->Option Bool
 |.pointer (some a),.pointer (some b)=>match P.underlying t with
  |some (.pointer c)=>match szT P c with|some n=>if n !=0&&a.block==b.block&&a.spot.isNone&&b.spot.isNone then some (a.off==b.off)else none|none=>none
  |_=>none
 |_,_=>none
def jt:P'->P'->Option Bool|.pointer none,.pointer b|.pointer b,.pointer none=>some b.isNone|.slice none _ _,.slice b _ _|.slice b _ _,.slice none _ _=>some b.isNone|.map none,.map b|.map b,.map none=>some b.isNone|.nilFunc,.nilFunc=>some true|.nilFunc,.func _ _ _|.func _ _ _,.nilFunc=>some false|_,_=>none
def vJ:List P'->Option (List UInt8)|[]=>some []|.int .u8 n::l=>(vJ l).map (UInt8.ofNat n.toNat::·)|_=>none
def xh:P'->Option Nat|.slice _ n _=>some n|.string s=>some s.size|_=>none
def j9(a n:Nat)(H:IH):P'->Option (List P')|.slice (some ⟨b,o,_⟩) _ _=>H.loads b o (n*a)|.slice none _ _=>if n=0 then some []else none|.string s=>some (((s.extract 0 n).data.toList).map λb=>.int .u8 b.toNat)|_=>none
def xj(a n H x):=if n=0 then(if(xh x).isSome then some []else none)else j9 a n H x
def bc(a:B')(H:IH):Option Addr->Option IH|none=>some H|some ⟨_,_,none⟩=>some H|some ⟨b,_,some d⟩=>match H.get b with|some (.cells _ c e)=>if vT e&&decide (H.base<=b)&&d==a&&c==a then some (H.put b kQ)else none|_=>none
def sG(a:Nat):P'->Bool|.string _=>Nat.beq a 1|_=>true
def eJ(P:T')(b:B')(a:TypeInfo)(c:TypeDesc)(x:P')(H:IH):Option (Nat×List P'):=match c with|.int _=>(match x with|.int _ l=>if 0<=l&&l<=65536&&l.toNat*a.bytes<=2^40 then(if l.toNat*a.size=0 then some (l.toNat,[])else(uG P b).map λz=>(l.toNat,(Builtin.zeroCells z.cells l.toNat).toList))else none|_=>none)|_=>(match xh x with|some n=>cond (sG a.size x) ((xj a.size n H x).map λl=>(n,l)) none|none=>none)
def eP(f:B')(e:Nat)(b:Option Addr)(h d c:Nat)(g:List P')(H:IH):Option zC:=match b with|some a=>if a.spot.all (·==f)then(if g.isEmpty then some (.val (.slice b c d) H)else match H.stores a.block (a.off+h*e) g with|some i=>some (.val (.slice b c d) i)|none=>none)else none|none=>if h==0&&d==0 then some (.val (.slice none 0 0) H)else none
def oQ(P:T')(a:B')(c:TypeInfo)(d:Option Addr)(f h b:Nat)(e:List P')(H:IH):Option zC:=if b<=2^40&&b*c.bytes<=2^45&&e.all oneCell&&((kK P a).map (·.cells.size))==some c.size then match j9 c.size f H (.slice d f h),bc a H d with|some g,some i=>some (.val (.slice (some ⟨i.size,0,some a⟩) b b) (i.push (.cells (g++e).toArray a zf)))|_,_=>none else none
def fA(P c)(b:TypeInfo)(d a e H)(r:Option (Nat×List P')):=match r with|some (n,f)=>if a+n<=e then eP c b.size d a e (a+n) f H else oQ P c b d a e (a+n) f H|none=>none
def wh(P:T')(a:Array B')(d:List P')(H:IH):=match a.toList,d with
 |[j,i],[.slice e f g,x]=>match P.underlying j with
   |some (.slice b)=>match P.info? b,P.underlying i with|some c,some h=>fA P b c e f g H (eJ P b c h x H)|_,_=>none
   |_=>none
 |_,_=>none
def a_(b:Option Addr)(n:Nat)(l:List P')(H:IH):Option zC:=match b with
 |some a=>if l.isEmpty then some (.val (goInt n) H)else match H.stores a.block a.off l with|some c=>some (.val (goInt n) c)|none=>none
 |none=>some (.val (goInt n) H)
def uF(P:T')(a:Array B')(e:List P')(H:IH):=match a.toList,e with
 |[g,_],[.slice d b _,x]=>match P.underlying g with
   |some (.slice c)=>match szT P c,xh x with
    |some f,some m=>match xj f (Nat.min m b) H x with|some l=>a_ d (Nat.min m b) l H|none=>none
    |_,_=>none
   |_=>none
 |_,_=>none
def dc(P:T')(a d)(x:P')(H:IH):=match x with
 |.pointer (some ⟨b,o,none⟩)=>match H.get b with
  |some (.cells c e f)=>match P.underlying a,P.underlying d with
   |some (.pointer t),some .unsafePointer=>match szT P t with|some n=>if n !=0&&decide (o<c.size)then some x else none|none=>none
   |some .unsafePointer,some (.pointer u)=>match szT P u with|some n=>if n !=0&&f==(0,0)&&liesAt P P.depth e (c.size/P.cellsOf e) o u 1 then some x else none|none=>none
   |_,_=>none
  |_=>none
 |_=>none
def ub(P:T')(a:Array B')(d:List P')(H:IH):Option zC:=match a[0]?,d with
 |some f,[.pointer none,.int _ n]=>if n=0&&(P.underlying f).isSome then some (.val (.string .empty) H)else none|some f,[.pointer (some ⟨b,o,none⟩),.int _ n]=>match P.underlying f with|some (.pointer u)=>if n=0 then some (.val (.string .empty) H)else if 0<n&&n<=2^60 then match H.get b with|some (.cells c e h)=>if vT h&&P.cellsOf e==1&&sameLayout P P.depth e u&&decide (H.base<=b)then match(H.loads b o n.toNat).bind vJ with|some g=>some (.val (.string ⟨g.toArray⟩) (H.put b (.cells c e (0,1))))|none=>none else none|_=>none else none|_=>none
 |_,_=>none
def km(P:T')(c:Array B')(a:List P')(H:IH):Option zC:=match(c[0]?).bind P.underlying,a with
 |some (.slice _),[.slice _ n _]=>some (.val (goInt n) H)|some (.map _ _),[.map (some r)]=>match H.get r with|some (.map b _)=>some (.val (goInt b.size) H)|_=>none
 |some (.array n _),[_]=>some (.val (goInt n) H)|_,_=>none
def xP(P)(b:Builtin)(c:Call)(d:List P')(H:IH):=match b with
 |.append=>wh P c.argTypes d H|.copy=>uF P c.argTypes d H|.len=>km P c.argTypes d H|.unsafeSliceData=>match d with|[.slice none _ _]=>some (.val (.pointer none) H)|[.slice (some a) _ c]=>if c !=0 then some (.val (.pointer (some ⟨a.block,a.off,none⟩)) H)else none|_=>none
 |.unsafeString=>ub P c.argTypes d H|_=>none
def yo(P)(c:Call)(h:Env)(H):=let e:=qo h.val c.args.toList
 match c.callee with|.builtin b=>xP P b c e H|.invoke _ _=>none|.value f=>match h.val f with
  |.func (.func g) d a=>match P.funcs[g]? with|some i=>if i.body.isSome then(if i.name != "runtime.NumGoroutine"then some (.enter g (kB d.toList (kB e a.toList)) H)else none)else if i.name== "internal/abi.NoEscape"&&i.origin== ""then(match kB d.toList (kB e a.toList)with|[v]=>some (.val v H)|_=>none)else none|none=>none
  |.func (.yield l) d a=>if d.isEmpty&&a.isEmpty then some (.round l e H)else none|_=>none
def br:P'->Bool|.tuple a=>zt a.toList|v=>yY v
def eC(H:IH)(v:P'):Option zC:=cond (br v) (some (.val v H)) none
def Ze(H:IH):Option Next->Option zC|some (.value v)=>eC H v|_=>none
def qk(P o)(a:Env)(H):=if zt (qo a.val o.op.operands.toList)then Ze H (qb P (execOp a.val o))else none
def wo(c:BinOp)(k:L')(a b:Int):Option P':=match c with|.add=>some (.int k (k.wrap (a+b)))|.sub=>some (.int k (k.wrap (a-b)))|.mul=>some (.int k (k.wrap (a*b)))|.quo=>if b=0 then none else some (.int k (k.wrap (a.tdiv b)))|.rem=>if b=0 then none else some (.int k (a.tmod b))|.eql=>some (.bool (a==b))|.neq=>some (.bool (a !=b))|.lss=>some (.bool (a<b))|.leq=>some (.bool (a<=b))|.gtr=>some (.bool (a>b))|.geq=>some (.bool (a≥b))|_=>none
def cW:L'->Nat|.i8=>0|.i16=>1|.i32=>2|.i64=>3|.u8=>4|.u16=>5|.u32=>6|.u64=>7
theorem Lp{a b}(h:Nat.beq (cW a) (cW b)=true):a=b:=by cases a<;>cases b<;>first|rfl|(exact absurd h (by decide))
def asI:P'->Option (L'×Int)|.int k n=>some (k,n)|_=>none
def ur(P:T')(t:B')(x:P'):Bool:=match P.underlying t,x with|some (.pointer _),.pointer _=>true|some (.slice _),.slice _ _ _=>true|some (.map _ _),.map _=>true|some (.func _ _ _),.nilFunc=>true|some (.func _ _ _),.func _ _ _=>true|_,_=>false
def wu(P:T')(t:B')(x y:P'):Option Bool:=match jt x y with|some b=>cond (ur P t x) (some b) none|none=>r8 P t x y
def xY(P:T')(o:I')(c:BinOp)(t:B')(x y:P')(a:Env)(H:IH):Option zC:=match c with|.eql=>(match wu P t x y with|some b=>some (.val (.bool b) H)|none=>qk P o a H)|.neq=>(match wu P t x y with|some b=>some (.val (.bool !b) H)|none=>qk P o a H)|_=>qk P o a H
def uR(P:T')(o:I')(e:BinOp)(k d:L')(a b:Int)(c:Env)(H:IH):Option zC:=cond (Nat.beq (cW k) (cW d)) (match wo e k a b with|some v=>some (.val v H)|none=>qk P o c H) (qk P o c H)
def zr(P:T')(o:I')(d:BinOp)(t:B')(x y:P')(c:Env)(H:IH):Option zC:=match asI x with|some (k,a)=>(match asI y with|some (e,b)=>uR P o d k e a b c H|none=>xY P o d t x y c H)|none=>xY P o d t x y c H
def bo(c a b:P')(H:IH):Option zC:=match c with|.bool t=>some (.val (cond t a b) H)|_=>none
def bQ(P:T')(a:B')(H:IH):Option zC:=match uG P a with|some z=>some (.val (.pointer (some ⟨H.size,0,none⟩)) (H.push (.cells z.cells a)))|none=>none
def eb(a:B')(v:P')(H:IH):Option zC:=if xO v then some (.val (.pointer (some ⟨H.size,0,none⟩)) (H.push (.cells v.cells a)))else none
def bz:Option IH->Option zC|some a=>some (.val undef a)|none=>none
def ar(v:P')(H:IH):Option zC:=match v with|.pointer (some a)=>some (.val (.pointer (some a)) H)|.func (.func g) f c=>some (.val (.func (.func g) f c) H)|.func (.yield l) f c=>some (.val (.func (.yield l) f c) H)|_=>none
def fB(P o d c)(v:P')(b:Env)(H:IH):=match v with|.pointer a=>zC.ofO H (dc P d c (.pointer a) H)|_=>qk P o b H
def dS(c:Fn)(b a:Array P')(H:IH):Option zC:=match c with|.func g=>some (.val (.func (.func g) b a) H)|_=>none
def bF(P o t)(v:P')(c d b:Option P')(a:Env)(H:IH):=match v with|.string _=>qk P o a H|v=>zC.ofO H (jb P t v c d b)
def bC(P o t)(v b:P')(a:Env)(H:IH):=match v with|.string _=>qk P o a H|v=>zC.ofO H (bS P t v b)
def dU(H:IH):Option P'->Option zC|some v=>cond (xO v) (some (.val v H)) none|none=>none
def dd(v:P')(b:Nat)(H:IH):=match v with|.tuple a=>dU H (qT a.toList b)|_=>none
def zo(P:T')(o:I')(c:Call)(a:Env)(H:IH):Option zC:=match yo P c a H with|some r=>some r|none=>qk P o a H
def nC(r:Option K')(H:IH):Option zC:=match r with|none=>some (.val (.map (some H.size)) (H.push (.map #[] 0)))|some _=>none
def iop(P:T')(o:I')(d:Env)(H:IH):Option zC:=match o.op with|.move x=>some (.val (d.val x) H)|.assign x=>some (.val (d.val x) H)|.pick c a b=>bo (d.val c) (d.val a) (d.val b) H|.alloc h=>bQ P h H|.box h x=>eb h (d.val x) H|.build t e=>zC.ofO H (rp P t (e.toList.map λp=>(p.1,d.val p.2)))|.buildSlice t n e=>dI P t n (e.toList.map λp=>(p.1,d.val p.2)) H|.load t a=>zC.ofO H (jD P t (d.val a) H)|.store t a x=>bz (uj P t (d.val a) (d.val x) H)|.nilCheck x=>ar (d.val x) H|.binOp z t x y _=>zr P o z t (d.val x) (d.val y) d H|.convert q u x=>fB P o q u (d.val x) d H|.makeFunc C i g=>dS C (i.map d.val) (g.map d.val) H|.makeMap _ r=>nC r H|.makeSlice t l c=>dN P t (d.val l) (d.val c) H|.slice t x v A w=>bF P o t (d.val x) (v.map d.val) (A.map d.val) (w.map d.val) d H|.fieldAddr s x f=>zC.ofO H (bE P s (d.val x) f)|.indexAddr t x j=>zC.ofO H (bJ P t (d.val x) (d.val j))|.index t x j=>bC P o t (d.val x) (d.val j) d H|.lookup t x k B=>zC.ofO H (rO P t (d.val x) (d.val k) B H)|.mapUpdate t m k x=>bz (dM P t (d.val m) (d.val k) (d.val x) H)|.extract t j=>dd (d.val t) j H|.call c=>zo P o c d H|.unOp _ _ _=>qk P o d H|_=>none
inductive T(α:Type):Type where|fail:T α|ret(a:α):T α|ch(n:Nat)(k:Nat->T α):T α|sp(p:P'×IH->Prop)(k:P'×IH->T α):T α
def T.bind{α β}(t:T α)(f:α->T β):T β:=T.rec .fail f (λn _ a=>.ch n a) (λp _ a=>.sp p a) t
def T.ofO{α:Type}:Option α->T α|some a=>.ret a|none=>.fail
inductive eo where|normal|exit(id:Nat)|goto(l:Nat)|ret deriving DecidableEq
structure Out where
 e:eo
 env:Env
 H:IH
inductive Job where|code(c:Code)(env:Env)|call(f:C')(args:List P')|round(l:Nat)(args:List P')
abbrev qh:=C'->Option (List P'->IH->T (P'×IH))
def sE(P:T')(b:Env)(H:IH):ResultVar->Option P'|.tmp t=>some ((qT b t).getD undef)|.cell a t=>jD P t ((qT b a).getD undef) H
def bg(P:T')(a:Env)(H:IH):List ResultVar->Option (List P')|[]=>some []|r::l=>match sE P a H r with|some v=>(match bg P a H l with|some b=>some (v::b)|none=>none)|none=>none
def one(l:List P'):=match l with|[v]=>v|a=>.tuple a.toArray
def w9(P)(b:Func)(a H):=(bg P a H b.results.toList).map one
inductive Cls where|pure|read|alloc|call|fresh|write deriving DecidableEq
def zS(o:I'):Cls:=match o.op with
 |.move _|.assign _|.pick ..|.nilCheck _|.binOp ..|.unOp ..|.makeFunc ..|.fieldAddr ..|.field ..|.indexAddr ..|.index ..|.extract ..|.slice ..|.build ..=>.pure|.load ..|.lookup ..|.entry _|.convert ..=>.read|.alloc _=>if o.guard.isNone then .alloc else .fresh|.box ..|.buildSlice ..|.makeMap ..|.makeSlice ..|.range ..=>.fresh|.call c=>match c.callee with|.builtin .len=>.read|.builtin .min|.builtin .max|.builtin .unsafeSliceData=>.pure|.value _=>.call|_=>.write
 |_=>.write
def Cls.eff:Cls->Bool|.call|.fresh|.write=>true|_=>false
def wA(a:Array I')(o:I'):=(o.op.operands.toList.filterMap fun|.tmp t=>some t|_=>none)++(match o.guard with|some (g,_)=>((a[g]?).bind (·.dst)).toList|none=>[])
def qw(o):=decide (zS o=.alloc)
def zF(b:Array Nat)(i j):=(b.getD j 0).testBit i
def vC(b i j):=zF b i j||zF b j i
def Cz(a:Array I')(b):=let l:=a.toList.zipIdx
 l.all fun(o,i)=>(o.after.all λe=>!Region.binds .any e||decide (e.on<i))&&l.all fun(p,j)=>(decide (i=j)||((match o.dst with|some d=>p.dst !=some d&&(!((wA a p).contains d)||cond (qw o) (zF b i j) (vC b i j))|none=>true)&&(!((zS o).eff&&(zS p).eff)||vC b i j)&&true))
def j7(a):=Cz a (Region.before a)
def wc(r:Out):T (P'×IH):=match r.env with|[v]=>.ret (v,r.H)|_=>.fail
def yM(b:Job->IH->T Out)(c:qh)(f:C')(a:List P')(H:IH):T (P'×IH):=match c f with|some g=>g a H|none=>(b (.call f a) H).bind wc
def np(b:Job->IH->T Out)(c:qh)(s:Option zC):T (P'×IH):=match s with|some (.val v H)=>.ret (v,H)|some (.enter f a H)=>yM b c f a H|some (.round l a H)=>(b (.round l a) H).bind wc|some (.choice n k)=>.ch n λi=>T.ofO (k i)|none=>.fail
def zh(P c b o a H):=np c b (iop P o a H)
def xT{α:Type}(c:Option Bool)(a d b:α):=match c with|some true=>a|some false=>d|none=>b
def gL(P:T')(c:Job->IH->T Out)(b:qh)(d:Array I')(l:List I'):Env->IH->T (Env×IH):=List.rec (λa H=>.ret (a,H)) (λo _ e a H=>xT (vO d o a) ((zh P c b o a H).bind λr=>e (a.zW o.dst r.1) r.2) (e (a.zW o.dst undef) H) .fail) l
theorem JF{P c b d o l a H}:gL P c b d (o::l) a H=xT (vO d o a) ((zh P c b o a H).bind λr=>gL P c b d l (a.zW o.dst r.1) r.2) (gL P c b d l (a.zW o.dst undef) H) .fail:=rfl
def aD(t:T (P'×IH)):=match t with|.ret r=>some r|_=>none
def h_(P:T'):List I'->Env->IH->Option (Env×IH)|[],a,H=>some (a,H)|o::b,a,H=>if qw o then match iop P o a H with|some (.val v c)=>h_ P b (a.zW o.dst v) c|_=>none else h_ P b a H
structure Rec where
 i:Nat
 o:I'
 env:Env
 v:P'
def Zr(c:Array I')(b):=(c.toList.zipIdx.filter λp=>decide (zS p.1=.read)).filterMap λp=>let a:=c.toList.zipIdx.filter λq=>(zS q.1).eff
 let e:=(a.filter λq=>zF b q.2 p.2).length
 let d:=(a.filter λq=>!zF b p.2 q.2).length
 if e=d then none else some (p.2,e,d)
def loose(a):=Zr a (Region.before a)
def kj(i:Nat)(l:List (Nat×Nat×Nat)):Option (Nat×Nat):=List.rec none (λa _ b=>cond (Nat.beq a.1 i) (some a.2) b) l
def fP{α:Type}(c a)(l:List α):=cond c (a::l) l
def oB(c:Option (Nat×Nat))(i:Nat)(o:I')(a:Env)(v:P')(l:List Rec):List Rec:=match c with|some _=>⟨i,o,a,v⟩::l|none=>l
def Y0(o i a v d b)(r:Option (Env×IH×List IH×List Rec)):=match r with|some (e,h,c,f)=>some (e,h,fP (zS o).eff d c,oB (kj i b) i o a v f)|none=>none
def sC(o H)(r:Option (Env×IH×List IH×List Rec)):=match r with|some (e,h,b,a)=>some (e,h,fP (zS o).eff H b,a)|none=>none
def sD(o i a b)(c:Env->IH->Option (Env×IH×List IH×List Rec))(r:Option (P'×IH)):=match r with|some r=>Y0 o i a r.1 r.2 b (c (a.zW o.dst r.1) r.2)|none=>none
def bX(P:T')(b:Job->IH->T Out)(c:qh)(d:Array I')(f:List (Nat×Nat×Nat))(l:List I'):Nat->Env->IH->Option (Env×IH×List IH×List Rec):=List.rec (λ_ a H=>some (a,H,[],[])) (λo _ e i a H=>cond (qw o) (e (i+1) a H) (xT (vO d o a) (sD o i a f (e (i+1)) (aD (zh P b c o a H))) (sC o H (e (i+1) (a.zW o.dst undef) H)) none)) l
def eqL{α:Type}(d:α->α->Bool)(l:List α):List α->Bool:=List.rec (λm=>m.isEmpty) (λa _ c m=>match m with|[]=>false|b::m=>cond (d a b) (c m) false) l
theorem Qm{α d}(h:∀a b,d a b=true->a=b){l}:∀{m:List α},eqL d l m=true->l=m:=by induction l with|nil=>intro m c;(cases m with|nil=>rfl|cons b m=>exact absurd c (by show¬((b::m).isEmpty=true);simp))|cons a l f=>intro m c;cases m with|nil=>exact absurd c (by show¬(false=true);simp)|cons b m=>have e:cond (d a b) (eqL d l m) false=true:=c;grind
def ss(n:Nat):P'->P'->Bool:=Nat.rec (λ_ _=>false) (λ_ d v w=>match v,w with|.bool a,.bool b=>a==b|.int k a,.int j b=>k==j&&a==b|.string a,.string b=>eqL (·==·) a.data.toList b.data.toList|.pointer a,.pointer b=>a==b|.slice a l c,.slice e h i=>a==e&&(l==h&&c==i)|.map a,.map b=>a==b|.func f a b,.func m e g=>f==m&&(eqL d a.toList e.toList&&eqL d b.toList g.toList)|.nilFunc,.nilFunc=>true|.nilIface,.nilIface=>true|.agg a,.agg b=>eqL d a.toList b.toList|.tuple a,.tuple b=>eqL d a.toList b.toList|_,_=>false) n
def veq(v w):=ss 4 v w
def sS(l m):=eqL veq l m
def oeq:Obj->Obj->Bool|.cells c e f,.cells d i n=>sS c.toList d.toList&&e==i&&f==n|.pending c e,.pending d i=>sS c.toList d.toList&&e==i|.stringIter s p,.stringIter h k=>eqL (·==·) s.data.toList h.data.toList&&p==k|.mapIter m s a l,.mapIter q h j o=>m==q&&s==h&&a.toList==j.toList&&l==o|.map g c,.map b d=>c==d&&sS (g.toList.map (·.key)) (b.toList.map (·.key))&&sS (g.toList.map (·.val)) (b.toList.map (·.val))&&g.toList.map (·.born)==b.toList.map (·.born)|_,_=>false
def oh:Option Obj->Option Obj->Bool|none,none=>true|some a,some b=>oeq a b|_,_=>false
def dp(v)(r:Option zC):=match r with|some (.val u _)=>veq v u|_=>false
def gu(P:T')(d b:Nat)(r:Rec)(c:List IH):Nat->Bool:=List.rec (λ_=>true) (λE _ a m=>cond (Nat.ble d m&&Nat.ble m b) (cond (dp r.v (iop P r.o r.env E)) (a (m+1)) false) (a (m+1))) c
def nK(P:T')(b:List (Nat×Nat×Nat))(a:List IH)(r:Rec):Bool:=match kj r.i b with|some p=>gu P p.1 p.2 r a 0|none=>true
def rT(b:Nat)(o:Option Obj)(c:List IH):Nat->Bool:=List.rec (λ_=>true) (λh _ a n=>Nat.casesOn n true λm=>cond (oh (h.get b) o) (a m) false) c
def pz(c:IH)(d:List IH)(a:List Nat):Nat->Bool:=List.rec (λ_=>true) (λf _ e b=>cond (rT b (c.get b) d f) (e (b+1)) false) a
def Jh(a:Array I')(b):=(a.toList.zipIdx.filter λp=>qw p.1).map λp=>((a.toList.zipIdx.filter λq=>(zS q.1).eff).filter λq=>!zF b p.2 q.2).length
def bU(a):=Jh a (Region.before a)
def Zh(P f d n c)(r:Option (Env×IH×List IH×List Rec)):=match r with|some (a,e,b,g)=>cond (cond (zG (nK P f (c::b)) g) (pz c b d n) false) (some (a,e)) none|none=>none
def hD(P:T')(e:Job->IH->T Out)(d:qh)(a:Array I')(c:Env)(H:IH):Option (Env×IH):=match h_ P a.toList c H with|some (b,f)=>Zh P (loose a) (bU a) H.size f (bX P e d a (loose a) a.toList 0 b f)|none=>none
def T.leaves{α:Type}:T α->Option (List α)|.fail=>none|.ret a=>some [a]|.ch n k=>((List.range n).mapM λi=>(k i).leaves).map List.flatten|.sp _ _=>none
def dk:Env->Env->Env|a::l,b::m=>(if veq a b then a else unk)::dk l m|_,_=>[]
def IH.since(H:IH)(n):=H.log.take (H.log.length-n)
def Ef(H a:IH)(l:List Nat):=l.all λb=>oh (H.get b) (a.get b)
def V2(c:IH)(n:Nat):List Out->Option Out|[]=>none|o::a=>if((o.H.since n).filter (·<c.size)).all (λb=>(o.H.get b).isSome)&&a.all (λp=>decide (p.e=o.e)&&decide (p.env.length=o.env.length)&&Ef o.H p.H ((o.H.since n).filter (·<c.size))&&Ef o.H p.H ((p.H.since n).filter (·<c.size)))then some ⟨o.e,a.foldl (λe p=>dk e p.env) o.env,{tr:=((o.H.since n).filter (·<c.size)).foldl (λt b=>match o.H.get b with|some d=>t.set b d|none=>t) c.tr,size:=(o::a).foldl (λm p=>Nat.max m p.H.size) 0,base:=c.base,log:=(o.H.since n).filter (·<c.size)++c.log}⟩else none
def join(a:IH):T Out->T Out
 |.ch n k=>match(T.ch n k).leaves with
  |some l=>match V2 a a.log.length l with|some o=>.ret o|none=>.ch n k
  |none=>.ch n k
 |t=>t
def Zb(a:Job->IH->T Out)(b)(r:Out):=match r.e with|.normal=>a (.code b r.env) r.H|_=>.ret r
def Qr(id:Nat)(r:Out):T Out:=match r.e with|.exit a=>cond (Nat.beq a id) (.ret ⟨.normal,r.env,r.H⟩) (.ret r)|_=>.ret r
def px(b:Job->IH->T Out)(a)(r:Out):=match r.e with|.normal=>b (.code (.loop a) r.env) r.H|_=>.ret r
def Qn(r:Out):T Out:=match r.e with|.goto _=>.fail|_=>.ret r
def ZF(d:Job->IH->T Out)(v:P')(a b:Code)(c:Env)(H:IH):=match v with|.bool t=>d (.code (cond t a b) c) H|_=>.fail
def ZP(r:Option (Env×IH)):T Out:=match r with|some (a,b)=>.ret ⟨.normal,a,b⟩|none=>.fail
def Qf(P c d a e b H):=cond e (ZP (hD P c d a b H)) ((gL P c d a a.toList b H).bind λr=>.ret ⟨.normal,r.1,r.2⟩)
def aj(d:Job->IH->T Out)(l:Nat)(a:Env)(r:P'×IH):T Out:=match r.2.get l with|some (.loop b)=>if b.state==.busy then .fail else(match b.pending with|none=>.ret ⟨.normal,a,r.2.put l (.loop {b with state:=.exhausted})⟩|some c=>d (.code c a) (r.2.put l (.loop {b with state:=.exhausted})))|_=>.fail
def entered(P:T')(g:C'):Bool:=match P.funcs[g]? with|some a=>a.body.isSome&&a.name != "runtime.NumGoroutine"|none=>false
def gx(P d e)(v:P')(params:Array Tmp)(assign body:Code)(c:Env)(H:IH):=match v with|.func (.func g) b a=>cond (entered P g) ((yM d e g (kB b.toList (.func (.yield H.size) #[] #[]::a.toList)) (H.push (.loop {state:=.ready,pending:=none,fn:=0,tmps:=c.toArray,params,assign,body,defers:=0}))).bind (aj d H.size c)) .fail|_=>.fail
def Jq(P:T')(e:Job->IH->T Out)(i:qh)(c:Code)(d:Env)(H:IH):T Out:=match c with|.skip=>.ret ⟨.normal,d,H⟩|.label _=>.ret ⟨.normal,d,H⟩|.ret=>.ret ⟨.ret,d,H⟩|.exit id=>.ret ⟨.exit id,d,H⟩|.seq a b=>(e (.code a d) H).bind (Zb e b)|.cond x a b=>ZF e (d.val x) a b d H|.block id a=>(e (.code a d) H).bind (Qr id)|.loop a=>join H ((e (.code a d) H).bind (px e a))|.scope a=>(e (.code a d) H).bind Qn|.region _ l j=>Qf P e i l j d H|.rangeFunc f h g k=>gx P e i (d.val f) h g k d H|_=>.fail
def rM(P:T')(a:Func)(r:Out):T Out:=match r.e with|.normal=>(match w9 P a r.env r.H with|some v=>.ret ⟨.normal,[v],r.H⟩|none=>.fail)|.ret=>(match w9 P a r.env r.H with|some v=>.ret ⟨.normal,[v],r.H⟩|none=>.fail)|_=>.fail
def pn(P:T')(b:C'->Bool)(e:Job->IH->T Out)(f:C')(a:List P')(H:IH):T Out:=match P.funcs[f]? with|some d=>(match d.body with|some c=>cond (b f) (join H ((e (.code c (kB a (List.replicate (d.ntmps-a.length) undef))) H).bind (rM P d))) .fail|none=>.fail)|none=>.fail
def xo:eo->Option Code|.normal=>none|.ret=>some .ret|.exit id=>some (.exit id)|.goto t=>some (.goto t)
def roundEnd(l:Nat)(s:Out):T Out:=match s.H.get l with|some (.loop a)=>.ret ⟨.normal,[.bool (xo s.e).isNone],s.H.put l (.loop {a with state:=if(xo s.e).isNone then .ready else .done,pending:=xo s.e})⟩|_=>.fail
def JN(c:Job->IH->T Out)(l:Nat)(a:Code)(r:Out):T Out:=match r.e with|.normal=>(match r.H.get l with|some (.loop b)=>if b.state==.ready then(c (.code a r.env) (r.H.put l (.loop {b with state:=.busy}))).bind (roundEnd l)else .fail|_=>.fail)|_=>.fail
def pd(c:Job->IH->T Out)(l:Nat)(a:List P')(H:IH):T Out:=match H.get l with|some (.loop b)=>if b.state==.ready&&(decide (H.base<=l)&&Nat.beq a.length b.params.size)then(c (.code b.assign ((b.params.toList.zip a).foldl (λe p=>qZ e p.1 p.2) b.tmps.toList)) H).bind (JN c l b.body)else .fail|_=>.fail
def yH(G:Nat->Bool):K'->Bool|.const v=>yY v|.global g=>G g|_=>true
def yZ(G)(a:Array I'):=a.toList.all λo=>o.op.operands.toList.all (yH G)
def codeOk(G:Nat->Bool)(c:Bool):Code->Bool|.seq a b=>codeOk G c a&&codeOk G c b|.cond x a b=>yH G x&&(codeOk G c a&&codeOk G c b)|.block _ a=>codeOk G c a|.loop a=>codeOk G c a|.scope a=>codeOk G c a|.region _ e d=>yZ G e&&(!d||j7 e)|.rangeFunc f _ x y=>(c||!c)&&(yH G f&&(codeOk G true x&&codeOk G true y))|_=>true
def r7:Code->Bool|.ret=>true|.exit _=>true|.goto _=>true|_=>false
def VK(P d e b)(j:Job)(H:IH):=match j with|.code c g=>Jq P b e c g H|.call f a=>pn P d b f a H|.round l a=>pd b l a H
def iex(P:T')(a:C'->Bool)(b:qh)(n:Nat):Job->IH->T Out:=Nat.rec (λ_ _=>.fail) (λ_ c j H=>VK P a b c j H) n
theorem iY{P a b n j H}:iex P a b (n+1) j H=VK P a b (iex P a b n) j H:=rfl
end
end Go.Idl
namespace Go.Idl
variable{F:Fence}{G G':Nat->Bool}{H:IH}{P:T'}{a a':Array P'}{b r r0 x:Nat}{l l' m:List P'}{o o':Obj}{v v':P'}
structure Emb where
 r:Nat
 shift:Nat
 N:Nat
 ro:Bool
abbrev Inj:=Nat->Option Emb
def Inj.le(f g:Inj):=∀b e,f b=some e->g b=some e
theorem Inj.le_refl(f:Inj):f.le f:=λ_ _ h=>h
theorem Inj.le_trans{f g h:Inj}(a:f.le g)(b:g.le h):f.le h:=λx e c=>b x e (a x e c)
def Inj.add(f:Inj)(b:Nat)(e:Emb):Inj:=λx=>if x=b then some e else f x
theorem Inj.aF{f:Inj}{e}(h:f b=none):f.le (f.add b e):=λx y c=>by grind[Inj.add]
theorem Inj.add_same{f:Inj}{e}:f.add b e b=some e:=by simp[Inj.add]
theorem Inj.zI{f:Inj}{e}(h:x≠b):f.add b e x=f x:=by grind[Inj.add]
inductive qK(P:T')(f:Inj):P'->P'->Prop|any(v:P'):qK P f unk v|undef:qK P f undef undef|base(v:P')(h:yY v=true):qK P f v v|ptr{b o:Nat}{e:Emb}(h:f b=some e):qK P f (.pointer (some ⟨b,o,none⟩)) (.pointer (some ⟨e.r,o+e.shift,none⟩))|sl{b o len cap:Nat}{e:Emb}(h:f b=some e):qK P f (.slice (some ⟨b,o,none⟩) len cap) (.slice (some ⟨e.r,o+e.shift,none⟩) len cap)|room{b o el len cap z6:Nat}{e:Emb}(h:f b=some e)(hc:cap<=z6)(hn:o+e.shift+z6*P.cellsOf el<=e.N):qK P f (.slice (some ⟨b,o,some el⟩) len cap) (.slice (some ⟨e.r,o+e.shift,none⟩) len z6)|wR{b o o' el z6:Nat}{e:Emb}(h:f b=some e)(hs:e.shift<=o')(hn:o'+z6*P.cellsOf el<=e.N):qK P f (.slice (some ⟨b,o,some el⟩) 0 0) (.slice (some ⟨e.r,o',none⟩) 0 z6)|gh{b:Nat}{a':Addr}{e:Emb}(h:f b=some e)(hg:e.N<e.shift):qK P f (.slice (some ⟨b,0,none⟩) 0 0) (.slice (some a') 0 0)|map{b:Nat}{e:Emb}(h:f b=some e):qK P f (.map (some b)) (.map (some e.r))|func{g:C'}{a a' c c':Array P'}(ha:a.size=a'.size)(hc:c.size=c'.size)(Pb:∀(i:Nat)v v',a[i]?=some v->a'[i]?=some v'->qK P f v v')(Pc:∀(i:Nat)v v',c[i]?=some v->c'[i]?=some v'->qK P f v v'):qK P f (.func (.func g) a c) (.func (.func g) a' c')|yield{l:Nat}{e:Emb}(h:f l=some e):qK P f (.func (.yield l) #[] #[]) (.func (.yield e.r) #[] #[])|iface{t:B'}{v v':P'}(h:qK P f v v'):qK P f (.iface t v) (.iface t v')|agg{a a':Array P'}(ha:a.size=a'.size)(Pb:∀(i:Nat)v v',a[i]?=some v->a'[i]?=some v'->qK P f v v'):qK P f (.agg a) (.agg a')|tuple{a a':Array P'}(ha:a.size=a'.size)(Pb:∀(i:Nat)v v',a[i]?=some v->a'[i]?=some v'->qK P f v v'):qK P f (.tuple a) (.tuple a')
theorem qK.mono{f g}(h:qK P f v v')(c:f.le g):qK P g v v':=by induction h with|any v=>exact .any v|undef=>exact .undef|base v h=>exact .base v h|ptr h=>exact .ptr (c _ _ h)|sl h=>exact .sl (c _ _ h)|room h j i=>exact .room (c _ _ h) j i|wR h s i=>exact .wR (c _ _ h) s i|gh h n=>exact .gh (c _ _ h) n|map h=>exact .map (c _ _ h)|func e j _ _ q k=>exact .func e j q k|yield h=>exact .yield (c _ _ h)|iface _ d=>exact .iface d|agg e _ d=>exact .agg e d|tuple e _ d=>exact .tuple e d
def qM(P f)(l l':List P'):=l.length=l'.length/\∀(i:Nat)v v',l[i]?=some v->l'[i]?=some v'->qK P f v v'
theorem qM.nil{f}:qM P f [] []:=⟨rfl,λi v v' h=>by grind⟩
theorem qM.cons{f}(h:qK P f v v')(t:qM P f l l'):qM P f (v::l) (v'::l'):=⟨by simp[t.1],λi u d e c=>by cases i with|zero=>grind|succ i=>exact t.2 i u d (by grind) (by grind)⟩
theorem qM.qa{f}(h:qM P f (v::l) m):∃v' l',m=v'::l'/\qK P f v v'/\qM P f l l':=by cases m with|nil=>grind[qM]|cons v' l'=>exact⟨v',l',rfl,h.2 0 v v' rfl rfl,by have:=h.1;grind,λi u d e c=>h.2 (i+1) u d (by grind) (by grind)⟩
theorem qM.zP{f}(h:qM P f [] m):m=[]:=by grind[qM]
theorem qM.mono{P f g l l'}(h:qM P f l l')(c:f.le g):qM P g l l':=⟨h.1,λi v v' a b=>(h.2 i v v' a b).mono c⟩
theorem qM.get{f}(h:qM P f l l'){i:Nat}(e:l[i]?=some v):∃v',l'[i]?=some v'/\qK P f v v':=by have d:=(qKE.1 e).1;have c:=h.1▸d;exact⟨l'[i],qJe c,h.2 i v _ e (qJe c)⟩
theorem qM.append{f c}(h:qM P f l l')(k:qM P f m c):qM P f (l++m) (l'++c):=by induction l generalizing l' with|nil=>rw[h.zP];exact k|cons v l d=>obtain⟨v',i,rfl,e,g⟩:=h.qa;exact .cons e (d g)
theorem qM.take{f}(h:qM P f l l')(n):qM P f (l.take n) (l'.take n):=by induction n generalizing l l' with|zero=>grind[qM.nil]|succ n c=>cases l with|nil=>rw[h.zP];grind[qM.nil]|cons v l=>obtain⟨v',d,rfl,e,g⟩:=h.qa;grind[qM.cons]
theorem qM.drop{f}(h:qM P f l l')(n):qM P f (l.drop n) (l'.drop n):=by induction n generalizing l l' with|zero=>grind|succ n c=>cases l with|nil=>rw[h.zP];grind[qM.nil]|cons v l=>obtain⟨v',d,rfl,e,g⟩:=h.qa;grind
theorem qM.set{f}(h:qM P f l l')(i:qK P f v v')(n):qM P f (l.set n v) (l'.set n v'):=by induction n generalizing l l' with|_=>cases l with|nil=>rw[h.zP];grind[qM.nil]|cons u l=>obtain⟨g,d,rfl,e,c⟩:=h.qa;grind[qM.cons]
theorem Ke:zt (v::l)=(yY v&&zt l):=aq _ _ _
theorem gp{l}:zt l=true↔∀v∈l,yY v=true:=jC
theorem qM.wS{f}(h:zt l=true):qM P f l l:=by induction l with|nil=>exact .nil|cons v l c=>rw[Ke,qJa]at h;exact .cons (.base v h.1) (c h.2)
theorem AF(n):∀v,xg n v=true->xg (n+1) v=true:=by induction n with|zero=>intro v h;exact absurd h (by show¬(false=true);simp)|succ n g=>intro v h;have e:∀(l),zG (xg n) l=true->zG (xg (n+1)) l=true:=λl j=>jC.2 λa i=>g a (jC.1 j a i);(cases v<;>first|exact h|skip);(case func f d c=>have k:(sj f&&(zG (xg n) d.toList&&zG (xg n) c.toList))=true:=h;show(sj f&&(zG (xg (n+1)) d.toList&&zG (xg (n+1)) c.toList))=true;grind);(case iface t v=>exact g v h);case agg p=>exact e _ h
theorem qK.qD2{f}(h:qK P f v v'):∀n,xg n v=true->v'=v:=by induction h with|undef=>grind|base v _=>grind|@func g a a' c z k y j w p A=>intro n e;(cases n with|zero=>exact absurd e (by show¬(false=true);simp)|succ n=>have d:(sj (.func g)&&(zG (xg n) a.toList&&zG (xg n) c.toList))=true:=e;simp[jC]at d;have q:=Array.ext k.symm λi t s=>p i a[i] a'[i] (by grind) (by grind) n (d.2.1 _ (by simp));have B:=Array.ext y.symm λi t s=>A i c[i] z[i] (by grind) (by grind) n (d.2.2 _ (by simp));grind)|yield _=>intro n e;(cases n with|zero=>exact absurd e (by show¬(false=true);simp)|succ n=>have d:=e;cases d)|iface _ u=>intro n e;(cases n with|zero=>exact absurd e (by show¬(false=true);simp)|succ n=>rw[u n e])|@agg a a' k j p=>intro n e;(cases n with|zero=>exact absurd e (by show¬(false=true);simp)|succ n=>have d:zG (xg n) a.toList=true:=e;simp[jC]at d;have q:=Array.ext k.symm λi t s=>p i a[i] a'[i] (by grind) (by grind) n (d _ (by simp));rw[q])|_=>intro n e;cases n<;>exact absurd e (by show¬(false=true);simp)
theorem qK.plain{f}(h:qK P f v v')(c:yY v=true):v'=v:=h.qD2 3 c
theorem qM.plain{P f l l'}(h:qM P f l l')(c:zt l=true):l'=l:=by induction l generalizing l' with|nil=>exact h.zP|cons v l g=>obtain⟨v',i,rfl,e,d⟩:=h.qa;rw[Ke,qJa]at c;rw[e.plain c.1,g d c.2]
theorem BZ(h:yY (.agg a)=true):zt a.toList=true:=by have d:=h;exact gp.2 λv c=>AF 2 v (jC.1 d v c)
theorem qK.qD3{f}(h:qK P f (.agg a) v'):∃a',v'=.agg a'/\qM P f a.toList a'.toList:=by cases h with|base _ d=>exact⟨a,rfl,.wS (BZ d)⟩|agg e c=>exact⟨_,rfl,by grind,λi v v' g j=>c i v v' (by grind) (by grind)⟩
theorem qK.XN{f}(h:qM P f a.toList a'.toList):qK P f (.agg a) (.agg a'):=.agg (by simpa using h.1) λi v v' c d=>h.2 i v v' (by grind) (by grind)
theorem qK.XO{f}(h:qM P f a.toList a'.toList):qK P f (.tuple a) (.tuple a'):=.tuple (by simpa using h.1) λi v v' c d=>h.2 i v v' (by grind) (by grind)
theorem qK.cells{P f v v'}(h:qK P f v v')(j:xO v=true):qM P f v.cells.toList v'.cells.toList:=by cases h with|any v=>grind[unk,xO]|undef=>grind[Go.undef,xO]|base v g=>(cases v<;>first|(exact .cons (.base _ g) .nil)|exact .wS (BZ g)|grind)|ptr h=>exact .cons (.ptr h) .nil|sl h=>exact .cons (.sl h) .nil|room h a b=>exact .cons (.room h a b) .nil|wR h a b=>exact .cons (.wR h a b) .nil|gh h a=>exact .cons (.gh h a) .nil|map h=>exact .cons (.map h) .nil|func a b c d=>exact .cons (.func a b c d) .nil|yield h=>exact .cons (.yield h) .nil|iface h=>exact .cons (.iface h) .nil|agg p e=>exact⟨by grind[Value.cells],λi v v' n k=>e i v v' (by grind[Value.cells]) (by grind[Value.cells])⟩|tuple _ _=>grind[xO]
def live:Obj->Bool|.pending _ _=>false|_=>true
def Yx(g:Nat):List (Nat×Nat)->Option Nat|[]=>none|(k,n)::l=>cond (Nat.beq k g) (some n) (Yx g l)
def Ym(g N:Nat):Bool:=match Yx g UY with|some n=>Nat.beq N n|none=>true
def sX(g):=(Yx g UY).getD 0
theorem qCM(g):Ym g (sX g)=true:=by unfold Ym sX;cases Yx g UY with|none=>rfl|some n=>simp_all
def zQ(f:Inj)(g:Nat):Bool:=match f g with|some e=>decide (e.r=g)&&(decide (e.shift=0)&&Ym g e.N)|none=>false
theorem QW{f g}:zQ f g=true↔∃e,f g=some e/\e.r=g/\e.shift=0/\Ym g e.N=true:=by grind[zQ]
theorem j4{f c}(d:f.le c)(g)(h:zQ f g=true):zQ c g=true:=by rw[QW]at h⊢;have⟨e,j,i⟩:=h;exact⟨e,d _ _ j,i⟩
theorem dO(h:∀g,G g=true->G' g=true){x}(c:yH G x=true):yH G' x=true:=by cases x<;>first|exact c|exact h _ c
theorem ah(h:∀g,G g=true->G' g=true){c}(d:yZ G c=true):yZ G' c=true:=by grind[yZ,dO]
theorem xN{G G'}(h:∀g,G g=true->G' g=true):∀(c b),codeOk G b c=true->codeOk G' b c=true|.skip,_,_=>rfl|.label _,_,_=>rfl|.ret,_,_=>rfl|.exit _,_,_=>rfl|.goto _,_,_=>rfl|.refuse _,_,_=>rfl|.seq x y,b,d=>by simp[codeOk]at d⊢;exact⟨xN h x b d.1,xN h y b d.2⟩|.cond v x y,b,d=>by simp[codeOk]at d⊢;exact⟨dO h d.1,xN h x b d.2.1,xN h y b d.2.2⟩|.block _ x,b,d=>by exact xN h x b d|.loop x,b,d=>by exact xN h x b d|.scope x,b,d=>by exact xN h x b d|.region _ f e,b,d=>by grind[codeOk,ah]|.rangeFunc v _ x y,b,d=>by simp only[codeOk,qJa]at d⊢;exact⟨d.1,dO h d.2.1,xN h x true d.2.2.1,xN h y true d.2.2.2⟩
def xW(P:T')(f:Inj)(e:Emb)(o:Obj)(y:Option Obj):Prop:=match o with|.cells c J D=>∃w z t,y=some (.cells w z t)/\w.size=e.N/\e.shift+c.size<=w.size/\(∀(i:Nat)v,c[i]?=some v->∃v',w[e.shift+i]?=some v'/\qK P f v v')/\(vT D=true->e.ro=false/\z=J/\∀j,j<w.size->¬(t.1<=j/\j<t.2))/\(D=(0,0)->e.shift=0/\c.size=w.size)|.pending _ _=>True|.map I C=>e.ro=false/\∃u,y=some (.map u C)/\u.size=I.size/\∀(i:Nat)x,I[i]?=some x->∃B,u[i]?=some B/\B.key=x.key/\B.born=x.born/\qK P f x.val B.val|.stringIter s p=>e.ro=false/\e.shift=0/\y=some (.stringIter s p)|.mapIter (some m) k seen A=>e.ro=false/\e.shift=0/\∃E d g,f m=some E/\y=some (.mapIter (some E.r) k d g)/\(∀x,x∈d↔x∈seen.toList)/\(∀n,A=n+1->d.back?=some n)/\(d.isEmpty=false->g=k)/\(∀x,x∈d->x<k)|.loop q=>e.ro=false/\∃h,y=some (.loop h)/\h.state=q.state/\h.pending=q.pending/\h.params=q.params/\h.assign=q.assign/\h.body=q.body/\qM P f q.tmps.toList h.tmps.toList/\codeOk (zQ f) true q.assign=true/\codeOk (zQ f) true q.body=true/\(∀c,q.pending=some c->r7 c=true)/\e.shift=0|_=>False
theorem xW.mono{P f g e o L}(h:xW P f e o L)(t:f.le g):xW P g e o L:=by cases o<;>simp only[xW]at h⊢;(case cells c Z Y=>have⟨N,C,B,n,q,j,y,w,E⟩:=h;exact⟨N,C,B,n,q,j,λi v W=>let⟨v',a,b⟩:=y i v W;⟨v',a,b.mono t⟩,w,E⟩);(case map es S=>have⟨u,J,n,q,j⟩:=h;exact⟨u,J,n,q,λi x V=>let⟨X,a,b,c,d⟩:=j i x V;⟨X,a,b,c,d.mono t⟩⟩);(case stringIter s p=>exact h);(case mapIter m D seen K=>cases m with|none=>grind|some m=>have⟨u,z,R,k,U,n,q,j⟩:=h;exact⟨u,z,R,k,U,t _ _ n,q,j⟩);case loop lp=>have⟨u,A,n,q,j,y,w,E,Q,M,O,I⟩:=h;exact⟨u,A,n,q,j,y,w,E,Q.mono t,xN (j4 t) _ _ M,xN (j4 t) _ _ O,I⟩
structure Rel(P:T')(f:Inj)(H:IH)(w:J'):Prop where
 dom:∀b e,f b=some e->b<H.size
 fresh:∀b,H.size<=b->H.get b=none
 bound:∀b e,f b=some e->e.r<w.heap.size
 obj:∀b e o,f b=some e->H.get b=some o->xW P f e o w.heap[e.r]?
 sep:∀b1 b2 e1 e2 o1 o2,b1≠b2->f b1=some e1->f b2=some e2->H.get b1=some o1->H.get b2=some o2->live o1=true->live o2=true->e1.r=e2.r->e1.ro=true/\e2.ro=true
 jW:∀b1 b2 e1 e2,f b1=some e1->f b2=some e2->e1.r=e2.r->e1.ro=e2.ro
def Own(f:Inj)(r):=∃b e,f b=some e/\e.r=r/\e.ro=false
def jv(w:J')(r:Nat):=∃c,w.heap[r]?=some (.loop c)
structure Grow(f:Inj)(H:IH)(w:J')(f':Inj)(H':IH)(w':J'):Prop where
 ku:H.size<=H'.size
 stay:∀b,b<H.size->f b=none->f' b=none
 le:f.le f'
 size:w.heap.size<=w'.heap.size
 keep:∀r,r<w.heap.size->¬Own f r->¬Own f' r/\w'.heap[r]?=w.heap[r]?
 un:∀r,r<w.heap.size->(∀b e,f b=some e->e.r≠r)->∀b e,f' b=some e->e.r≠r
 out:w'.os=w.os/\w'.output=w.output/\w'.tape=w.tape
 lps:∀r,jv w r->jv w' r
theorem Grow.refl(f H w):Grow f H w f H w:=⟨qJb _,λ_ _ h=>h,f.le_refl,qJb _,λ_ _ h=>⟨h,rfl⟩,λ_ _ h=>h,⟨rfl,rfl,rfl⟩,λ_ h=>h⟩
theorem Grow.trans{f j e H g n w i d}(a:Grow f H w j g i)(b:Grow j g i e n d):Grow f H w e n d:=⟨qJy a.ku b.ku,λx k t=>b.stay x (qJf k a.ku) (a.stay x k t),Inj.le_trans a.le b.le,qJy a.size b.size,λr c q=>by have⟨p,z⟩:=a.keep r c q;have⟨y,u⟩:=b.keep r (qJf c a.size) p;grind,λr c s=>b.un r (qJf c a.size) (a.un r c s),⟨b.out.1.trans a.out.1,b.out.2.1.trans a.out.2.1,b.out.2.2.trans a.out.2.2⟩,λr h=>b.lps r (a.lps r h)⟩
def Keep(f:Inj)(H c:IH):=H.size<=c.size/\∀b,b<H.size->f b=none->c.get b=H.get b
theorem Keep.refl(f H):Keep f H H:=⟨qJb _,λ_ _ _=>rfl⟩
theorem IH.get_put:(H.put b o).get x=if x=b then some o else H.get x:=by simp[IH.get,IH.put,Tr.s_]
theorem IH.y8:(H.push o).get x=if x=H.size then some o else H.get x:=by simp[IH.get,IH.push,Tr.s_]
@[simp]theorem IH.size_put{H:IH}{b o}:(H.put b o).size=H.size:=rfl
@[simp]theorem IH.size_push{H:IH}{o}:(H.push o).size=H.size+1:=rfl
theorem Keep.put{f e}(h:f b=some e):Keep f H (H.put b o):=⟨qJb _,λx _ c=>by grind[IH.get_put]⟩
theorem Keep.push{f}:Keep f H (H.push o):=⟨by simp,λx c _=>by rw[IH.y8,if_neg (by omega)]⟩
def World.put(w:J')(r o):={w with heap:=w.heap.setIfInBounds r o}
theorem heap_put{w}(h:r<w.heap.size):(World.put w r o).heap[x]?=if x=r then some o else w.heap[x]?:=by grind[World.put]
theorem heap_alloc{w:J'}:(w.alloc o).heap[x]?=if x=w.heap.size then some o else w.heap[x]?:=by show(w.heap.push o)[x]?=_;grind
structure ve(rd:Bool)(F:Fence)(w:J'):Prop where
 eq:rd=F.round.isSome
 lp:∀l,F.round=some l->jv w l
theorem ve.mono{c w d}(h:ve c F w)(f:∀r,jv w r->jv d r):ve c F d:=⟨h.eq,λl e=>f l (h.lp l e)⟩
theorem ve.none{w}(h:F.round=.none):ve false F w:=⟨by grind,λl e=>by grind⟩
theorem jv.lt{w}(h:jv w r):r<w.heap.size:=by have⟨c,h⟩:=h;grind
theorem jv.alloc{w}(o)(h:jv w r):jv (w.alloc o) r:=by have:=h.lt;have⟨c,h⟩:=h;exact⟨c,by rw[heap_alloc,if_neg (by omega)];exact h⟩
theorem jv.put{w}(e:w.heap[r0]?=some o)(d:∀c,o≠.loop c)(h:jv w r):jv (World.put w r0 o') r:=by have⟨c,h⟩:=h;refine⟨c,?_⟩;show(w.heap.setIfInBounds r0 o')[r]?=_;grind
theorem Rel.push{f w e}(h:Rel P f H w)(D:e.r=w.heap.size)(Q:xW P (f.add H.size e) e o (some o')):Rel P (f.add H.size e) (H.push o) (w.alloc o')/\Grow f H w (f.add H.size e) (H.push o) (w.alloc o'):=by(have j:f H.size=none:=by cases O:f H.size with|none=>rfl|some y=>have:=h.dom _ _ O;omega);have n:f.le (f.add H.size e):=Inj.aF j;(have E:∀b y,f b=some y->y.r≠w.heap.size:=λb y c=>by have:=h.bound b y c;omega);refine⟨⟨?_,?_,?_,?_,?_,?_⟩,⟨by simp,(λb c U=>by grind[Inj.zI]),n,by simp,?_,?_,⟨rfl,rfl,rfl⟩,λr h=>h.alloc _⟩⟩;{intro b y c;by_cases d:b=H.size;{subst d;simp};rw[Inj.zI d]at c;have:=h.dom b y c;simp;omega};{intro b c;simp only[IH.size_push]at c;rw[IH.y8,if_neg (by omega)];exact h.fresh b (by omega)};{intro b y c;by_cases d:b=H.size;{subst d;rw[Inj.add_same]at c;simp_all};rw[Inj.zI d]at c;have:=h.bound b y c;simp;omega};{intro b y L c g;by_cases d:b=H.size;{subst d;rw[Inj.add_same]at c;cases c;rw[IH.y8,if_pos rfl]at g;cases g;rw[heap_alloc,if_pos D];exact Q};rw[Inj.zI d]at c;rw[IH.y8,if_neg d]at g;rw[heap_alloc,if_neg (E b y c)];exact(h.obj b y L c g).mono n};{intro p s d B S N t i k K J R M u;by_cases q:p=H.size;{subst q;rw[Inj.add_same]at i;cases i;rw[Inj.zI (Ne.symm t)]at k;grind};rw[Inj.zI q]at i;by_cases z:s=H.size;{grind[Inj.add_same,absurd]};rw[Inj.zI z]at k;rw[IH.y8,if_neg q]at K;rw[IH.y8,if_neg z]at J;exact h.sep p s d B S N t i k K J R M u};{intro p s d B i k u;by_cases q:p=H.size;{grind[Inj.add_same,Inj.zI,absurd]};rw[Inj.zI q]at i;by_cases z:s=H.size;{grind[Inj.add_same,absurd]};rw[Inj.zI z]at k;exact h.jW p s d B i k u};{intro r u I;refine⟨?_,by rw[heap_alloc,if_neg (by omega)]⟩;rintro⟨b,y,c,C,A⟩;by_cases d:b=H.size;{grind[Inj.add_same]};rw[Inj.zI d]at c;exact I ⟨b,y,c,C,A⟩};grind[Inj.add_same,Inj.zI]
theorem xW.qD4{f e c}(h:xW P f e o (some (.loop c)))(d:live o=true):∃c,o=.loop c:=by cases o<;>simp only[xW]at h;(case cells=>grind);(case map=>grind);(case stringIter=>grind);(case mapIter m _ _ _=>grind);(case loop c=>grind);case pending=>cases d
theorem Rel.put{P f H w w' o o1 ct b e}(h:Rel P f H w)(i:f b=some e)(B:H.get b=some o)(c:live o=true)(N:e.ro=false)(Z:xW P f e o1 (some ct))(W:∀x,w'.heap[x]?=if x=e.r then some ct else w.heap[x]?)(K:w'.heap.size=w.heap.size)(n:w'.os=w.os/\w'.output=w.output/\w'.tape=w.tape:=by exact⟨rfl,rfl,rfl⟩)(M:(∃t,o=.loop t)->∃t,ct=.loop t:=by first|exact λ_=>⟨_,rfl⟩|(rintro⟨_,h⟩;cases h)):Rel P f (H.put b o1) w'/\Grow f H w f (H.put b o1) w'/\Keep f H (H.put b o1):=by refine⟨⟨h.dom,?_,?_,?_,?_,h.jW⟩,⟨qJb _,λ_ _ h=>h,f.le_refl,by omega,?_,λ_ _ h=>h,n,λr Y=>?_⟩,Keep.put i⟩;{intro x k;rw[IH.get_put,if_neg];{exact h.fresh x k};intro d;have:=h.dom _ _ i;simp at k;omega};{intro x y k;rw[K];exact h.bound x y k};{intro x y A k j;rw[W];by_cases d:x=b;{grind[IH.get_put]};rw[IH.get_put,if_neg d]at j;by_cases q:y.r=e.r;{by_cases s:live A=true;{have:=h.sep x b y e A o d k i j B s c q;grind};cases A<;>simp[live]at s;simp[xW]};rw[if_neg q];exact h.obj x y A k j};{intro E C d q ct z g D I J u X R L;rw[IH.get_put]at J u;by_cases V:E=b;{subst V;rw[i]at D;cases D;rw[if_neg (Ne.symm g)]at u;exact h.sep E C e q o z g i I B u c R L};rw[if_neg V]at J;by_cases S:C=b;{subst S;rw[i]at I;cases I;exact h.sep E C d e ct o g D i J B X c L};rw[if_neg S]at u;exact h.sep E C d q ct z g D I J u X R L};{intro r _ p;refine⟨p,?_⟩;rw[W,if_neg];intro d;exact p ⟨b,e,i,d.symm,N⟩};have⟨t,Q⟩:=Y;by_cases d:r=e.r;{subst d;have⟨O,U⟩:=M (xW.qD4 (Q▸h.obj b e o i B) c);exact⟨O,by grind⟩};exact⟨t,by grind⟩
theorem Rel.kill{f w e}(h:Rel P f H w)(I:f b=some e):Rel P f (H.put b kQ) w:=by refine⟨h.dom,?_,h.bound,?_,?_,h.jW⟩;{intro x d;rw[IH.get_put,if_neg];{exact h.fresh x d};have:=h.dom _ _ I;simp at d;omega};{intro x y A d c;rw[IH.get_put]at c;by_cases j:x=b;{grind[xW,kQ]};rw[if_neg j]at c;exact h.obj x y A d c};intro p n j z J s i C B k g D t u;rw[IH.get_put]at k g;by_cases E:p=b;{grind[live,kQ]};by_cases q:n=b;{grind[live,kQ]};rw[if_neg E]at k;rw[if_neg q]at g;exact h.sep p n j z J s i C B k g D t u
theorem Rel.world{f w d}(h:Rel P f H w)(g:d.heap=w.heap):Rel P f H d:=⟨h.dom,h.fresh,λb e c=>by rw[g];exact h.bound b e c,λb e o c i=>by rw[g];exact h.obj b e o c i,h.sep,h.jW⟩
theorem Grow.sizes{f c j g d w i}(h:Grow f H w c j i)(e:g.size<=H.size)(n:j.size<=d.size):Grow f g w c d i:=⟨qJy e (qJy h.ku n),λb k p=>h.stay b (qJf k e) p,h.le,h.size,h.keep,h.un,h.out,h.lps⟩
theorem Grow.world{f w d}(e:d.heap=w.heap)(c:d.os=w.os/\d.output=w.output/\d.tape=w.tape:=by exact⟨rfl,rfl,rfl⟩):Grow f H w f H d:=⟨qJb _,λ_ _ h=>h,f.le_refl,by grind,λr _ h=>⟨h,by rw[e]⟩,λ_ _ h=>h,c,λr h=>by grind[jv]⟩
end Go.Idl
