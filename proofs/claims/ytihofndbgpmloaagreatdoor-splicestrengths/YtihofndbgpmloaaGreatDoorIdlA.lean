/- An ideal interpreter of the model's code: its definitions; the relation of an ideal heap and a world. Conditions: none. -/
import Derived.ControlIn
import Derived.Scope
import GoSem.Machine.Frame
import GoSem.Dispatch
import Derived.RangeFuncRecord
import Derived.OrdersIn
set_option linter.all false
namespace Go
def qGj:=@Nat.eq_of_beq_eq_true
def qGk:=@Bool.and_eq_true
def qGl:=@Nat.le_refl
def qGm:=@List.all_eq_true
def qGn:=@Int.mul_le_mul_of_nonneg_left
def qGo:=@Nat.lt_of_lt_of_le
def qGp:=@List.getElem?_eq_getElem
def qGq:=@Nat.le_of_ble_eq_true
def qGr:=@Int.le_of_lt
def qGs:=@List.mem_cons_of_mem
def qGt:=@Int.mul_le_mul_of_nonneg_right
def qGu:=@Nat.ble_eq_true_of_le
def qGv:=@List.mem_cons_self
def qGw:=@Int.mul_ediv_add_emod
def qGx:=@Option.map_eq_some_iff
def qGy:=@List.getD_eq_getElem?_getD
def qGz:=@List.length_map
def qG_:=@Int.emod_lt_of_pos
def qHA:=@Array.getElem?_eq_getElem
def qHB:=@List.append_assoc
def qHC:=@List.take_of_length_le
def qHD:=@Int.emod_nonneg
def qHE:=@Nat.le_trans
def qHF:=@List.length_eq_zero_iff
def qHG:=@Array.getElem?_eq_some_iff
def qHH:=@Int.pow_succ
def qHI:=@Int.tdiv_eq_ediv_of_nonneg
def qHJ:=@Bool.not_eq_true'
def qHK:=@List.length_append
def qHL:=@Nat.lt_succ_self
def qHM:=@Array.getD_eq_getD_getElem?
def qHN:=@Option.isSome_iff_exists
def qHO:=@List.length_take
def qHP:=@Int.mul_comm
def qHQ:=@List.map_cons
def qHR:=@Int.le_refl
def qHS:=@Option.some.inj
def qHT:=@Int.mul_nonneg
def qHU:=@List.mem_map
def qHV:=@List.getElem?_eq_some_iff
def qHW:=@Int.pow_pos
def qHX:=@List.mem_cons
def qHY:=@Int.ediv_nonneg
def qHZ:=@Int.pow_add
def qH0:=@Bool.and_self
def qH1:=@List.append_nil
def qH2:=@Option.some.injEq
def qH3:=@Int.ediv_lt_of_lt_mul
def qH4:=@List.cons.injEq
def qH5:=@Option.map_some
def qH6:=@List.flatMap_cons
def qH7:=@Nat.mul_le_mul_right
def qH8:=@Int.ediv_emod_unique
def qH9:=@List.drop_zero
def qHa:=@Nat.min_eq_left
def qHb:=@List.all_cons
def qHc:=@Int.tmod_eq_emod_of_nonneg
def qHd:=@List.ext_getElem?
def qHe:=@List.getElem?_set
def qHf:=@List.mem_of_getElem?
def qHg:=@Nat.pow_le_pow_right
def qHh:=@List.drop_eq_nil_of_le
def qHi:=@List.drop_drop
def qHj:=@Nat.zero_add
def qHk:=@Option.bind_some
def qHl:=@List.length_pos_iff
def qHm:=@Int.mul_lt_mul_of_pos_right
def qHn:=@List.getElem?_map
def qHo:=@Int.mul_le_mul
def qHp:=@List.map_append
def qHq:=@Nat.lt_succ_of_lt
def qHr:=@List.set_eq_take_append_cons_drop
def qHs:=@Option.bind_eq_some_iff
def qHt:=@Int.eq_ofNat_of_zero_le
def qHu:=@List.take_length
def qHv:=@Array.mem_def
def qHw:=@List.getElem?_append_right
def qHx:=@List.exists_cons_of_ne_nil
def qHy:=@Nat.zero_le
def qHz:=@Array.length_toList
def qH_:=@Int.natCast_mul
def qIA:=@Bool.or_eq_true
def qIB:=@Option.getD_some
def qIC:=@List.length_drop
def qID:=@List.mem_append_left
def qIE:=@List.getElem?_cons_zero
def qIF:=@List.getElem?_replicate
def qIG:=@List.mem_append
def qIH:=@Int.add_mul
def qII:=@Int.ediv_le_self
def qIJ:=@List.mem_append_right
def qIK:=@List.getElem?_append_left
def qIL:=@Int.lt_of_mul_lt_mul_left
def qIM:=@List.mem_of_mem_drop
def qIN:=@List.mem_of_mem_take
def qIO:=@Int.mul_assoc
def qIP:=@Int.toNat_of_nonneg
def qIQ:=@List.map_congr_left
def qIR:=@List.take_succ_cons
def qIS:=@List.getElem_mem
def qIT:=@List.length_cons
def qIU:=@List.isEmpty_iff
def qIV:=@Int.natCast_ediv
def qIW:=@Array.foldl_toList
def qIX:=@List.map_map
def qIY:=@List.mem_filterMap
def qIZ:=@Nat.add_assoc
def qI0:=@List.drop_eq_getElem_cons
def qI1:=@List.getElem?_set_ne
def qI2:=@Nat.not_lt
def qI3:=@Nat.add_mul
def qI4:=@List.take_left
def qI5:=@Int.natAbs_mul
def qI6:=@Nat.add_zero
def qI7:=@List.replicate_succ
def qI8:=@List.mk_mem_zipIdx_iff_getElem?
def qI9:=@List.foldl_cons
def qIa:=@Bool.false_eq_true
def qIb:=@List.length_set
def qIc:=@Int.not_lt
def qId:=@Nat.eq_zero_or_pos
def qIe:=@Bool.not_eq_false'
def qIf:=@List.getElem?_set_self
def qIg:=@List.eq_nil_of_length_eq_zero
def qIh:=@Int.emod_eq_of_lt
def qIi:=@Int.toNat_natCast
def qIj:=@List.getElem?_toArray
def qIk:=@List.mem_range
def qIl:=@Int.mul_ediv_mul_of_pos_left
def qIm:=@Int.gcd_pos_of_ne_zero_right
def qIn:=@List.mem_iff_getElem
def qIo:=@Array.mem_append
def qIp:=@List.cons_append
def qIq:=@Array.size_replicate
def qIr:=@Array.toList_setIfInBounds
def qIs:=@Bool.and_true
def qIt:=@Nat.lt_irrefl
def qIu:=@List.map_take
def qIv:=@Int.add_mul_emod_self_left
def qIw:=@Nat.le_succ
def qIx:=@List.flatMap_append
def qIy:=@Nat.add_comm
def qIz:=@Nat.zero_mul
def qI_:=@Bool.false_ne_true
def qJA:=@Int.mul_ediv_cancel_left
def qJB:=@Array.ext'
def qJC:=@List.take_take
def qJD:=@Int.not_le
def qJE:=@Nat.add_sub_cancel_left
def qJF:=@Int.mul_emod_mul_of_pos
def qJG:=@List.drop_of_length_le
def qJH:=@Int.mul_pos
def qJI:=@List.map_drop
def qJJ:=@Array.toList_map
def qJK:=@List.mem_flatten
def qJL:=@Array.all_eq_true_iff_forall_mem
def qJM:=@List.take_succ_eq_append_getElem
def qJN:=@List.countP_le_length
def qJO:=@Array.getElem?_toList
def qJP:=@List.take_append_drop
def qJQ:=@List.getElem?_eq_none
def qJR:=@Nat.div_lt_iff_lt_mul
def qJS:=@Nat.sub_self
def qJT:=@List.map_nil
def qJU:=@Nat.succ_mul
def qJV:=@Nat.div_le_self
def qJW:=@Int.mul_ne_zero
def qJX:=@List.countP_eq_zero
def qJY:=@List.filterMap_cons
def qJZ:=@Int.mul_neg
def qJ0:=@Int.one_mul
def qJ1:=@List.getElem?_take
def qJ2:=@List.getElem?_drop
def qJ3:=@Option.isSome_none
def qJ4:=@Int.natAbs_natCast
def qJ5:=@Bool.true_and
def qJ6:=@Bool.or_false
def qJ7:=@List.size_toArray
end Go
namespace Go.Idl
abbrev P':=Value
abbrev T':=Program
abbrev B':=TypeId
abbrev C':=FuncId
abbrev I':=Oper
abbrev J':=World
abbrev K':=Operand
abbrev L':=IntKind
open Go
variable{c:Code}
section
variable{F:Fence}{n:Nat}{P:T'}{b:Frame}{a:Act}{k:List Item}{cs:List Frame}{w:J'}{Q:Exit->Act->J'->Prop}
theorem sa:step P (lone (b.atR a (.code (.scope c)::k)) cs w)=.next (lone (b.atR a (.code c::.inScope c::k)) cs w):=step_lone_go (by simp[stepG,stepG.exec,Frame.atR])
theorem O8:step P (lone (b.atR a (.inScope c::k)) cs w)=.next (lone (b.atR a k) cs w):=step_lone_go (by simp[stepG,stepG.exec,Frame.atR])
theorem H7(h:c.wpIn F n P (Exit.noGoto Q) a w):(Code.scope c).wpIn F n P Q a w:=by intro b k cs j i o;have g:(lone (b.atR a (.code (.scope c)::k)) cs w).fenced P F:=fenced_calm i o rfl;have⟨e,a₁,w₁,f,d⟩:=h b (.inScope c::k) cs j i o;cases e with|normal=>exact⟨.normal,a₁,w₁,f,.head g sa (StepsIn.trans d (.one (fenced_calm i o rfl) O8))⟩|exit id=>(have t:exitTo id (.inScope c::k)=exitTo id k:=by simp[exitTo]);exact⟨.exit id,a₁,w₁,f,λr p=>.head g sa (d.1 r (by grind)),λm p=>let⟨k₁,q,s⟩:=d.2 m (by grind);⟨k₁,q,.head g sa s⟩⟩|goto l=>exact f.elim|_=>exact⟨_,a₁,w₁,f,.of_steps (.one g sa) d⟩
end
end Go.Idl
namespace Go.Idl
def Vy:=[(3,20)]
noncomputable section
inductive Tr(α:Type):Type where|nil:Tr α|node(v:Option α)(l r:Tr α):Tr α
namespace Tr
variable{α:Type}
def get(t:Tr α):Nat->Option α:=Tr.rec (λ_=>none) (λv _ _ b a n=>Nat.casesOn n v λm=>cond (Nat.beq (m%2) 0) (b (m/2)) (a (m/2))) t
theorem get_nil(n):(Tr.nil:Tr α).get n=none:=rfl
theorem ep(v)(l r:Tr α):(Tr.node v l r).get 0=v:=rfl
theorem mD(v)(l r:Tr α)(n):(Tr.node v l r).get (n+1)=if n%2=0 then l.get (n/2)else r.get (n/2):=by show cond (Nat.beq (n%2) 0) (l.get (n/2)) (r.get (n/2))=_;simp_all
def je(f:Nat):Tr α->Nat->α->Tr α:=Nat.rec (λt _ _=>t) (λ_ b t n a=>Tr.casesOn t (Nat.casesOn n (.node (some a) .nil .nil) λm=>cond (Nat.beq (m%2) 0) (.node none (b .nil (m/2) a) .nil) (.node none .nil (b .nil (m/2) a))) (λv l r=>Nat.casesOn n (.node (some a) l r) λm=>cond (Nat.beq (m%2) 0) (.node v (b l (m/2) a) r) (.node v l (b r (m/2) a)))) f
theorem O5(f)(a:α):je (f+1) .nil 0 a=.node (some a) .nil .nil:=rfl
theorem OZ(f v l r)(a:α):je (f+1) (.node v l r) 0 a=.node (some a) l r:=rfl
theorem Hi(f n)(a:α):je (f+1) .nil (n+1) a=if n%2=0 then .node none (je f .nil (n/2) a) .nil else .node none .nil (je f .nil (n/2) a):=by show cond (Nat.beq (n%2) 0) (Tr.node none (je f .nil (n/2) a) .nil) (Tr.node none .nil (je f .nil (n/2) a))=_;simp_all
theorem Hb(f n v l r)(a:α):je (f+1) (.node v l r) (n+1) a=if n%2=0 then .node v (je f l (n/2) a) r else .node v l (je f r (n/2) a):=by show cond (Nat.beq (n%2) 0) (Tr.node v (je f l (n/2) a) r) (Tr.node v l (je f r (n/2) a))=_;simp_all
def set(t n)(a:α):=je (n+1) t n a
theorem lQ(f):∀(t n m)(a:α),n<f->(je f t n a).get m=if m=n then some a else t.get m:=by induction f with|zero=>grind|succ f g=>intro t n m a h;cases t with|nil=>(cases n with|zero=>cases m<;>simp[O5,ep,mD,get_nil]|succ n=>(have c:n/2<f:=by omega);by_cases d:n%2=0;{rw[Hi,if_pos d];cases m with|zero=>simp[ep,get_nil]|succ m=>rw[mD];by_cases b:m%2=0;{rw[if_pos b,g _ _ _ _ c];by_cases e:m=n;{grind};rw[if_neg (by omega),if_neg (by omega),get_nil,get_nil]};rw[if_neg b,if_neg (by omega),get_nil,get_nil]};rw[Hi,if_neg d];cases m with|zero=>simp[ep,get_nil]|succ m=>rw[mD];by_cases b:m%2=0;{rw[if_pos b,if_neg (by omega),get_nil,get_nil]};rw[if_neg b,g _ _ _ _ c];by_cases e:m=n;{grind};rw[if_neg (by omega),if_neg (by omega),get_nil,get_nil])|node v l r=>cases n with|zero=>cases m<;>simp[OZ,ep,mD]|succ n=>by_cases d:n%2=0;{rw[Hb,if_pos d];cases m with|zero=>simp[ep]|succ m=>grind[mD]};rw[Hb,if_neg d];cases m with|zero=>simp[ep]|succ m=>grind[mD]
theorem r6(t:Tr α)(n m a):(t.set n a).get m=if m=n then some a else t.get m:=lQ _ t n m a (qHL n)
end Tr
structure IH where
 tr:Tr Obj
 size:Nat
 base:Nat
 log:List Nat
def kD:Obj:=.pending #[] 0
def IH.get(H:IH)(b):=H.tr.get b
def IH.put(H:IH)(b o):={H with tr:=H.tr.set b o,log:=b::H.log}
def IH.push(H:IH)(o):={H with tr:=H.tr.set H.size o,size:=H.size+1}
def oneCell:P'->Bool|.agg _|.tuple _=>false|_=>true
def vE(a:Nat×Nat):Bool:=a.2<=a.1
def IH.load(H:IH)(b i:Nat):Option P':=match H.get b with|some (.cells c _ _)=>c[i]?|_=>none
def IH.loads(H:IH)(b i n:Nat):Option (List P'):=match H.get b with|some (.cells c _ _)=>if i+n<=c.size then some ((c.toList.drop i).take n)else none|_=>none
def overwrite(l:List P')(i a):=l.take i++a++l.drop (i+a.length)
def IH.stores(H:IH)(b i:Nat)(a:List P'):Option IH:=match H.get b with|some (.cells c e d)=>if i+a.length<=c.size&&vE d&&decide (H.base<=b)&&a.all oneCell then some (H.put b (.cells (overwrite c.toList i a).toArray e d))else none|_=>none
def q_{α:Type}(p:α->Bool)(l:List α):Bool:=List.rec true (λa _ b=>cond (p a) b false) l
theorem lG{α}(p:α->Bool):q_ p []=true:=rfl
theorem aG{α}(p a)(l:List α):q_ p (a::l)=(p a&&q_ p l):=by show cond (p a) (q_ p l) false=_;grind
theorem kg{α p}{l:List α}:q_ p l=true↔∀a∈l,p a=true:=by induction l with|nil=>simp[lG]|cons a l b=>grind[aG]
def qP{α:Type}(l:List α):Nat->Option α:=List.rec (λ_=>none) (λa _ b n=>Nat.casesOn n (some a) λm=>b m) l
theorem qd{α}(l:List α):∀n,qP l n=l[n]?:=by induction l with|nil=>intro n;rfl|cons a l b=>intro n;cases n with|zero=>rfl|succ n=>have:qP (a::l) (n+1)=qP l n:=rfl;grind
def qY{α:Type}(l:List α):Nat->α->List α:=List.rec (λ_ _=>[]) (λa t b n v=>Nat.casesOn n (v::t) λm=>a::b m v) l
theorem z6{α}(l:List α):∀n v,qY l n v=l.set n v:=by induction l with|nil=>intro n v;rfl|cons a l b=>intro n v;cases n with|zero=>rfl|succ n=>have:qY (a::l) (n+1) v=a::qY l n v:=rfl;grind
def qm{α β:Type}(g:α->β)(l:List α):List β:=List.rec [] (λa _ b=>g a::b) l
theorem kR{α β}(g:α->β)(l):qm g l=l.map g:=by induction l with|nil=>rfl|cons a l b=>grind[qm]
def xe{α:Type}(l m:List α):List α:=List.rec m (λa _ b=>a::b) l
theorem gW{α}(l m:List α):xe l m=l++m:=by induction l with|nil=>rfl|cons a l b=>grind[xe]
def rY:Fn->Bool|.func _=>true|_=>false
def xU(n:Nat):P'->Bool:=Nat.rec (λ_=>false) (λ_ e v=>match v with|.bool _|.int _ _|.float _ _|.complex _ _ _|.string _|.nilFunc|.nilIface=>true|.pointer a=>a.isNone|.slice a l c=>a.isNone&&(Nat.beq l 0&&Nat.beq c 0)|.map r|.chan r=>r.isNone|.func f d b=>rY f&&(q_ e d.toList&&q_ e b.toList)|.iface _ v=>e v|.agg g=>q_ e g.toList|.tuple _=>false) n
def xK(v):=xU 3 v
def zo(l):=q_ xK l
def qh{α}(P s):=Sem.rec (motive:=λ_=>Option α) (λa=>some a) (λ_ _ _ _=>none) (λ_ _ _ _ _=>none) (λ_ _ _=>none) (λ_ _ _=>none) (λ_ _ _ _=>none) (λ_ _ _=>none) (λ_ _ _=>none) (λ_ _ _ _=>none) (λq _ b=>cond q.forced (b 0) none) (λ_ _ _=>none) (λ_ b=>b P) (λ_ _ b=>b) (λ_=>none) s
abbrev Env:=List P'
def unk:P':=.tuple #[.tuple #[]]
def Env.val(a:Env):K'->P'|.tmp t=>(qP a t).getD undef|.const v=>v|.global g=>.pointer (some ⟨g,0,none⟩)|.func f=>.func (.func f) #[] #[]
def Env.zS(a:Env)(d:Option Tmp)(v:P'):Env:=match d with|some t=>qY a t v|none=>a
def J1(a:Bool):P'->Option Bool|.bool b=>some (b==a)|.tuple c=>cond c.isEmpty (some false) none|_=>none
def jv(c:Array I')(o:I')(b:Env):=match o.guard with|none=>some true|some (j,a)=>match(c[j]?).bind (·.dst)with
 |some t=>match qP b t with|some v=>J1 a v|none=>none
 |none=>some false
def kJ(P:T')(t:B'):Option Bool:=match P.underlying t with|some (.struct _)|some (.array _ _)=>some true|some _=>some false|none=>none
def xx(P:T')(t):=(P.info? t).bind (·.zero)
def wZ(P:T')(t:B'):Option P':=match xx P t with|some z=>if zo z.cells.toList then some z else none|none=>none
def szT(P:T')(t):=(P.info? t).map (·.size)
inductive qw where|val(v:P')(H:IH)|enter(f:C')(args:List P')(H:IH)|round(l:Nat)(args:List P')(H:IH)|choice(n:Nat)(k:Nat->Option (P'×IH))
def qw.ofO(H:IH):Option P'->Option qw|some v=>some (.val v H)|none=>none
def kh(P:T')(t:B')(a:P')(H:IH):Option P':=match a with
 |.pointer (some ⟨b,i,none⟩)=>match kJ P t with
  |some true=>match szT P t with
   |some n=>match H.loads b i n with|some l=>some (.agg l.toArray)|none=>none
   |none=>none
  |some false=>H.load b i|none=>none
 |_=>none
def uK(P t)(a v:P')(H:IH):=match a with|.pointer (some ⟨b,i,none⟩)=>if szT P t=some v.cells.size then H.stores b i v.cells.toList else none|_=>none
def xG:P'->Bool|.tuple _=>false|_=>true
def p7(P:T')(t:B')(a:List (Nat×P')):Option P':=match wZ P t,P.underlying t with
 |some b,some (.struct c)=>match c.toList.mapM (λf=>(szT P f.type).map λs=>(f.offset,s))with|some d=>if a.all (λp=>xG p.2)then(Instr.fill (λi=>d.toArray[i]?) b.cells a).map .agg else none|none=>none
 |some b,some (.array _ g)=>match szT P g with|some e=>if a.all (λp=>xG p.2)then(Instr.fill (λi=>some (i*e,e)) b.cells a).map .agg else none|none=>none
 |_,_=>none
def ad(P a n):=if n=0 then some #[]else(wZ P a).map λz=>(Array.range n).map λi=>z.cells[i%z.cells.size]!
def cS(P:T')(t:B')(d:Nat)(c:List (Nat×P'))(H:IH):Option qw:=match P.underlying t with
 |some (.slice b)=>match szT P b with
  |some a=>if d*a<=65536&&c.all (λp=>xG p.2)then
   match ad P b (d*a)with
   |some z=>match Instr.fill (λi=>some (i*a,a)) z c with|some e=>some (.val (.slice (some ⟨H.size,0,none⟩) d d) (H.push (.cells e b)))|none=>none
   |none=>none
   else none|none=>none
 |_=>none
def cW(P:T')(t:B')(l c:P')(H:IH):Option qw:=match P.underlying t,l,c with
 |some (.slice a),.int _ l,.int _ c=>match P.info? a with|some i=>if 0<=l&&l<=c&&(i.bytes:Int)*c<=2^47&&c<=2^47 then match ad P a (c.toNat*i.size)with|some z=>some (.val (.slice (some ⟨H.size,0,none⟩) l.toNat c.toNat) (H.push (.cells z a)))|none=>none else none|none=>none
 |_,_,_=>none
def vB(d:Nat)(a:Nat):Option P'->Option Nat|none=>some d|some (.int _ i)=>if 0<=i&&i<=(a:Int)then some i.toNat else none|some _=>none
def z7:=(1,1)
def jS(P:T')(t:B')(x:P')(e f j:Option P'):Option P':=match P.underlying t,x,j with
 |some (.slice a),.slice none 0 0,none=>match szT P a,vB 0 0 f with
  |some _,some h=>match vB 0 h e with|some _=>some (.slice none 0 0)|none=>none
  |_,_=>none
 |some (.slice a),.slice (some ⟨b,o,i⟩) g d,none=>match szT P a,vB g d f with
  |some c,some h=>match vB 0 h e with|some l=>if i.all (·==a)&&Nat.ble h d then some (.slice (some ⟨b,if d=l then o else o+l*c,i⟩) (h-l) (d-l))else none|none=>none
  |_,_=>none
 |some (.array n a),.pointer (some ⟨b,o,none⟩),none=>match szT P a,vB n n f with
  |some c,some h=>match vB 0 h e with|some l=>some (.slice (some ⟨b,if n=l then o else o+l*c,none⟩) (h-l) (n-l))|none=>none
  |_,_=>none
 |_,_,_=>none
def aX(P:T')(s:B')(x:P')(d:Nat):Option P':=match P.underlying s,x with
 |some (.struct a),.pointer (some ⟨b,o,none⟩)=>match a[d]? with
  |some f=>match szT P f.type with|some c=>if c=0 then none else some (.pointer (some ⟨b,o+f.offset,none⟩))|none=>none
  |none=>none
 |_,_=>none
def nF(P:T')(t:B')(b:Array P')(a:Nat):Option P':=match kJ P t with
 |some true=>match szT P t with|some n=>if a+n<=b.size then some (.agg (b.extract a (a+n)))else none|none=>none
 |some false=>b[a]?|none=>none
def qFd(P:T')(t:B')(x:P')(b:Nat):Option P':=match P.underlying t,x with
 |some (.struct a),.agg c=>match a[b]? with|some f=>nF P f.type c f.offset|none=>none
 |_,_=>none
def aR(P:T')(t:B')(x e:P'):Option P':=match P.underlying t,x,e with
 |some (.array n c),.pointer (some ⟨b,o,none⟩),.int _ i=>match szT P c with|some a=>if 0<=i&&i<(n:Int)then some (.pointer (some ⟨b,o+i.toNat*a,none⟩))else none|none=>none
 |some (.slice c),.slice (some ⟨b,o,_⟩) d _,.int _ i=>match szT P c with|some a=>if 0<=i&&i<(d:Int)then some (.pointer (some ⟨b,o+i.toNat*a,none⟩))else none|none=>none
 |_,_,_=>none
def ak(P:T')(t:B')(x c:P'):Option P':=match P.underlying t,x,c with
 |some (.array n a),.agg d,.int _ i=>match szT P a with|some b=>if 0<=i&&i<(n:Int)then nF P a d (i.toNat*b)else none|none=>none
 |_,_,_=>none
def vF(P:T')(b:B')(k:P')(a:List MapEntry):Option (Option Nat):=if xK k&&a.all (λe=>xK e.key)then match qh P (Instr.checkKey a.isEmpty 10000 b k),qh P (Instr.checkKey false 10000 b k),qh P (Instr.findKey b k a)with|some _,some _,some r=>some (r.map (·.1))|_,_,_=>none else none
def bf(a)(v:P')(b):=cond a (.tuple #[v,.bool b]) v
def pE(P:T')(t:B')(x k:P')(a:Bool)(H:IH):Option P':=match P.underlying t,x with
 |some (.map d c),.map (some r)=>match H.get r with
  |some (.map b _)=>match vF P d k b.toList with
   |some (some i)=>match b[i]? with|some e=>some (bf a e.val true)|none=>none
   |some none=>match xx P c with|some z=>if xK z then some (bf a z false)else none|none=>none
   |none=>none
  |_=>none
 |_,_=>none
def cT(P:T')(t:B')(x k v:P')(H:IH):Option IH:=match P.underlying t,x with
 |some (.map c _),.map (some r)=>match H.get r with
  |some (.map b a)=>if decide (H.base<=r)&&xG v then
   match vF P c k b.toList with
   |some (some i)=>match b[i]? with|some e=>if Instr.sameBits 10000 e.key k then some (H.put r (.map (b.modify i λe=>{e with key:=k,val:=v}) a))else none|none=>none
   |some none=>some (H.put r (.map (b.push {key:=k,val:=v,born:=a}) (a+1)))|none=>none
   else none|_=>none
 |_,_=>none
def qFf(P:T')(t:B')(x:P')(H:IH):Option qw:=match P.underlying t,x with
 |some .string,.string s=>some (.val (.pointer (some ⟨H.size,0,none⟩)) (H.push (.stringIter s 0)))|some (.map _ _),.map (some m)=>match H.get m with|some (.map _ a)=>some (.val (.pointer (some ⟨H.size,0,none⟩)) (H.push (.mapIter (some m) a #[] 0)))|_=>none
 |_,_=>none
def qFe(x:P')(H:IH):Option P':=match x with
 |.pointer (some ⟨r,0,none⟩)=>match H.get r with
  |some (.mapIter (some m) b _ (c+1))=>match H.get m with|some (.map d a)=>if a==b then(match d.find? (·.born==c)with|some e=>if xK e.key then some (.tuple #[e.key,e.val])else none|none=>none)else none|_=>none
  |_=>none
 |_=>none
def pc(P:T')(t:B'):P'->P'->Option Bool
 |.pointer (some a),.pointer (some b)=>match P.underlying t with
  |some (.pointer c)=>match szT P c with|some n=>if n !=0&&a.block==b.block&&a.spot.isNone&&b.spot.isNone then some (a.off==b.off)else none|none=>none
  |_=>none
 |_,_=>none
def j7:P'->P'->Option Bool|.pointer none,.pointer b|.pointer b,.pointer none=>some b.isNone|.slice none _ _,.slice b _ _|.slice b _ _,.slice none _ _=>some b.isNone|.map none,.map b|.map b,.map none=>some b.isNone|.nilFunc,.nilFunc=>some true|.nilFunc,.func _ _ _|.func _ _ _,.nilFunc=>some false|_,_=>none
def js:List P'->Option (List UInt8)|[]=>some []|.int .u8 n::l=>(js l).map (UInt8.ofNat n.toNat::·)|_=>none
def xT:P'->Option Nat|.slice _ n _=>some n|.string s=>some s.size|_=>none
def jR(a n:Nat)(H:IH):P'->Option (List P')|.slice (some ⟨b,o,_⟩) _ _=>H.loads b o (n*a)|.slice none _ _=>if n=0 then some []else none|.string s=>some (((s.extract 0 n).data.toList).map λb=>.int .u8 b.toNat)|_=>none
def xV(a n H x):=if n=0 then(if(xT x).isSome then some []else none)else jR a n H x
def ax(a:B')(H:IH):Option Addr->Option IH|none=>some H|some ⟨_,_,none⟩=>some H|some ⟨b,_,some d⟩=>match H.get b with|some (.cells _ c e)=>if vE e&&decide (H.base<=b)&&d==a&&c==a then some (H.put b kD)else none|_=>none
def pz(a:Nat):P'->Bool|.string _=>Nat.beq a 1|_=>true
def dQ(P:T')(b:B')(a:TypeInfo)(c:TypeDesc)(x:P')(H:IH):Option (Nat×List P'):=match c with|.int _=>(match x with|.int _ l=>if 0<=l&&l<=65536&&l.toNat*a.bytes<=2^40 then(if l.toNat*a.size=0 then some (l.toNat,[])else(wZ P b).map λz=>(l.toNat,(Builtin.zeroCells z.cells l.toNat).toList))else none|_=>none)|_=>(match xT x with|some n=>cond (pz a.size x) ((xV a.size n H x).map λl=>(n,l)) none|none=>none)
def dM(f:B')(e:Nat)(b:Option Addr)(h d c:Nat)(g:List P')(H:IH):Option qw:=match b with|some a=>if a.spot.all (·==f)then(if g.isEmpty then some (.val (.slice b c d) H)else match H.stores a.block (a.off+h*e) g with|some i=>some (.val (.slice b c d) i)|none=>none)else none|none=>if h==0&&d==0 then some (.val (.slice none 0 0) H)else none
def nJ(P:T')(a:B')(c:TypeInfo)(d:Option Addr)(f h b:Nat)(e:List P')(H:IH):Option qw:=if b<=2^40&&b*c.bytes<=2^45&&e.all oneCell&&((xx P a).map (·.cells.size))==some c.size then match jR c.size f H (.slice d f h),ax a H d with|some g,some i=>some (.val (.slice (some ⟨i.size,0,some a⟩) b b) (i.push (.cells (g++e).toArray a z7)))|_,_=>none else none
def gS(P c)(b:TypeInfo)(d a e H)(r:Option (Nat×List P')):=match r with|some (n,f)=>if a+n<=e then dM c b.size d a e (a+n) f H else nJ P c b d a e (a+n) f H|none=>none
def wM(P:T')(a:Array B')(d:List P')(H:IH):=match a.toList,d with
 |[j,i],[.slice e f g,x]=>match P.underlying j with
   |some (.slice b)=>match P.info? b,P.underlying i with|some c,some h=>gS P b c e f g H (dQ P b c h x H)|_,_=>none
   |_=>none
 |_,_=>none
def aM(b:Option Addr)(n:Nat)(l:List P')(H:IH):Option qw:=match b with
 |some a=>if l.isEmpty then some (.val (goInt n) H)else match H.stores a.block a.off l with|some c=>some (.val (goInt n) c)|none=>none
 |none=>some (.val (goInt n) H)
def wX(P:T')(a:Array B')(e:List P')(H:IH):=match a.toList,e with
 |[g,_],[.slice d b _,x]=>match P.underlying g with
   |some (.slice c)=>match szT P c,xT x with
    |some f,some m=>match xV f (Nat.min m b) H x with|some l=>aM d (Nat.min m b) l H|none=>none
    |_,_=>none
   |_=>none
 |_,_=>none
def cj(P:T')(a d)(x:P')(H:IH):=match x with
 |.pointer (some ⟨b,o,none⟩)=>match H.get b with
  |some (.cells c e f)=>match P.underlying a,P.underlying d with
   |some (.pointer t),some .unsafePointer=>match szT P t with|some n=>if n !=0&&decide (o<c.size)then some x else none|none=>none
   |some .unsafePointer,some (.pointer u)=>match szT P u with|some n=>if n !=0&&f==(0,0)&&liesAt P P.depth e (c.size/P.cellsOf e) o u 1 then some x else none|none=>none
   |_,_=>none
  |_=>none
 |_=>none
def uF(P:T')(a:Array B')(d:List P')(H:IH):Option qw:=match a[0]?,d with
 |some f,[.pointer none,.int _ n]=>if n=0&&(P.underlying f).isSome then some (.val (.string .empty) H)else none|some f,[.pointer (some ⟨b,o,none⟩),.int _ n]=>match P.underlying f with|some (.pointer u)=>if n=0 then some (.val (.string .empty) H)else if 0<n&&n<=2^60 then match H.get b with|some (.cells c e h)=>if vE h&&P.cellsOf e==1&&sameLayout P P.depth e u&&decide (H.base<=b)then match(H.loads b o n.toNat).bind js with|some g=>some (.val (.string ⟨g.toArray⟩) (H.put b (.cells c e (0,1))))|none=>none else none|_=>none else none|_=>none
 |_,_=>none
def kS(P:T')(c:Array B')(a:List P')(H:IH):Option qw:=match(c[0]?).bind P.underlying,a with
 |some (.slice _),[.slice _ n _]=>some (.val (goInt n) H)|some (.map _ _),[.map (some r)]=>match H.get r with|some (.map b _)=>some (.val (goInt b.size) H)|_=>none
 |some (.array n _),[_]=>some (.val (goInt n) H)|_,_=>none
def xF(P)(b:Builtin)(c:Call)(d:List P')(H:IH):=match b with
 |.append=>wM P c.argTypes d H|.copy=>wX P c.argTypes d H|.len=>kS P c.argTypes d H|.unsafeSliceData=>match d with|[.slice none _ _]=>some (.val (.pointer none) H)|[.slice (some a) _ c]=>if c !=0 then some (.val (.pointer (some ⟨a.block,a.off,none⟩)) H)else none|_=>none
 |.unsafeString=>uF P c.argTypes d H|_=>none
def ya(P)(c:Call)(h:Env)(H):=let e:=qm h.val c.args.toList
 match c.callee with|.builtin b=>xF P b c e H|.invoke _ _=>none|.value f=>match h.val f with
  |.func (.func g) d a=>match P.funcs[g]? with|some i=>if i.body.isSome then(if i.name != "runtime.NumGoroutine"then some (.enter g (xe d.toList (xe e a.toList)) H)else none)else if i.name== "internal/abi.NoEscape"&&i.origin== ""then(match xe d.toList (xe e a.toList)with|[v]=>some (.val v H)|_=>none)else none|none=>none
  |.func (.yield l) d a=>if d.isEmpty&&a.isEmpty then some (.round l e H)else none|_=>none
def bD:P'->Bool|.tuple a=>zo a.toList|v=>xK v
def dC(H:IH)(v:P'):Option qw:=cond (bD v) (some (.val v H)) none
def QC(H:IH):Option Next->Option qw|some (.value v)=>dC H v|_=>none
def qj(P o)(a:Env)(H):=if zo (qm a.val o.op.operands.toList)then QC H (qh P (execOp a.val o))else none
def wS(c:BinOp)(k:L')(a b:Int):Option P':=match c with|.add=>some (.int k (k.wrap (a+b)))|.sub=>some (.int k (k.wrap (a-b)))|.mul=>some (.int k (k.wrap (a*b)))|.quo=>if b=0 then none else some (.int k (k.wrap (a.tdiv b)))|.rem=>if b=0 then none else some (.int k (a.tmod b))|.eql=>some (.bool (a==b))|.neq=>some (.bool (a !=b))|.lss=>some (.bool (a<b))|.leq=>some (.bool (a<=b))|.gtr=>some (.bool (a>b))|.geq=>some (.bool (a≥b))|_=>none
def bc:L'->Nat|.i8=>0|.i16=>1|.i32=>2|.i64=>3|.u8=>4|.u16=>5|.u32=>6|.u64=>7
theorem lC{a b}(h:Nat.beq (bc a) (bc b)=true):a=b:=by cases a<;>cases b<;>first|rfl|(exact absurd h (by decide))
def asI:P'->Option (L'×Int)|.int k n=>some (k,n)|_=>none
def uT(P:T')(t:B')(x:P'):Bool:=match P.underlying t,x with|some (.pointer _),.pointer _=>true|some (.slice _),.slice _ _ _=>true|some (.map _ _),.map _=>true|some (.func _ _ _),.nilFunc=>true|some (.func _ _ _),.func _ _ _=>true|_,_=>false
def wR(P:T')(t:B')(x y:P'):Option Bool:=match j7 x y with|some b=>cond (uT P t x) (some b) none|none=>pc P t x y
def xQ(P:T')(o:I')(c:BinOp)(t:B')(x y:P')(a:Env)(H:IH):Option qw:=match c with|.eql=>(match wR P t x y with|some b=>some (.val (.bool b) H)|none=>qj P o a H)|.neq=>(match wR P t x y with|some b=>some (.val (.bool !b) H)|none=>qj P o a H)|_=>qj P o a H
def wj(P:T')(o:I')(e:BinOp)(k d:L')(a b:Int)(c:Env)(H:IH):Option qw:=cond (Nat.beq (bc k) (bc d)) (match wS e k a b with|some v=>some (.val v H)|none=>qj P o c H) (qj P o c H)
def zp(P:T')(o:I')(d:BinOp)(t:B')(x y:P')(c:Env)(H:IH):Option qw:=match asI x with|some (k,a)=>(match asI y with|some (e,b)=>wj P o d k e a b c H|none=>xQ P o d t x y c H)|none=>xQ P o d t x y c H
def bC(c a b:P')(H:IH):Option qw:=match c with|.bool t=>some (.val (cond t a b) H)|_=>none
def ah(P:T')(a:B')(H:IH):Option qw:=match wZ P a with|some z=>some (.val (.pointer (some ⟨H.size,0,none⟩)) (H.push (.cells z.cells a)))|none=>none
def dR(a:B')(v:P')(H:IH):Option qw:=if xG v then some (.val (.pointer (some ⟨H.size,0,none⟩)) (H.push (.cells v.cells a)))else none
def bB:Option IH->Option qw|some a=>some (.val undef a)|none=>none
def aJ(v:P')(H:IH):Option qw:=match v with|.pointer (some a)=>some (.val (.pointer (some a)) H)|.func (.func g) f c=>some (.val (.func (.func g) f c) H)|.func (.yield l) f c=>some (.val (.func (.yield l) f c) H)|_=>none
def gO(P o d c)(v:P')(b:Env)(H:IH):=match v with|.pointer a=>qw.ofO H (cj P d c (.pointer a) H)|_=>qj P o b H
def cd(c:Fn)(b a:Array P')(H:IH):Option qw:=match c with|.func g=>some (.val (.func (.func g) b a) H)|_=>none
def aW(P o t)(v:P')(c d b:Option P')(a:Env)(H:IH):=match v with|.string _=>qj P o a H|v=>qw.ofO H (jS P t v c d b)
def aU(P o t)(v b:P')(a:Env)(H:IH):=match v with|.string _=>qj P o a H|v=>qw.ofO H (ak P t v b)
def c8(H:IH):Option P'->Option qw|some v=>cond (xG v) (some (.val v H)) none|none=>none
def cl(v:P')(b:Nat)(H:IH):=match v with|.tuple a=>c8 H (qP a.toList b)|_=>none
def zk(P:T')(o:I')(c:Call)(a:Env)(H:IH):Option qw:=match ya P c a H with|some r=>some r|none=>qj P o a H
def mC(r:Option K')(H:IH):Option qw:=match r with|none=>some (.val (.map (some H.size)) (H.push (.map #[] 0)))|some _=>none
def iop(P:T')(o:I')(d:Env)(H:IH):Option qw:=match o.op with|.move x=>some (.val (d.val x) H)|.assign x=>some (.val (d.val x) H)|.pick c a b=>bC (d.val c) (d.val a) (d.val b) H|.alloc h=>ah P h H|.box h x=>dR h (d.val x) H|.build t e=>qw.ofO H (p7 P t (e.toList.map λp=>(p.1,d.val p.2)))|.buildSlice t n e=>cS P t n (e.toList.map λp=>(p.1,d.val p.2)) H|.load t a=>qw.ofO H (kh P t (d.val a) H)|.store t a x=>bB (uK P t (d.val a) (d.val x) H)|.nilCheck x=>aJ (d.val x) H|.binOp z t x y _=>zp P o z t (d.val x) (d.val y) d H|.convert q u x=>gO P o q u (d.val x) d H|.makeFunc C i g=>cd C (i.map d.val) (g.map d.val) H|.makeMap _ r=>mC r H|.makeSlice t l c=>cW P t (d.val l) (d.val c) H|.slice t x v A w=>aW P o t (d.val x) (v.map d.val) (A.map d.val) (w.map d.val) d H|.fieldAddr s x f=>qw.ofO H (aX P s (d.val x) f)|.indexAddr t x j=>qw.ofO H (aR P t (d.val x) (d.val j))|.index t x j=>aU P o t (d.val x) (d.val j) d H|.lookup t x k B=>qw.ofO H (pE P t (d.val x) (d.val k) B H)|.mapUpdate t m k x=>bB (cT P t (d.val m) (d.val k) (d.val x) H)|.extract t j=>cl (d.val t) j H|.call c=>zk P o c d H|.unOp _ _ _=>qj P o d H|_=>none
inductive T(α:Type):Type where|fail:T α|ret(a:α):T α|ch(n:Nat)(k:Nat->T α):T α|sp(p:P'×IH->Prop)(k:P'×IH->T α):T α
def T.bind{α β}(t:T α)(f:α->T β):T β:=T.rec .fail f (λn _ a=>.ch n a) (λp _ a=>.sp p a) t
def T.ofO{α:Type}:Option α->T α|some a=>.ret a|none=>.fail
inductive dq where|normal|exit(id:Nat)|goto(l:Nat)|ret deriving DecidableEq
structure Out where
 e:dq
 env:Env
 H:IH
inductive Job where|code(c:Code)(env:Env)|call(f:C')(args:List P')|round(l:Nat)(args:List P')
abbrev qg:=C'->Option (List P'->IH->T (P'×IH))
def rC(P:T')(b:Env)(H:IH):ResultVar->Option P'|.tmp t=>some ((qP b t).getD undef)|.cell a t=>kh P t ((qP b a).getD undef) H
def bA(P:T')(a:Env)(H:IH):List ResultVar->Option (List P')|[]=>some []|r::l=>match rC P a H r with|some v=>(match bA P a H l with|some b=>some (v::b)|none=>none)|none=>none
def one(l:List P'):=match l with|[v]=>v|a=>.tuple a.toArray
def wH(P)(b:Func)(a H):=(bA P a H b.results.toList).map one
inductive Cls where|pure|read|alloc|call|fresh|write deriving DecidableEq
def zN(o:I'):Cls:=match o.op with
 |.move _|.assign _|.pick ..|.nilCheck _|.binOp ..|.unOp ..|.makeFunc ..|.fieldAddr ..|.field ..|.indexAddr ..|.index ..|.extract ..|.slice ..|.build ..=>.pure|.load ..|.lookup ..|.entry _|.convert ..=>.read|.alloc _=>if o.guard.isNone then .alloc else .fresh|.box ..|.buildSlice ..|.makeMap ..|.makeSlice ..|.range ..=>.fresh|.call c=>match c.callee with|.builtin .len=>.read|.builtin .min|.builtin .max|.builtin .unsafeSliceData=>.pure|.value _=>.call|_=>.write
 |_=>.write
def Cls.eff:Cls->Bool|.call|.fresh|.write=>true|_=>false
def vg(a:Array I')(o:I'):=(o.op.operands.toList.filterMap fun|.tmp t=>some t|_=>none)++(match o.guard with|some (g,_)=>((a[g]?).bind (·.dst)).toList|none=>[])
def qt(o):=decide (zN o=.alloc)
def qy(b:Array Nat)(i j):=(b.getD j 0).testBit i
def ji(b i j):=qy b i j||qy b j i
def CN(a:Array I')(b):=let l:=a.toList.zipIdx
 l.all fun(o,i)=>(o.after.all λe=>!Region.binds .any e||decide (e.on<i))&&l.all fun(p,j)=>(decide (i=j)||((match o.dst with|some d=>p.dst !=some d&&(!((vg a p).contains d)||cond (qt o) (qy b i j) (ji b i j))|none=>true)&&(!((zN o).eff&&(zN p).eff)||ji b i j)&&true))
def jT(a):=CN a (Region.before a)
def wL(r:Out):T (P'×IH):=match r.env with|[v]=>.ret (v,r.H)|_=>.fail
def yD(b:Job->IH->T Out)(c:qg)(f:C')(a:List P')(H:IH):T (P'×IH):=match c f with|some g=>g a H|none=>(b (.call f a) H).bind wL
def mq(b:Job->IH->T Out)(c:qg)(s:Option qw):T (P'×IH):=match s with|some (.val v H)=>.ret (v,H)|some (.enter f a H)=>yD b c f a H|some (.round l a H)=>(b (.round l a) H).bind wL|some (.choice n k)=>.ch n λi=>T.ofO (k i)|none=>.fail
def zd(P c b o a H):=mq c b (iop P o a H)
def xL{α:Type}(c:Option Bool)(a d b:α):=match c with|some true=>a|some false=>d|none=>b
def ux(P:T')(c:Job->IH->T Out)(b:qg)(d:Array I')(l:List I'):Env->IH->T (Env×IH):=List.rec (λa H=>.ret (a,H)) (λo _ e a H=>xL (jv d o a) ((zd P c b o a H).bind λr=>e (a.zS o.dst r.1) r.2) (e (a.zS o.dst undef) H) .fail) l
theorem Xv{P c b d o l a H}:ux P c b d (o::l) a H=xL (jv d o a) ((zd P c b o a H).bind λr=>ux P c b d l (a.zS o.dst r.1) r.2) (ux P c b d l (a.zS o.dst undef) H) .fail:=rfl
def fT(t:T (P'×IH)):=match t with|.ret r=>some r|_=>none
def uc(P:T'):List I'->Env->IH->Option (Env×IH)|[],a,H=>some (a,H)|o::b,a,H=>if qt o then match iop P o a H with|some (.val v c)=>uc P b (a.zS o.dst v) c|_=>none else uc P b a H
structure Rec where
 i:Nat
 o:I'
 env:Env
 v:P'
def QA(c:Array I')(b):=(c.toList.zipIdx.filter λp=>decide (zN p.1=.read)).filterMap λp=>let a:=c.toList.zipIdx.filter λq=>(zN q.1).eff
 let e:=(a.filter λq=>qy b q.2 p.2).length
 let d:=(a.filter λq=>!qy b p.2 q.2).length
 if e=d then none else some (p.2,e,d)
def loose(a):=QA a (Region.before a)
def kT(i:Nat)(l:List (Nat×Nat×Nat)):Option (Nat×Nat):=List.rec none (λa _ b=>cond (Nat.beq a.1 i) (some a.2) b) l
def gi{α:Type}(c a)(l:List α):=cond c (a::l) l
def nN(c:Option (Nat×Nat))(i:Nat)(o:I')(a:Env)(v:P')(l:List Rec):List Rec:=match c with|some _=>⟨i,o,a,v⟩::l|none=>l
def ZS(o i a v d b)(r:Option (Env×IH×List IH×List Rec)):=match r with|some (e,h,c,f)=>some (e,h,gi (zN o).eff d c,nN (kT i b) i o a v f)|none=>none
def px(o H)(r:Option (Env×IH×List IH×List Rec)):=match r with|some (e,h,b,a)=>some (e,h,gi (zN o).eff H b,a)|none=>none
def pw(o i a b)(c:Env->IH->Option (Env×IH×List IH×List Rec))(r:Option (P'×IH)):=match r with|some r=>ZS o i a r.1 r.2 b (c (a.zS o.dst r.1) r.2)|none=>none
def bE(P:T')(b:Job->IH->T Out)(c:qg)(d:Array I')(f:List (Nat×Nat×Nat))(l:List I'):Nat->Env->IH->Option (Env×IH×List IH×List Rec):=List.rec (λ_ a H=>some (a,H,[],[])) (λo _ e i a H=>cond (qt o) (e (i+1) a H) (xL (jv d o a) (pw o i a f (e (i+1)) (fT (zd P b c o a H))) (px o H (e (i+1) (a.zS o.dst undef) H)) none)) l
def eqL{α:Type}(d:α->α->Bool)(l:List α):List α->Bool:=List.rec (λm=>m.isEmpty) (λa _ c m=>match m with|[]=>false|b::m=>cond (d a b) (c m) false) l
theorem tF{α d}(h:∀a b,d a b=true->a=b){l}:∀{m:List α},eqL d l m=true->l=m:=by induction l with|nil=>intro m c;(cases m with|nil=>rfl|cons b m=>exact absurd c (by show¬((b::m).isEmpty=true);simp))|cons a l f=>intro m c;cases m with|nil=>exact absurd c (by show¬(false=true);simp)|cons b m=>have e:cond (d a b) (eqL d l m) false=true:=c;grind
def rZ(n:Nat):P'->P'->Bool:=Nat.rec (λ_ _=>false) (λ_ d v w=>match v,w with|.bool a,.bool b=>a==b|.int k a,.int j b=>k==j&&a==b|.string a,.string b=>eqL (·==·) a.data.toList b.data.toList|.pointer a,.pointer b=>a==b|.slice a l c,.slice e h i=>a==e&&(l==h&&c==i)|.map a,.map b=>a==b|.func f a b,.func m e g=>f==m&&(eqL d a.toList e.toList&&eqL d b.toList g.toList)|.nilFunc,.nilFunc=>true|.nilIface,.nilIface=>true|.agg a,.agg b=>eqL d a.toList b.toList|.tuple a,.tuple b=>eqL d a.toList b.toList|_,_=>false) n
def veq(v w):=rZ 4 v w
def rO(l m):=eqL veq l m
def oeq:Obj->Obj->Bool|.cells c e f,.cells d i n=>rO c.toList d.toList&&e==i&&f==n|.pending c e,.pending d i=>rO c.toList d.toList&&e==i|.stringIter s p,.stringIter h k=>eqL (·==·) s.data.toList h.data.toList&&p==k|.mapIter m s a l,.mapIter q h j o=>m==q&&s==h&&a.toList==j.toList&&l==o|.map g c,.map b d=>c==d&&rO (g.toList.map (·.key)) (b.toList.map (·.key))&&rO (g.toList.map (·.val)) (b.toList.map (·.val))&&g.toList.map (·.born)==b.toList.map (·.born)|_,_=>false
def ng:Option Obj->Option Obj->Bool|none,none=>true|some a,some b=>oeq a b|_,_=>false
def cr(v)(r:Option qw):=match r with|some (.val u _)=>veq v u|_=>false
def gK(P:T')(d b:Nat)(r:Rec)(c:List IH):Nat->Bool:=List.rec (λ_=>true) (λE _ a m=>cond (Nat.ble d m&&Nat.ble m b) (cond (cr r.v (iop P r.o r.env E)) (a (m+1)) false) (a (m+1))) c
def e_(P:T')(b:List (Nat×Nat×Nat))(a:List IH)(r:Rec):Bool:=match kT r.i b with|some p=>gK P p.1 p.2 r a 0|none=>true
def pD(b:Nat)(o:Option Obj)(c:List IH):Nat->Bool:=List.rec (λ_=>true) (λh _ a n=>Nat.casesOn n true λm=>cond (ng (h.get b) o) (a m) false) c
def om(c:IH)(d:List IH)(a:List Nat):Nat->Bool:=List.rec (λ_=>true) (λf _ e b=>cond (pD b (c.get b) d f) (e (b+1)) false) a
def Kg(a:Array I')(b):=(a.toList.zipIdx.filter λp=>qt p.1).map λp=>((a.toList.zipIdx.filter λq=>(zN q.1).eff).filter λq=>!qy b p.2 q.2).length
def al(a):=Kg a (Region.before a)
def QH(P f d n c)(r:Option (Env×IH×List IH×List Rec)):=match r with|some (a,e,b,g)=>cond (cond (q_ (e_ P f (c::b)) g) (om c b d n) false) (some (a,e)) none|none=>none
def u7(P:T')(e:Job->IH->T Out)(d:qg)(a:Array I')(c:Env)(H:IH):Option (Env×IH):=match uc P a.toList c H with|some (b,f)=>QH P (loose a) (al a) H.size f (bE P e d a (loose a) a.toList 0 b f)|none=>none
def T.leaves{α:Type}:T α->Option (List α)|.fail=>none|.ret a=>some [a]|.ch n k=>((List.range n).mapM λi=>(k i).leaves).map List.flatten|.sp _ _=>none
def ct:Env->Env->Env|a::l,b::m=>(if veq a b then a else unk)::ct l m|_,_=>[]
def IH.since(H:IH)(n):=H.log.take (H.log.length-n)
def C7(H a:IH)(l:List Nat):=l.all λb=>ng (H.get b) (a.get b)
def Kr(c:IH)(n:Nat):List Out->Option Out|[]=>none|o::a=>if((o.H.since n).filter (·<c.size)).all (λb=>(o.H.get b).isSome)&&a.all (λp=>decide (p.e=o.e)&&decide (p.env.length=o.env.length)&&C7 o.H p.H ((o.H.since n).filter (·<c.size))&&C7 o.H p.H ((p.H.since n).filter (·<c.size)))then some ⟨o.e,a.foldl (λe p=>ct e p.env) o.env,{tr:=((o.H.since n).filter (·<c.size)).foldl (λt b=>match o.H.get b with|some d=>t.set b d|none=>t) c.tr,size:=(o::a).foldl (λm p=>Nat.max m p.H.size) 0,base:=c.base,log:=(o.H.since n).filter (·<c.size)++c.log}⟩else none
def join(a:IH):T Out->T Out
 |.ch n k=>match(T.ch n k).leaves with
  |some l=>match Kr a a.log.length l with|some o=>.ret o|none=>.ch n k
  |none=>.ch n k
 |t=>t
def QD(a:Job->IH->T Out)(b)(r:Out):=match r.e with|.normal=>a (.code b r.env) r.H|_=>.ret r
def tG(id:Nat)(r:Out):T Out:=match r.e with|.exit a=>cond (Nat.beq a id) (.ret ⟨.normal,r.env,r.H⟩) (.ret r)|_=>.ret r
def oe(b:Job->IH->T Out)(a)(r:Out):=match r.e with|.normal=>b (.code (.loop a) r.env) r.H|_=>.ret r
def tO(r:Out):T Out:=match r.e with|.goto _=>.fail|_=>.ret r
def tU(d:Job->IH->T Out)(v:P')(a b:Code)(c:Env)(H:IH):=match v with|.bool t=>d (.code (cond t a b) c) H|_=>.fail
def tn(r:Option (Env×IH)):T Out:=match r with|some (a,b)=>.ret ⟨.normal,a,b⟩|none=>.fail
def sq(P c d a e b H):=cond e (tn (u7 P c d a b H)) ((ux P c d a a.toList b H).bind λr=>.ret ⟨.normal,r.1,r.2⟩)
def aA(d:Job->IH->T Out)(l:Nat)(a:Env)(r:P'×IH):T Out:=match r.2.get l with|some (.loop b)=>if b.state==.busy then .fail else(match b.pending with|none=>.ret ⟨.normal,a,r.2.put l (.loop {b with state:=.exhausted})⟩|some c=>d (.code c a) (r.2.put l (.loop {b with state:=.exhausted})))|_=>.fail
def entered(P:T')(g:C'):Bool:=match P.funcs[g]? with|some a=>a.body.isSome&&a.name != "runtime.NumGoroutine"|none=>false
def gL(P d e)(v:P')(params:Array Tmp)(assign body:Code)(c:Env)(H:IH):=match v with|.func (.func g) b a=>cond (entered P g) ((yD d e g (xe b.toList (.func (.yield H.size) #[] #[]::a.toList)) (H.push (.loop {state:=.ready,pending:=none,fn:=0,tmps:=c.toArray,params,assign,body,defers:=0}))).bind (aA d H.size c)) .fail|_=>.fail
def Kj(P:T')(e:Job->IH->T Out)(i:qg)(c:Code)(d:Env)(H:IH):T Out:=match c with|.skip=>.ret ⟨.normal,d,H⟩|.label _=>.ret ⟨.normal,d,H⟩|.ret=>.ret ⟨.ret,d,H⟩|.exit id=>.ret ⟨.exit id,d,H⟩|.seq a b=>(e (.code a d) H).bind (QD e b)|.cond x a b=>tU e (d.val x) a b d H|.block id a=>(e (.code a d) H).bind (tG id)|.loop a=>join H ((e (.code a d) H).bind (oe e a))|.scope a=>(e (.code a d) H).bind tO|.region _ l j=>sq P e i l j d H|.rangeFunc f h g k=>gL P e i (d.val f) h g k d H|_=>.fail
def pN(P:T')(a:Func)(r:Out):T Out:=match r.e with|.normal=>(match wH P a r.env r.H with|some v=>.ret ⟨.normal,[v],r.H⟩|none=>.fail)|.ret=>(match wH P a r.env r.H with|some v=>.ret ⟨.normal,[v],r.H⟩|none=>.fail)|_=>.fail
def oq(P:T')(b:C'->Bool)(e:Job->IH->T Out)(f:C')(a:List P')(H:IH):T Out:=match P.funcs[f]? with|some d=>(match d.body with|some c=>cond (b f) (join H ((e (.code c (xe a (List.replicate (d.ntmps-a.length) undef))) H).bind (pN P d))) .fail|none=>.fail)|none=>.fail
def xZ:dq->Option Code|.normal=>none|.ret=>some .ret|.exit id=>some (.exit id)|.goto t=>some (.goto t)
def roundEnd(l:Nat)(s:Out):T Out:=match s.H.get l with|some (.loop a)=>.ret ⟨.normal,[.bool (xZ s.e).isNone],s.H.put l (.loop {a with state:=if(xZ s.e).isNone then .ready else .done,pending:=xZ s.e})⟩|_=>.fail
def Xo(c:Job->IH->T Out)(l:Nat)(a:Code)(r:Out):T Out:=match r.e with|.normal=>(match r.H.get l with|some (.loop b)=>if b.state==.ready then(c (.code a r.env) (r.H.put l (.loop {b with state:=.busy}))).bind (roundEnd l)else .fail|_=>.fail)|_=>.fail
def o8(c:Job->IH->T Out)(l:Nat)(a:List P')(H:IH):T Out:=match H.get l with|some (.loop b)=>if b.state==.ready&&(decide (H.base<=l)&&Nat.beq a.length b.params.size)then(c (.code b.assign ((b.params.toList.zip a).foldl (λe p=>qY e p.1 p.2) b.tmps.toList)) H).bind (Xo c l b.body)else .fail|_=>.fail
def zy(G:Nat->Bool):K'->Bool|.const v=>xK v|.global g=>G g|_=>true
def yT(G)(a:Array I'):=a.toList.all λo=>o.op.operands.toList.all (zy G)
def codeOk(G:Nat->Bool)(c:Bool):Code->Bool|.seq a b=>codeOk G c a&&codeOk G c b|.cond x a b=>zy G x&&(codeOk G c a&&codeOk G c b)|.block _ a=>codeOk G c a|.loop a=>codeOk G c a|.scope a=>codeOk G c a|.region _ e d=>yT G e&&(!d||jT e)|.rangeFunc f _ x y=>(c||!c)&&(zy G f&&(codeOk G true x&&codeOk G true y))|_=>true
def pW:Code->Bool|.ret=>true|.exit _=>true|.goto _=>true|_=>false
def JL(P d e b)(j:Job)(H:IH):=match j with|.code c g=>Kj P b e c g H|.call f a=>oq P d b f a H|.round l a=>o8 b l a H
def iex(P:T')(a:C'->Bool)(b:qg)(n:Nat):Job->IH->T Out:=Nat.rec (λ_ _=>.fail) (λ_ c j H=>JL P a b c j H) n
theorem Tc{P a b n j H}:iex P a b (n+1) j H=JL P a b (iex P a b n) j H:=rfl
end
end Go.Idl
namespace Go.Idl
variable{F:Fence}{G G':Nat->Bool}{H:IH}{P:T'}{a a':Array P'}{b r r0 x:Nat}{l l' m:List P'}{o o':Obj}{v v':P'}
structure Emb where
 r:Nat
 shift:Nat
 N:Nat
 ro:Bool
abbrev Inj:=Nat->Option Emb
def Inj.le(f g:Inj):=∀b e,f b=some e->g b=some e
theorem Inj.le_refl(f:Inj):f.le f:=λ_ _ h=>h
theorem Inj.le_trans{f g h:Inj}(a:f.le g)(b:g.le h):f.le h:=λx e c=>b x e (a x e c)
def Inj.add(f:Inj)(b:Nat)(e:Emb):Inj:=λx=>if x=b then some e else f x
theorem Inj.fV{f:Inj}{e}(h:f b=none):f.le (f.add b e):=λx y c=>by grind[Inj.add]
theorem Inj.add_same{f:Inj}{e}:f.add b e b=some e:=by simp[Inj.add]
theorem Inj.zB{f:Inj}{e}(h:x≠b):f.add b e x=f x:=by grind[Inj.add]
inductive qI(P:T')(f:Inj):P'->P'->Prop|any(v:P'):qI P f unk v|undef:qI P f undef undef|base(v:P')(h:xK v=true):qI P f v v|ptr{b o:Nat}{e:Emb}(h:f b=some e):qI P f (.pointer (some ⟨b,o,none⟩)) (.pointer (some ⟨e.r,o+e.shift,none⟩))|sl{b o len cap:Nat}{e:Emb}(h:f b=some e):qI P f (.slice (some ⟨b,o,none⟩) len cap) (.slice (some ⟨e.r,o+e.shift,none⟩) len cap)|room{b o el len cap zW:Nat}{e:Emb}(h:f b=some e)(hc:cap<=zW)(hn:o+e.shift+zW*P.cellsOf el<=e.N):qI P f (.slice (some ⟨b,o,some el⟩) len cap) (.slice (some ⟨e.r,o+e.shift,none⟩) len zW)|vy{b o o' el zW:Nat}{e:Emb}(h:f b=some e)(hs:e.shift<=o')(hn:o'+zW*P.cellsOf el<=e.N):qI P f (.slice (some ⟨b,o,some el⟩) 0 0) (.slice (some ⟨e.r,o',none⟩) 0 zW)|gh{b:Nat}{a':Addr}{e:Emb}(h:f b=some e)(hg:e.N<e.shift):qI P f (.slice (some ⟨b,0,none⟩) 0 0) (.slice (some a') 0 0)|map{b:Nat}{e:Emb}(h:f b=some e):qI P f (.map (some b)) (.map (some e.r))|func{g:C'}{a a' c c':Array P'}(ha:a.size=a'.size)(hc:c.size=c'.size)(NP:∀(i:Nat)v v',a[i]?=some v->a'[i]?=some v'->qI P f v v')(NQ:∀(i:Nat)v v',c[i]?=some v->c'[i]?=some v'->qI P f v v'):qI P f (.func (.func g) a c) (.func (.func g) a' c')|yield{l:Nat}{e:Emb}(h:f l=some e):qI P f (.func (.yield l) #[] #[]) (.func (.yield e.r) #[] #[])|iface{t:B'}{v v':P'}(h:qI P f v v'):qI P f (.iface t v) (.iface t v')|agg{a a':Array P'}(ha:a.size=a'.size)(NP:∀(i:Nat)v v',a[i]?=some v->a'[i]?=some v'->qI P f v v'):qI P f (.agg a) (.agg a')|tuple{a a':Array P'}(ha:a.size=a'.size)(NP:∀(i:Nat)v v',a[i]?=some v->a'[i]?=some v'->qI P f v v'):qI P f (.tuple a) (.tuple a')
theorem qI.mono{f g}(h:qI P f v v')(c:f.le g):qI P g v v':=by induction h with|any v=>exact .any v|undef=>exact .undef|base v h=>exact .base v h|ptr h=>exact .ptr (c _ _ h)|sl h=>exact .sl (c _ _ h)|room h j i=>exact .room (c _ _ h) j i|vy h s i=>exact .vy (c _ _ h) s i|gh h n=>exact .gh (c _ _ h) n|map h=>exact .map (c _ _ h)|func e j _ _ q k=>exact .func e j q k|yield h=>exact .yield (c _ _ h)|iface _ d=>exact .iface d|agg e _ d=>exact .agg e d|tuple e _ d=>exact .tuple e d
def qK(P f)(l l':List P'):=l.length=l'.length/\∀(i:Nat)v v',l[i]?=some v->l'[i]?=some v'->qI P f v v'
theorem qK.nil{f}:qK P f [] []:=⟨rfl,λi v v' h=>by grind⟩
theorem qK.cons{f}(h:qI P f v v')(t:qK P f l l'):qK P f (v::l) (v'::l'):=⟨by simp[t.1],λi u d e c=>by cases i with|zero=>grind|succ i=>exact t.2 i u d (by grind) (by grind)⟩
theorem qK.qa{f}(h:qK P f (v::l) m):∃v' l',m=v'::l'/\qI P f v v'/\qK P f l l':=by cases m with|nil=>grind[qK]|cons v' l'=>exact⟨v',l',rfl,h.2 0 v v' rfl rfl,by have:=h.1;grind,λi u d e c=>h.2 (i+1) u d (by grind) (by grind)⟩
theorem qK.zI{f}(h:qK P f [] m):m=[]:=by grind[qK]
theorem qK.mono{P f g l l'}(h:qK P f l l')(c:f.le g):qK P g l l':=⟨h.1,λi v v' a b=>(h.2 i v v' a b).mono c⟩
theorem qK.get{f}(h:qK P f l l'){i:Nat}(e:l[i]?=some v):∃v',l'[i]?=some v'/\qI P f v v':=by have d:=(qHV.1 e).1;have c:=h.1▸d;exact⟨l'[i],qGp c,h.2 i v _ e (qGp c)⟩
theorem qK.append{f c}(h:qK P f l l')(k:qK P f m c):qK P f (l++m) (l'++c):=by induction l generalizing l' with|nil=>rw[h.zI];exact k|cons v l d=>obtain⟨v',i,rfl,e,g⟩:=h.qa;exact .cons e (d g)
theorem qK.take{f}(h:qK P f l l')(n):qK P f (l.take n) (l'.take n):=by induction n generalizing l l' with|zero=>grind[qK.nil]|succ n c=>cases l with|nil=>rw[h.zI];grind[qK.nil]|cons v l=>obtain⟨v',d,rfl,e,g⟩:=h.qa;grind[qK.cons]
theorem qK.drop{f}(h:qK P f l l')(n):qK P f (l.drop n) (l'.drop n):=by induction n generalizing l l' with|zero=>grind|succ n c=>cases l with|nil=>rw[h.zI];grind[qK.nil]|cons v l=>obtain⟨v',d,rfl,e,g⟩:=h.qa;grind
theorem qK.set{f}(h:qK P f l l')(i:qI P f v v')(n):qK P f (l.set n v) (l'.set n v'):=by induction n generalizing l l' with|_=>cases l with|nil=>rw[h.zI];grind[qK.nil]|cons u l=>obtain⟨g,d,rfl,e,c⟩:=h.qa;grind[qK.cons]
theorem XY:zo (v::l)=(xK v&&zo l):=aG _ _ _
theorem gJ{l}:zo l=true↔∀v∈l,xK v=true:=kg
theorem qK.vz{f}(h:zo l=true):qK P f l l:=by induction l with|nil=>exact .nil|cons v l c=>rw[XY,qGk]at h;exact .cons (.base v h.1) (c h.2)
theorem GJ(n):∀v,xU n v=true->xU (n+1) v=true:=by induction n with|zero=>intro v h;exact absurd h (by show¬(false=true);simp)|succ n g=>intro v h;have e:∀(l),q_ (xU n) l=true->q_ (xU (n+1)) l=true:=λl j=>kg.2 λa i=>g a (kg.1 j a i);(cases v<;>first|exact h|skip);(case func f d c=>have k:(rY f&&(q_ (xU n) d.toList&&q_ (xU n) c.toList))=true:=h;show(rY f&&(q_ (xU (n+1)) d.toList&&q_ (xU (n+1)) c.toList))=true;grind);(case iface t v=>exact g v h);case agg p=>exact e _ h
theorem qI.qAg{f}(h:qI P f v v'):∀n,xU n v=true->v'=v:=by induction h with|undef=>grind|base v _=>grind|@func g a a' c z k y j w p A=>intro n e;(cases n with|zero=>exact absurd e (by show¬(false=true);simp)|succ n=>have d:(rY (.func g)&&(q_ (xU n) a.toList&&q_ (xU n) c.toList))=true:=e;simp[kg]at d;have q:=Array.ext k.symm λi t s=>p i a[i] a'[i] (by grind) (by grind) n (d.2.1 _ (by simp));have B:=Array.ext y.symm λi t s=>A i c[i] z[i] (by grind) (by grind) n (d.2.2 _ (by simp));grind)|yield _=>intro n e;(cases n with|zero=>exact absurd e (by show¬(false=true);simp)|succ n=>have d:=e;cases d)|iface _ u=>intro n e;(cases n with|zero=>exact absurd e (by show¬(false=true);simp)|succ n=>rw[u n e])|@agg a a' k j p=>intro n e;(cases n with|zero=>exact absurd e (by show¬(false=true);simp)|succ n=>have d:q_ (xU n) a.toList=true:=e;simp[kg]at d;have q:=Array.ext k.symm λi t s=>p i a[i] a'[i] (by grind) (by grind) n (d _ (by simp));rw[q])|_=>intro n e;cases n<;>exact absurd e (by show¬(false=true);simp)
theorem qI.plain{f}(h:qI P f v v')(c:xK v=true):v'=v:=h.qAg 3 c
theorem qK.plain{P f l l'}(h:qK P f l l')(c:zo l=true):l'=l:=by induction l generalizing l' with|nil=>exact h.zI|cons v l g=>obtain⟨v',i,rfl,e,d⟩:=h.qa;rw[XY,qGk]at c;rw[e.plain c.1,g d c.2]
theorem FX(h:xK (.agg a)=true):zo a.toList=true:=by have d:=h;exact gJ.2 λv c=>GJ 2 v (kg.1 d v c)
theorem qI.qAh{f}(h:qI P f (.agg a) v'):∃a',v'=.agg a'/\qK P f a.toList a'.toList:=by cases h with|base _ d=>exact⟨a,rfl,.vz (FX d)⟩|agg e c=>exact⟨_,rfl,by grind,λi v v' g j=>c i v v' (by grind) (by grind)⟩
theorem qI.Zz{f}(h:qK P f a.toList a'.toList):qI P f (.agg a) (.agg a'):=.agg (by simpa using h.1) λi v v' c d=>h.2 i v v' (by grind) (by grind)
theorem qI.Z_{f}(h:qK P f a.toList a'.toList):qI P f (.tuple a) (.tuple a'):=.tuple (by simpa using h.1) λi v v' c d=>h.2 i v v' (by grind) (by grind)
theorem qI.cells{P f v v'}(h:qI P f v v')(j:xG v=true):qK P f v.cells.toList v'.cells.toList:=by cases h with|any v=>grind[unk,xG]|undef=>grind[Go.undef,xG]|base v g=>(cases v<;>first|(exact .cons (.base _ g) .nil)|exact .vz (FX g)|grind)|ptr h=>exact .cons (.ptr h) .nil|sl h=>exact .cons (.sl h) .nil|room h a b=>exact .cons (.room h a b) .nil|vy h a b=>exact .cons (.vy h a b) .nil|gh h a=>exact .cons (.gh h a) .nil|map h=>exact .cons (.map h) .nil|func a b c d=>exact .cons (.func a b c d) .nil|yield h=>exact .cons (.yield h) .nil|iface h=>exact .cons (.iface h) .nil|agg p e=>exact⟨by grind[Value.cells],λi v v' n k=>e i v v' (by grind[Value.cells]) (by grind[Value.cells])⟩|tuple _ _=>grind[xG]
def live:Obj->Bool|.pending _ _=>false|_=>true
def Zo(g:Nat):List (Nat×Nat)->Option Nat|[]=>none|(k,n)::l=>cond (Nat.beq k g) (some n) (Zo g l)
def Zi(g N:Nat):Bool:=match Zo g Vy with|some n=>Nat.beq N n|none=>true
def rS(g):=(Zo g Vy).getD 0
theorem Iq(g):Zi g (rS g)=true:=by unfold Zi rS;cases Zo g Vy with|none=>rfl|some n=>simp_all
def zK(f:Inj)(g:Nat):Bool:=match f g with|some e=>decide (e.r=g)&&(decide (e.shift=0)&&Zi g e.N)|none=>false
theorem so{f g}:zK f g=true↔∃e,f g=some e/\e.r=g/\e.shift=0/\Zi g e.N=true:=by grind[zK]
theorem jL{f c}(d:f.le c)(g)(h:zK f g=true):zK c g=true:=by rw[so]at h⊢;have⟨e,j,i⟩:=h;exact⟨e,d _ _ j,i⟩
theorem cV(h:∀g,G g=true->G' g=true){x}(c:zy G x=true):zy G' x=true:=by cases x<;>first|exact c|exact h _ c
theorem aD(h:∀g,G g=true->G' g=true){c}(d:yT G c=true):yT G' c=true:=by grind[yT,cV]
theorem xE{G G'}(h:∀g,G g=true->G' g=true):∀(c b),codeOk G b c=true->codeOk G' b c=true|.skip,_,_=>rfl|.label _,_,_=>rfl|.ret,_,_=>rfl|.exit _,_,_=>rfl|.goto _,_,_=>rfl|.refuse _,_,_=>rfl|.seq x y,b,d=>by simp[codeOk]at d⊢;exact⟨xE h x b d.1,xE h y b d.2⟩|.cond v x y,b,d=>by simp[codeOk]at d⊢;exact⟨cV h d.1,xE h x b d.2.1,xE h y b d.2.2⟩|.block _ x,b,d=>by exact xE h x b d|.loop x,b,d=>by exact xE h x b d|.scope x,b,d=>by exact xE h x b d|.region _ f e,b,d=>by grind[codeOk,aD]|.rangeFunc v _ x y,b,d=>by simp only[codeOk,qGk]at d⊢;exact⟨d.1,cV h d.2.1,xE h x true d.2.2.1,xE h y true d.2.2.2⟩
def xP(P:T')(f:Inj)(e:Emb)(o:Obj)(y:Option Obj):Prop:=match o with|.cells c J D=>∃w z t,y=some (.cells w z t)/\w.size=e.N/\e.shift+c.size<=w.size/\(∀(i:Nat)v,c[i]?=some v->∃v',w[e.shift+i]?=some v'/\qI P f v v')/\(vE D=true->e.ro=false/\z=J/\∀j,j<w.size->¬(t.1<=j/\j<t.2))/\(D=(0,0)->e.shift=0/\c.size=w.size)|.pending _ _=>True|.map I C=>e.ro=false/\∃u,y=some (.map u C)/\u.size=I.size/\∀(i:Nat)x,I[i]?=some x->∃B,u[i]?=some B/\B.key=x.key/\B.born=x.born/\qI P f x.val B.val|.stringIter s p=>e.ro=false/\e.shift=0/\y=some (.stringIter s p)|.mapIter (some m) k seen A=>e.ro=false/\e.shift=0/\∃E d g,f m=some E/\y=some (.mapIter (some E.r) k d g)/\(∀x,x∈d↔x∈seen.toList)/\(∀n,A=n+1->d.back?=some n)/\(d.isEmpty=false->g=k)/\(∀x,x∈d->x<k)|.loop q=>e.ro=false/\∃h,y=some (.loop h)/\h.state=q.state/\h.pending=q.pending/\h.params=q.params/\h.assign=q.assign/\h.body=q.body/\qK P f q.tmps.toList h.tmps.toList/\codeOk (zK f) true q.assign=true/\codeOk (zK f) true q.body=true/\(∀c,q.pending=some c->pW c=true)/\e.shift=0|_=>False
theorem xP.mono{P f g e o L}(h:xP P f e o L)(t:f.le g):xP P g e o L:=by cases o<;>simp only[xP]at h⊢;(case cells c Z Y=>have⟨N,C,B,n,q,j,y,w,E⟩:=h;exact⟨N,C,B,n,q,j,λi v W=>let⟨v',a,b⟩:=y i v W;⟨v',a,b.mono t⟩,w,E⟩);(case map es S=>have⟨u,J,n,q,j⟩:=h;exact⟨u,J,n,q,λi x V=>let⟨X,a,b,c,d⟩:=j i x V;⟨X,a,b,c,d.mono t⟩⟩);(case stringIter s p=>exact h);(case mapIter m D seen K=>cases m with|none=>grind|some m=>have⟨u,z,R,k,U,n,q,j⟩:=h;exact⟨u,z,R,k,U,t _ _ n,q,j⟩);case loop lp=>have⟨u,A,n,q,j,y,w,E,Q,M,O,I⟩:=h;exact⟨u,A,n,q,j,y,w,E,Q.mono t,xE (jL t) _ _ M,xE (jL t) _ _ O,I⟩
structure Rel(P:T')(f:Inj)(H:IH)(w:J'):Prop where
 dom:∀b e,f b=some e->b<H.size
 fresh:∀b,H.size<=b->H.get b=none
 bound:∀b e,f b=some e->e.r<w.heap.size
 obj:∀b e o,f b=some e->H.get b=some o->xP P f e o w.heap[e.r]?
 sep:∀b1 b2 e1 e2 o1 o2,b1≠b2->f b1=some e1->f b2=some e2->H.get b1=some o1->H.get b2=some o2->live o1=true->live o2=true->e1.r=e2.r->e1.ro=true/\e2.ro=true
 jG:∀b1 b2 e1 e2,f b1=some e1->f b2=some e2->e1.r=e2.r->e1.ro=e2.ro
def Own(f:Inj)(r):=∃b e,f b=some e/\e.r=r/\e.ro=false
def jb(w:J')(r:Nat):=∃c,w.heap[r]?=some (.loop c)
structure Grow(f:Inj)(H:IH)(w:J')(f':Inj)(H':IH)(w':J'):Prop where
 kZ:H.size<=H'.size
 stay:∀b,b<H.size->f b=none->f' b=none
 le:f.le f'
 size:w.heap.size<=w'.heap.size
 keep:∀r,r<w.heap.size->¬Own f r->¬Own f' r/\w'.heap[r]?=w.heap[r]?
 un:∀r,r<w.heap.size->(∀b e,f b=some e->e.r≠r)->∀b e,f' b=some e->e.r≠r
 out:w'.os=w.os/\w'.output=w.output/\w'.tape=w.tape
 lps:∀r,jb w r->jb w' r
theorem Grow.refl(f H w):Grow f H w f H w:=⟨qGl _,λ_ _ h=>h,f.le_refl,qGl _,λ_ _ h=>⟨h,rfl⟩,λ_ _ h=>h,⟨rfl,rfl,rfl⟩,λ_ h=>h⟩
theorem Grow.trans{f j e H g n w i d}(a:Grow f H w j g i)(b:Grow j g i e n d):Grow f H w e n d:=⟨qHE a.kZ b.kZ,λx k t=>b.stay x (qGo k a.kZ) (a.stay x k t),Inj.le_trans a.le b.le,qHE a.size b.size,λr c q=>by have⟨p,z⟩:=a.keep r c q;have⟨y,u⟩:=b.keep r (qGo c a.size) p;grind,λr c s=>b.un r (qGo c a.size) (a.un r c s),⟨b.out.1.trans a.out.1,b.out.2.1.trans a.out.2.1,b.out.2.2.trans a.out.2.2⟩,λr h=>b.lps r (a.lps r h)⟩
def Keep(f:Inj)(H c:IH):=H.size<=c.size/\∀b,b<H.size->f b=none->c.get b=H.get b
theorem Keep.refl(f H):Keep f H H:=⟨qGl _,λ_ _ _=>rfl⟩
theorem IH.get_put:(H.put b o).get x=if x=b then some o else H.get x:=by simp[IH.get,IH.put,Tr.r6]
theorem IH.yX:(H.push o).get x=if x=H.size then some o else H.get x:=by simp[IH.get,IH.push,Tr.r6]
@[simp]theorem IH.size_put{H:IH}{b o}:(H.put b o).size=H.size:=rfl
@[simp]theorem IH.size_push{H:IH}{o}:(H.push o).size=H.size+1:=rfl
theorem Keep.put{f e}(h:f b=some e):Keep f H (H.put b o):=⟨qGl _,λx _ c=>by grind[IH.get_put]⟩
theorem Keep.push{f}:Keep f H (H.push o):=⟨by simp,λx c _=>by rw[IH.yX,if_neg (by omega)]⟩
def World.put(w:J')(r o):={w with heap:=w.heap.setIfInBounds r o}
theorem heap_put{w}(h:r<w.heap.size):(World.put w r o).heap[x]?=if x=r then some o else w.heap[x]?:=by grind[World.put]
theorem heap_alloc{w:J'}:(w.alloc o).heap[x]?=if x=w.heap.size then some o else w.heap[x]?:=by show(w.heap.push o)[x]?=_;grind
structure vM(rd:Bool)(F:Fence)(w:J'):Prop where
 eq:rd=F.round.isSome
 lp:∀l,F.round=some l->jb w l
theorem vM.mono{c w d}(h:vM c F w)(f:∀r,jb w r->jb d r):vM c F d:=⟨h.eq,λl e=>f l (h.lp l e)⟩
theorem vM.none{w}(h:F.round=.none):vM false F w:=⟨by grind,λl e=>by grind⟩
theorem jb.lt{w}(h:jb w r):r<w.heap.size:=by have⟨c,h⟩:=h;grind
theorem jb.alloc{w}(o)(h:jb w r):jb (w.alloc o) r:=by have:=h.lt;have⟨c,h⟩:=h;exact⟨c,by rw[heap_alloc,if_neg (by omega)];exact h⟩
theorem jb.put{w}(e:w.heap[r0]?=some o)(d:∀c,o≠.loop c)(h:jb w r):jb (World.put w r0 o') r:=by have⟨c,h⟩:=h;refine⟨c,?_⟩;show(w.heap.setIfInBounds r0 o')[r]?=_;grind
theorem Rel.push{f w e}(h:Rel P f H w)(D:e.r=w.heap.size)(Q:xP P (f.add H.size e) e o (some o')):Rel P (f.add H.size e) (H.push o) (w.alloc o')/\Grow f H w (f.add H.size e) (H.push o) (w.alloc o'):=by(have j:f H.size=none:=by cases O:f H.size with|none=>rfl|some y=>have:=h.dom _ _ O;omega);have n:f.le (f.add H.size e):=Inj.fV j;(have E:∀b y,f b=some y->y.r≠w.heap.size:=λb y c=>by have:=h.bound b y c;omega);refine⟨⟨?_,?_,?_,?_,?_,?_⟩,⟨by simp,(λb c U=>by grind[Inj.zB]),n,by simp,?_,?_,⟨rfl,rfl,rfl⟩,λr h=>h.alloc _⟩⟩;{intro b y c;by_cases d:b=H.size;{subst d;simp};rw[Inj.zB d]at c;have:=h.dom b y c;simp;omega};{intro b c;simp only[IH.size_push]at c;rw[IH.yX,if_neg (by omega)];exact h.fresh b (by omega)};{intro b y c;by_cases d:b=H.size;{subst d;rw[Inj.add_same]at c;simp_all};rw[Inj.zB d]at c;have:=h.bound b y c;simp;omega};{intro b y L c g;by_cases d:b=H.size;{subst d;rw[Inj.add_same]at c;cases c;rw[IH.yX,if_pos rfl]at g;cases g;rw[heap_alloc,if_pos D];exact Q};rw[Inj.zB d]at c;rw[IH.yX,if_neg d]at g;rw[heap_alloc,if_neg (E b y c)];exact(h.obj b y L c g).mono n};{intro p s d B S N t i k K J R M u;by_cases q:p=H.size;{subst q;rw[Inj.add_same]at i;cases i;rw[Inj.zB (Ne.symm t)]at k;grind};rw[Inj.zB q]at i;by_cases z:s=H.size;{grind[Inj.add_same,absurd]};rw[Inj.zB z]at k;rw[IH.yX,if_neg q]at K;rw[IH.yX,if_neg z]at J;exact h.sep p s d B S N t i k K J R M u};{intro p s d B i k u;by_cases q:p=H.size;{grind[Inj.add_same,Inj.zB,absurd]};rw[Inj.zB q]at i;by_cases z:s=H.size;{grind[Inj.add_same,absurd]};rw[Inj.zB z]at k;exact h.jG p s d B i k u};{intro r u I;refine⟨?_,by rw[heap_alloc,if_neg (by omega)]⟩;rintro⟨b,y,c,C,A⟩;by_cases d:b=H.size;{grind[Inj.add_same]};rw[Inj.zB d]at c;exact I ⟨b,y,c,C,A⟩};grind[Inj.add_same,Inj.zB]
theorem xP.qAi{f e c}(h:xP P f e o (some (.loop c)))(d:live o=true):∃c,o=.loop c:=by cases o<;>simp only[xP]at h;(case cells=>grind);(case map=>grind);(case stringIter=>grind);(case mapIter m _ _ _=>grind);(case loop c=>grind);case pending=>cases d
theorem Rel.put{P f H w w' o o1 cF b e}(h:Rel P f H w)(i:f b=some e)(B:H.get b=some o)(c:live o=true)(N:e.ro=false)(Z:xP P f e o1 (some cF))(W:∀x,w'.heap[x]?=if x=e.r then some cF else w.heap[x]?)(K:w'.heap.size=w.heap.size)(n:w'.os=w.os/\w'.output=w.output/\w'.tape=w.tape:=by exact⟨rfl,rfl,rfl⟩)(M:(∃t,o=.loop t)->∃t,cF=.loop t:=by first|exact λ_=>⟨_,rfl⟩|(rintro⟨_,h⟩;cases h)):Rel P f (H.put b o1) w'/\Grow f H w f (H.put b o1) w'/\Keep f H (H.put b o1):=by refine⟨⟨h.dom,?_,?_,?_,?_,h.jG⟩,⟨qGl _,λ_ _ h=>h,f.le_refl,by omega,?_,λ_ _ h=>h,n,λr Y=>?_⟩,Keep.put i⟩;{intro x k;rw[IH.get_put,if_neg];{exact h.fresh x k};intro d;have:=h.dom _ _ i;simp at k;omega};{intro x y k;rw[K];exact h.bound x y k};{intro x y A k j;rw[W];by_cases d:x=b;{grind[IH.get_put]};rw[IH.get_put,if_neg d]at j;by_cases q:y.r=e.r;{by_cases s:live A=true;{have:=h.sep x b y e A o d k i j B s c q;grind};cases A<;>simp[live]at s;simp[xP]};rw[if_neg q];exact h.obj x y A k j};{intro E C d q cF z g D I J u X R L;rw[IH.get_put]at J u;by_cases V:E=b;{subst V;rw[i]at D;cases D;rw[if_neg (Ne.symm g)]at u;exact h.sep E C e q o z g i I B u c R L};rw[if_neg V]at J;by_cases S:C=b;{subst S;rw[i]at I;cases I;exact h.sep E C d e cF o g D i J B X c L};rw[if_neg S]at u;exact h.sep E C d q cF z g D I J u X R L};{intro r _ p;refine⟨p,?_⟩;rw[W,if_neg];intro d;exact p ⟨b,e,i,d.symm,N⟩};have⟨t,Q⟩:=Y;by_cases d:r=e.r;{subst d;have⟨O,U⟩:=M (xP.qAi (Q▸h.obj b e o i B) c);exact⟨O,by grind⟩};exact⟨t,by grind⟩
theorem Rel.kill{f w e}(h:Rel P f H w)(I:f b=some e):Rel P f (H.put b kD) w:=by refine⟨h.dom,?_,h.bound,?_,?_,h.jG⟩;{intro x d;rw[IH.get_put,if_neg];{exact h.fresh x d};have:=h.dom _ _ I;simp at d;omega};{intro x y A d c;rw[IH.get_put]at c;by_cases j:x=b;{grind[xP,kD]};rw[if_neg j]at c;exact h.obj x y A d c};intro p n j z J s i C B k g D t u;rw[IH.get_put]at k g;by_cases E:p=b;{grind[live,kD]};by_cases q:n=b;{grind[live,kD]};rw[if_neg E]at k;rw[if_neg q]at g;exact h.sep p n j z J s i C B k g D t u
theorem Rel.world{f w d}(h:Rel P f H w)(g:d.heap=w.heap):Rel P f H d:=⟨h.dom,h.fresh,λb e c=>by rw[g];exact h.bound b e c,λb e o c i=>by rw[g];exact h.obj b e o c i,h.sep,h.jG⟩
theorem Grow.sizes{f c j g d w i}(h:Grow f H w c j i)(e:g.size<=H.size)(n:j.size<=d.size):Grow f g w c d i:=⟨qHE e (qHE h.kZ n),λb k p=>h.stay b (qGo k e) p,h.le,h.size,h.keep,h.un,h.out,h.lps⟩
theorem Grow.world{f w d}(e:d.heap=w.heap)(c:d.os=w.os/\d.output=w.output/\d.tape=w.tape:=by exact⟨rfl,rfl,rfl⟩):Grow f H w f H d:=⟨qGl _,λ_ _ h=>h,f.le_refl,by grind,λr _ h=>⟨h,by rw[e]⟩,λ_ _ h=>h,c,λr h=>by grind[jb]⟩
end Go.Idl
