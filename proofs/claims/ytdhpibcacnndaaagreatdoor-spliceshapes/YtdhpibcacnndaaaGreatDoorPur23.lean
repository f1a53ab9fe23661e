/- Regions that draw their order, whose operations commute: whatever the order. Conditions: none. -/
import Derived.Test.YtdhpibcacnndaaaGreatDoorPur22
set_option linter.all false
namespace Go.Idl
variable [Gc]
variable [Frs]
variable {P : Program} {G : Nat -> Bool} {nat : yV} {tab : uF} {nm : Nm} {good : FuncId -> Bool} {rd : Bool}
section
variable {ops : Array Oper} {q9I : List PV} {ph0 : PHp} {En : Nat -> List PV} {Hs : Nat -> PHp} {V : Nat -> PV} {E F : List (Nat × List Nat)} {N : List (Nat × Nat)} {W : List (Nat × PV)} {O : List (Nat × PHp)}
theorem pY (t : TrC P tab nm (ops.toList.map (·.dst)) ops.toList q9I ph0 En Hs V 0 E F N W O) {i : Nat} {o : Oper} (h : ops[i]? = some o) :
 En (i + 1) = yB (En i) o.dst (V i) ∧ (0 + i, V i) ∈ W ∧
 ((jV (ops.toList.map (·.dst)) o (En i) = some true ∧ xM P tab (qG nm o.dst) o (En i) (Hs i) = .ok (V i) (Hs (i + 1)) ∧ (ndF o (En i) = true -> inP nm (qG nm o.dst) = true ∧ (0 + i, qG nm o.dst) ∈ N) ∧
    (okF o (En i) = true -> (0 + i, RF o (qG nm o.dst) (En i)) ∈ E ∧ (0 + i, aG (RF o (qG nm o.dst) (En i)) (Hs (i + 1))) ∈ O) ∧ (okF o (En i) = false -> (0 + i, dlC o (En i)) ∈ F)) ∨
   (jV (ops.toList.map (·.dst)) o (En i) = some false ∧ V i = .tup [] ∧ Hs (i + 1) = Hs i)) := t.step i o (by simpa using h)
theorem TrC.e (t : TrC P tab nm (ops.toList.map (·.dst)) ops.toList q9I ph0 En Hs V 0 E F N W O) : TrE ops.size ops q9I En V := ⟨t.e0, fun i o h _ => (pY t h).1⟩
noncomputable def wtC (nm : Nm) (ops : Array Oper) (En : Nat -> List PV) (i : Nat) : List Nat := match ops[i]? with
 | some o => cond (okF o (En i)) (match jV (ops.toList.map (·.dst)) o (En i) with
   | some true => RF o (qG nm o.dst) (En i)
   | _ => []) []
 | none => []
theorem qZG {i l : Nat} (h : l ∈ wtC nm ops En i) : ∃ o, ops[i]? = some o ∧ okF o (En i) = true ∧ jV (ops.toList.map (·.dst)) o (En i) = some true ∧ wtC nm ops En i = RF o (qG nm o.dst) (En i) := by
 unfold wtC at h ⊢
 cases ho : ops[i]? with
 | none => rw [ho] at h; cases h
 | some o =>
   rw [ho] at h
   cases he : okF o (En i) with
   | false => simp only [he, cond_false] at h; cases h
   | true =>
     cases hw : jV (ops.toList.map (·.dst)) o (En i) with
     | none => simp only [he, cond_true, hw] at h; cases h
     | some b => cases b with
       | false => simp only [he, cond_true, hw] at h; cases h
       | true => exact ⟨o, rfl, he, hw, by simp only [he, cond_true, hw]⟩
theorem qQ6 {i : Nat} {o : Oper} (ho : ops[i]? = some o) (he : okF o (En i) = true) (hw : jV (ops.toList.map (·.dst)) o (En i) = some true) : wtC nm ops En i = RF o (qG nm o.dst) (En i) := by
 unfold wtC; rw [ho]; simp only [he, cond_true, hw]
theorem q7S (t : TrC P tab nm (ops.toList.map (·.dst)) ops.toList q9I ph0 En Hs V 0 E F N W O) {i : Nat} {o : Oper} (ho : ops[i]? = some o) (he : okF o (En i) = true) (hw : jV (ops.toList.map (·.dst)) o (En i) = some true) :
 ∃ f : PHp -> Option (PV × PHp), Loc (RF o (qG nm o.dst) (En i)) f (Hs i) (V i) (Hs (i + 1)) ∧ ∀ q v q1, f q = some (v, q1) -> xM P tab (qG nm o.dst) o (En i) q = .ok v q1 := by
 rcases (pY t ho).2.2 with ⟨_, g, _⟩ | ⟨g, _⟩
 ·cases hpf : pfr o (En i) with
  | none =>
    have hfr : qGK o (En i) = false := by unfold qGK; rw [hpf]
    unfold okF at he;rw [hfr, zMT] at he;obtain ⟨g2, g3, g4⟩ := qEW hpf g;rw [qQ3 he] at g2;have hR : RF o (qG nm o.dst) (En i) = RC o (qG nm o.dst) (En i) := by unfold RF; rw [hfr]; rfl
    rw [hR];refine ⟨_, q3N he (vQ g2), fun q v q1 hq => nJ hpf (by rw [qQ3 he, hq]; rfl) g3 ?_⟩;unfold wT
    rw [qCQ (fun ⟨f, args, ts, h⟩ => by
     unfold okE at he;rw [h] at he
     cases he)]
    rfl
  | some q =>
    obtain ⟨el, n, cs⟩ := q;obtain ⟨a1, a2, a3⟩ := qAZ hpf g
    cases n with
    | zero =>
      have hfr : qGK o (En i) = false := by unfold qGK; rw [hpf]
      unfold okF at he;rw [hfr, zMT, (qIY hpf).1] at he;cases he
    | succ n =>
      have hfr : qGK o (En i) = true := by unfold qGK; rw [hpf]
      have hR : RF o (qG nm o.dst) (En i) = [qG nm o.dst] := by unfold RF; rw [hfr]; rfl
      rw [hR, a2, a3];refine ⟨fun q => some (frV (qG nm o.dst) el (n + 1), (qG nm o.dst, ⟨el, true, cs.map .f⟩) :: q), dU (zL3 _) fun _ _ => rfl, fun q v q1 hq => ?_⟩;cases hq;exact mK hpf a1 q
 ·rw [hw] at g; cases g
theorem fU {k : Nat} {o : Oper} {env env' : List PV} {ph : PHp} (h : ∀ x ∈ o.op.operands, qI env x = qI env' x) : xM P tab k o env ph = xM P tab k o env' ph ∧ pfr o env = pfr o env' := by
 have hc : ∀ {f args ts}, o.op = .call ⟨.value f, args, ts⟩ -> qI env f = qI env' f ∧ args.toList.map (qI env) = args.toList.map (qI env') := fun {f args ts} hop => by
  rw [hop] at h;exact ⟨h f (by simp [Op.operands, Call.operands]), zKF fun x hx => h x (by simp [Op.operands, Call.operands, zJ6, hx])⟩
 have h1 : pfr o env = pfr o env' := by
  unfold pfr;split
  ·rename_i f args ts hop;rw [(hc hop).1, (hc hop).2]
  ·rfl
 have h2 : qAU o env = qAU o env' := by
  unfold qAU;split
  ·rename_i f args ts hop;rw [(hc hop).1, (hc hop).2]
  ·rfl
 refine ⟨?_, h1⟩;unfold xM wT;rw [h1, h2, aH h]
theorem qXT [q93 P G] {Z : Nat -> Prop} {H : IH} {m : Nat -> Nat} {ph : PHp} {F : Fence} (hF : bX F) (hns : j5 P G nat) (ht : qQF P nat tab) {o : Oper} {env : List PV} {q9E : Env} {f : Inj} {a : Act} {w : World} {v : PV} {ph' : PHp} (hR : Rel P f H w) (hG : gN G f) (q9M : qC P f q9E a.tmps.toList)
 (hok : o.op.operands.toList.all (kZ (qZ f)) = true) (hp : Hp P Z H (own m ph)) (hb : H.base <= H.size) (he : VRL P Z H (own m ph) env q9E) (hx : xM P tab (qG nm o.dst) o env ph = .ok v ph') (hn : ndF o env = true -> fresh nm (qG nm o.dst) env ph = true)
 {K : Act -> World -> Prop} {Qx : Exit -> Act -> World -> Prop}
 (hK : ∀ (Z' : Nat -> Prop) (m' : Nat -> Nat) (u : Value) (H' : IH) (f' : Inj) (v' : Value) (w' : World), Hp P Z' H' (own m' ph') -> VR P Z' H' (own m' ph') v u -> VRL P Z' H' (own m' ph') env q9E -> Step Z H (own m ph) Z' H' (own m' ph') -> KR (inP nm) (own m ph) (own m' ph') ->
   Rel P f' H' w' -> Grow f H w f' H' w' -> q9F P f' u v' -> K (a.put o.dst v') w') : o.wpIn F 0 P a w K Qx := by
 cases hpf : pfr o env with
 | none =>
   exact qKG hF hns ht hR hG q9M hok hp hb he (qG8 (qEW hpf hx).1) (fun h => hn (by unfold ndF; rw [h]; rfl)) hK
 | some q =>
   obtain ⟨el, n, cs⟩ := q;obtain ⟨a1, rfl, rfl⟩ := qAZ hpf hx;obtain ⟨x, args, ts, g, hop, htg, hg⟩ := qLD hpf;refine qY1 hF hR hG q9M hok hp hb he hop htg hg a1 (fun hn0 => hn ?_) hK;unfold ndF qGK;rw [hpf]
   cases n with
   | zero => exact absurd rfl hn0
   | succ n => exact Bool.or_true _
theorem qI1 (t : TrC P tab nm (ops.toList.map (·.dst)) ops.toList q9I ph0 En Hs V 0 E F N W O) {i l : Nat} (hi : i < ops.size) (hl : l ∉ wtC nm ops En i) : qA l (Hs (i + 1)) = qA l (Hs i) := by
 have ho : ops[i]? = some ops[i] := zJL hi
 rcases (pY t ho).2.2 with ⟨g1, g, _⟩ | ⟨_, _, g⟩
 ·cases he : okF ops[i] (En i) with
  | true =>
    rw [qQ6 ho he g1] at hl;obtain ⟨f, hf, _⟩ := q7S t ho he g1;exact hf.2.1 l hl
  | false => rw [(qBM he g).1]
 ·rw [g]
theorem q7T (t : TrC P tab nm (ops.toList.map (·.dst)) ops.toList q9I ph0 En Hs V 0 E F N W O) {i l : Nat} (hi : i < ops.size) (hl : (qA l (Hs i)).isSome = true) : (qA l (Hs (i + 1))).isSome = true := by
 have ho : ops[i]? = some ops[i] := zJL hi
 rcases (pY t ho).2.2 with ⟨g1, g, _⟩ | ⟨_, _, g⟩
 ·cases he : okF ops[i] (En i) with
  | true =>
    obtain ⟨f, hf, _⟩ := q7S t ho he g1;exact hf.1 l hl
  | false => rw [(qBM he g).1]; exact hl
 ·rw [g]; exact hl
theorem qZD (t : TrC P tab nm (ops.toList.map (·.dst)) ops.toList q9I ph0 En Hs V 0 E F N W O) {l : Nat} : ∀ (d i : Nat), i + d = ops.size -> (qA l (Hs i)).isSome = true -> (qA l (Hs ops.size)).isSome = true
 | 0, i, h, hl => by rw [<- h]; exact hl
 | d + 1, i, h, hl => qZD t d (i + 1) (by omega) (q7T t (by omega) hl)
noncomputable def hSC (nm : Nm) (ops : Array Oper) (En : Nat -> List PV) (Hs : Nat -> PHp) (S : Array Bool) (l : Nat) : Option PO := qA l (Hs (lst S (wtC nm ops En) l ops.size))
noncomputable def qGM (nm : Nm) (ops : Array Oper) (En : Nat -> List PV) (Hs : Nat -> PHp) (S : Array Bool) : PHp := (Hs ops.size).filterMap fun p => (hSC nm ops En Hs S p.1).map fun o => (p.1, o)
theorem q6G {S : Array Bool} {Wt : Nat -> List Nat} {l n : Nat} : lst S Wt l n <= n := by
 rcases qBX (S := S) (Wt := Wt) (l := l) n with h | ⟨i, h1, h2, _⟩ <;> omega
theorem jJ (t : TrC P tab nm (ops.toList.map (·.dst)) ops.toList q9I ph0 En Hs V 0 E F N W O) (S : Array Bool) (l : Nat) : qA l (qGM nm ops En Hs S) = hSC nm ops En Hs S l := by
 unfold qGM;rw [rO]
 cases hs : (qA l (Hs ops.size)).isSome with
 | true => rfl
 | false =>
   simp only [zKV, if_false];unfold hSC
   cases hp : qA l (Hs (lst S (wtC nm ops En) l ops.size)) with
   | none => rfl
   | some o =>
     have := qZD t (ops.size - lst S (wtC nm ops En) l ops.size) (lst S (wtC nm ops En) l ops.size) (by have := q6G (S := S) (Wt := wtC nm ops En) (l := l) (n := ops.size); omega) (by rw [hp]; rfl);rw [hs] at this; cases this
structure zCV (P : Program) (B : Nat) (nm : Nm) (ops : Array Oper) (q9I : List PV) (En : Nat -> List PV) (Hs : Nat -> PHp) (Z0 : Nat -> Prop) (H0 : IH) (m0 : Nat -> Nat) (ph0 : PHp) (f0 : Inj) (w0 : World) (S : Array Bool) (a : Act) (w : World) (Z : Nat -> Prop) (H : IH) (m : Nat -> Nat) (f : Inj) (q9E : Env) : Prop where
 size : S.size = ops.size
 clo : Clo ops S
 rel : Rel P f H w
 grow : Grow f0 H0 w0 f H w
 zAU : qC P f q9E a.tmps.toList
 marks : Marks B f w a.defers
 hp : Hp P Z H (own m (qGM nm ops En Hs S))
 hb : H.base <= H.size
 env : VRL P Z H (own m (qGM nm ops En Hs S)) (qCT ops S q9I (En ops.size)) q9E
 step : Step Z0 H0 (own m0 ph0) Z H (own m (qGM nm ops En Hs S))
 kr : KR (inP nm) (own m0 ph0) (own m (qGM nm ops En Hs S))
theorem qQD [q93 P G] {B : Nat} {F0 : Fence} (hF : bX F0) (hns : j5 P G nat) (ht : qQF P nat tab) (t : TrC P tab nm (ops.toList.map (·.dst)) ops.toList q9I ph0 En Hs V 0 E F N W O) (st : zA5 ops)
 (hck : q38 (Region.before ops) ph0 q9I E F N W O = true) {K : Exit -> Act -> World -> Prop} {Z0 : Nat -> Prop} {H0 : IH} {m0 : Nat -> Nat} {f0 : Inj} {w0 : World}
 (hdone : ∀ (fuel : Nat) (S : Array Bool) (Z : Nat -> Prop) (H : IH) (m : Nat -> Nat) (f : Inj) (q9E : Env) (a : Act) (w : World), S.size = ops.size -> (∀ i, i < ops.size -> sel S i) -> Rel P f H w -> Grow f0 H0 w0 f H w -> qC P f q9E a.tmps.toList -> Marks B f w a.defers -> Hp P Z H (own m (Hs ops.size)) -> H.base <= H.size -> VRL P Z H (own m (Hs ops.size)) (En ops.size) q9E ->
   Step Z0 H0 (own m0 ph0) Z H (own m (Hs ops.size)) -> KR (inP nm) (own m0 ph0) (own m (Hs ops.size)) -> wpAnyIn F0 0 P .any ops K fuel S a w)
 (hG : gN G f0) (hok : wS (qZ f0) ops = true) :
 ∀ (fuel : Nat) (S : Array Bool) (a : Act) (w : World), unl ops S <= fuel -> (∃ Z H m f q9E, zCV P B nm ops q9I En Hs Z0 H0 m0 ph0 f0 w0 S a w Z H m f q9E) -> wpAnyIn F0 0 P .any ops K fuel S a w := by
 intro fuel;have hn : ops.size <= ops.size := zI7 _;have te := t.e;have hl := gZ te hn _ (zI7 _)
 have q96 : ∀ {S : Array Bool}, S.size = ops.size -> Region.ready .any ops S = [] -> ∀ j, j < ops.size -> sel S j := by
  intro S hsz hr j
  induction j using Nat.strongRecOn with
  | _ j ih =>
    intro hj;by_cases hs : sel S j
    ·exact hs
    ·exfalso
     have : j ∈ Region.ready .any ops S := by
      rw [mem_ready];refine ⟨?_, ops[j], by simp [hj], fun e he hb => ?_⟩
      ·unfold sel at hs;rw [zJH] at hs ⊢;rw [zJL (by omega)] at hs ⊢;simpa using hs
      ·have hlt := st.back j ops[j] (by simp [hj]) e he hb;exact ih e.on hlt (by omega)
     rw [hr] at this;cases this
 have done : ∀ {fuel : Nat} {S : Array Bool} {a : Act} {w : World} {Z : Nat -> Prop} {H : IH} {m : Nat -> Nat} {f : Inj} {q9E : Env}, zCV P B nm ops q9I En Hs Z0 H0 m0 ph0 f0 w0 S a w Z H m f q9E -> (∀ j, j < ops.size -> sel S j) -> wpAnyIn F0 0 P .any ops K fuel S a w := by
  intro fuel S a w Z H m f q9E s hall
  have hpe : own m (qGM nm ops En Hs S) = own m (Hs ops.size) := qB1 fun l => by
   rw [jJ t];unfold hSC;rw [oJ (j := ops.size) ops.size (fun i hi hl => qI1 t hi hl) (fun i hi _ => ⟨fun _ => hi, fun _ => hall i hi⟩), Nat.min_self]
  have hcur : qCT ops S q9I (En ops.size) = En ops.size := by
   apply qBZ
   ·rw [jI, hl]
   intro x;rw [uZ hl];by_cases hw : wr ops S x
   ·rw [if_pos hw]
   ·rw [if_neg hw];exact (qFA te hn _ (zI7 _) fun k o hk ho hd => hw ⟨k, o, ho, hall k hk, hd⟩).symm
  have e1 := s.hp;have e2 := s.env;have e3 := s.step;have e4 := s.kr;rw [hpe] at e1 e2 e3 e4;rw [hcur] at e2;exact hdone fuel S Z H m f q9E a w s.size hall s.rel s.grow s.zAU s.marks e1 s.hb e2 e3 e4
 unfold q38 at hck;rw [zI5] at hck
 induction fuel with
 | zero =>
   rintro S a w hu ⟨Z, H, m, f, q9E, s⟩
   have hall : ∀ j, j < ops.size -> sel S j := by
    intro j hj;have hz : unl ops S = 0 := by omega
    unfold unl at hz;have := zMG.1 hz j (zLW.2 hj);unfold sel;simpa using this
   exact done s hall
 | succ fuel ih =>
   rintro S a w hu ⟨Z, H, m, f, q9E, s⟩;by_cases hall : ∀ j, j < ops.size -> sel S j
   ·exact done s hall
   refine ⟨fun hrd => absurd (q96 s.size hrd) hall, fun j hj => ?_⟩;rw [mem_ready] at hj;obtain ⟨hjl, o, ho, zBO⟩ := hj;have hlt := (zJG.1 ho).1;have hjs : j < S.size := by rw [s.size]; exact hlt
   have hnj : ¬ sel S j := by
    unfold sel;rw [zJH, zJL hjs] at hjl ⊢;simp only [zK2] at hjl ⊢;rw [hjl]; simp
   have hpre : ∀ i, jX (Region.before ops) i j = true -> sel S i := by
    intro i hb;obtain ⟨e, he, hbd, h3⟩ := (qEF st.back ho).1 hb;have := zBO e he hbd;rcases h3 with rfl | h3
    ·exact this
    ·exact s.clo _ _ h3 this
   have hsl : ∀ i, sel S i -> i < ops.size := fun i hi => by
    unfold sel at hi;rw [zJH] at hi;by_cases hx : i < S.size
    ·rw [<- s.size]; exact hx
    ·rw [zMR (by omega)] at hi; cases hi
   have hu' : unl ops (S.setIfInBounds j true) <= fuel := by
    have := qLO hlt s.size hnj; omega
   have zAT := qKK hjs s.clo hpre
   have hok' : o.op.operands.toList.all (kZ (qZ f)) = true := by
    have h1 := xZ (zF s.grow.le) hok;unfold wS at h1;exact zI8.1 h1 o (zJ8 (toL ho))
   have hag := qZO te hn st s.clo hsl ho (by omega) hnj hpre;have hlen : (qCT ops S q9I (En ops.size)).length = (En j).length := by rw [jI, gZ te hn j (by omega)]
   have hval := qCY hag;have hwc := qBR (ops := ops) hlen hag;have hGf := hG.mono s.grow.le;have zBR := qOX te hn st ho hlt hjs;obtain ⟨q1, q2, q3⟩ := pY t ho
   -- writers of what it reads
   have pre : ∀ {R : List Nat}, (0 + j, R) ∈ E ++ F -> ∀ l ∈ R, ∀ i, i < ops.size -> l ∈ wtC nm ops En i -> i ≠ j -> (sel S i ↔ i < j) := by
    intro R hR l hlR i hi hli hij;obtain ⟨oi, hoi, hei, hwi, hwt⟩ := qZG hli
    have hEi : (0 + i, RF oi (qG nm oi.dst) (En i)) ∈ E := by
     rcases (pY t hoi).2.2 with ⟨_, _, _, g, _⟩ | ⟨g, _⟩
     ·exact (g hei).1
     ·rw [hwi] at g; cases g
    have h1 := zI8.1 (zI8.1 hck.1 _ hEi) _ hR;simp only [zJS, zKC, zI8] at h1;rcases h1 with h1 | h1 | h1
    ·exact absurd (zI6 h1) hij
    ·unfold qOV at h1;rw [zKC] at h1;rcases h1 with h | h
     ·have := j6 st.back j i h;exact ⟨fun _ => this, fun _ => hpre i h⟩
     ·have := j6 st.back i j h;exact ⟨fun hs => absurd (s.clo j i h hs) hnj, fun h2 => by omega⟩
    ·have := h1 l hlR;rw [<- hwt] at this;simp [hli] at this
   have zEI : ∀ {l : Nat}, l ∉ wtC nm ops En j -> hSC nm ops En Hs (S.setIfInBounds j true) l = hSC nm ops En Hs S l := by
    intro l hlj;unfold hSC
    rw [qG5 (S := S.setIfInBounds j true) (S' := S) ops.size fun i hi hli => by
     rw [yA hjs]
     exact ⟨fun h => h.resolve_left fun e => hlj (e ▸ hli), .inr⟩]
   unfold wpOpIn;rw [ho];simp only
   rcases q3 with ⟨g1, g2, g3, g4, g5⟩ | ⟨g1, g2, g3⟩
   ·have g1' := g1;rw [<- hwc] at g1;rw [yO s.zAU (oW s.env g1), if_pos rfl]
    -- the operation at this state
    have hx : ∃ php, xM P tab (qG nm o.dst) o (qCT ops S q9I (En ops.size)) (qGM nm ops En Hs S) = .ok (V j) php ∧ ∀ l, qA l php = qA l (qGM nm ops En Hs (S.setIfInBounds j true)) := by
     cases he : okF o (En j) with
     | true =>
       have hwt := qQ6 (nm := nm) ho he g1';have hR : (0 + j, RF o (qG nm o.dst) (En j)) ∈ E ++ F := zKQ _ (g4 he).1
       have hpj : ∀ l ∈ RF o (qG nm o.dst) (En j), ∀ i, i < ops.size -> l ∈ wtC nm ops En i -> (sel S i ↔ i < j) := by
        intro l hl i hi hli;by_cases hij : i = j
        ·subst hij; exact ⟨fun h => absurd h hnj, fun h => absurd h (zMF _)⟩
        ·exact pre hR l hl i hi hli hij
       obtain ⟨fC, ⟨_, _, hloc⟩, hfC⟩ := q7S t ho he g1'
       obtain ⟨php, p1, p2⟩ := hloc (qGM nm ops En Hs S) fun l hl => by
        rw [jJ t];unfold hSC;rw [oJ (j := j) ops.size (fun i hi hl => qI1 t hi hl) (hpj l hl), zMD (by omega)]
       refine ⟨php, ?_, fun l => ?_⟩
       ·rw [(fU hval).1]; exact hfC _ _ _ p1
       ·rw [jJ t];by_cases hl : l ∈ RF o (qG nm o.dst) (En j)
        ·rw [(p2 l).1 hl];unfold hSC
         rw [oJ (j := j + 1) ops.size (fun i hi hl => qI1 t hi hl) (fun i hi hli => by
          rw [yA hjs];by_cases hij : i = j
          ·subst hij; exact ⟨fun _ => zJ1 _, fun _ => .inl rfl⟩
          ·rw [show (i = j ∨ sel S i) ↔ sel S i from ⟨fun h => h.resolve_left hij, .inr⟩, hpj l hl i hi hli]
           omega), zMD (by omega)]
        ·rw [(p2 l).2 hl, jJ t, zEI (by rw [hwt]; exact hl)]
     | false =>
       obtain ⟨f1, f2⟩ := qBM he g2;have hwt : wtC nm ops En j = [] := by unfold wtC; rw [ho]; simp only [he, cond_false]
       have hR : (0 + j, dlC o (En j)) ∈ E ++ F := zK1 _ (g5 he)
       have := f2 (qG nm o.dst) (qGM nm ops En Hs S) fun l hl => by
        rw [jJ t];unfold hSC
        rw [oJ (j := j) ops.size (fun i hi hl => qI1 t hi hl) (fun i hi hli => by
         by_cases hij : i = j
         ·subst hij; rw [hwt] at hli; cases hli
         ·exact pre hR l hl i hi hli hij), zMD (by omega)]
       refine ⟨qGM nm ops En Hs S, ?_, fun l => ?_⟩
       ·rw [(fU hval).1]; exact this
       ·rw [jJ t, jJ t, zEI (by rw [hwt]; simp)]
    obtain ⟨php, hx, hlk⟩ := hx
    have hfresh : ndF o (qCT ops S q9I (En ops.size)) = true -> fresh nm (qG nm o.dst) (qCT ops S q9I (En ops.size)) (qGM nm ops En Hs S) = true := by
     intro hnd
     obtain ⟨i1, i3⟩ := g3 (by
      unfold ndF qGK at hnd ⊢;rw [(fU (P := P) (tab := tab) (k := 0) (ph := []) hval).2] at hnd
      exact hnd)
     have hN := zI8.1 hck.2 _ i3;rw [zI5, zI5, zI5] at hN;unfold fresh;rw [i1, zND, zI5];constructor
     ·refine qLT fun x => ?_
      rw [uZ hl];by_cases hw : wr ops S x
      ·rw [if_pos hw];obtain ⟨i, oi, hi, hs, hd⟩ := hw;by_cases hx' : x < q9I.length
       ·have hin := (zJG.1 hi).1;rw [qPD te hn st hi hd hx' _ (zI7 _) hin];have hW := zI8.1 hN.2.2.1 _ (pY t hi).2.1;simp only [zJS, zKC] at hW;rcases hW with h | h | h
        ·have := zI6 h;subst this;exact absurd hs hnj
        ·exact absurd (s.clo j i h hs) hnj
        ·exact h
       ·rw [mH (env := En ops.size) (t := x) (by rw [hl]; exact zMW hx')]; rfl
      ·rw [if_neg hw];exact qSV hN.1 x
     ·refine qRH fun p hp => ?_
      unfold qGM at hp;obtain ⟨q, hq, hpq⟩ := zLA.1 hp;obtain ⟨ob, hob, rfl⟩ := zJF.1 hpq;unfold hSC at hob
      rcases qBX (S := S) (Wt := wtC nm ops En) (l := q.1) ops.size with h0 | ⟨i, hi, h1, hs, hli⟩
      ·rw [h0, t.h0] at hob;exact jG hN.2.1 hob
      ·rw [h1] at hob;obtain ⟨oi, hoi, hei, hwi, hwt⟩ := qZG hli
       have hOi : (0 + i, aG (RF oi (qG nm oi.dst) (En i)) (Hs (i + 1))) ∈ O := by
        rcases (pY t hoi).2.2 with ⟨_, _, _, g, _⟩ | ⟨g, _⟩
        ·exact (g hei).2
        ·rw [hwi] at g; cases g
       have hc := zI8.1 hN.2.2.2 _ hOi;simp only [zJS, zKC] at hc;rcases hc with h | h | h
       ·have := zI6 h;subst this;exact absurd hs hnj
       ·exact absurd (s.clo j i h hs) hnj
       ·refine qM7 (p := (q.1, ob)) h ?_;unfold aG;exact zLA.2 ⟨q.1, by rw [<- hwt]; exact hli, by rw [hob]; rfl⟩
    refine qXT (G := G) (nm := nm) hF hns ht s.rel hGf s.zAU hok' s.hp s.hb s.env hx hfresh fun Z' m' u H' f' v' w' b1 b2 b3 b4 b5 k1 k2 k3 => ?_
    have ee : own m' php = own m' (qGM nm ops En Hs (S.setIfInBounds j true)) := qB1 hlk;rw [ee] at b1 b2 b3 b4 b5;refine ih _ _ _ hu' ⟨Z', H', m', f', q9E.q9W o.dst u, by simp [s.size], zAT, k1, s.grow.trans k2, kM (s.zAU.mono k2.le) k3 _, by rw [put_defers]; exact Marks.grow k2 _ s.marks, b1, by rw [b4.base]; exact zJQ s.hb b4.size, ?_, s.step.trans b4, s.kr.trans b5⟩;rw [zBR];exact b3.q9W b2 _
   ·have hwt : wtC nm ops En j = [] := by
     unfold wtC; rw [ho]; simp only [g1]; cases okF o (En j) <;> rfl
    have ee : own m (qGM nm ops En Hs S) = own m (qGM nm ops En Hs (S.setIfInBounds j true)) := qB1 fun l => by
     rw [jJ t, jJ t, zEI (by rw [hwt]; simp)]
    rw [<- hwc] at g1;rw [yO s.zAU (oW s.env g1), if_neg (by simp)];have e1 := s.hp;have e2 := s.env;have e3 := s.step;have e4 := s.kr;rw [ee] at e1 e2 e3 e4;refine ⟨fun g _ => hF.fn g, ih _ _ _ hu' ⟨Z, H, m, f, q9E.q9W o.dst undef, by simp [s.size], zAT, s.rel, s.grow, kM s.zAU .undef _, by rw [put_defers]; exact s.marks, e1, s.hb, ?_, e3, e4⟩⟩;rw [zBR, g2];exact e2.q9W (VRL.zBQ (vs := #[]) .nil) _
theorem q97.zGS [q93 P G] (s : q97 P good nat G tab) {id : Nat} {env : List PV} {ph : PHp} {Q : PQ} (hok : wS G ops = true) (hd : tC ops = true)
 (h : (qHA P tab nm (ops.toList.map (·.dst)) (Region.before ops) env ph 0 ops.toList env ph [] [] [] [] []).holds P G fun e p => Q .normal e p) : Runs P G rd nm (.region id ops true) env ph Q := by
 intro Z H m q9E hp hb he B F f a w hF hr hR hG q9M hm;obtain ⟨En, Hs, V, E', F', N', W', O', t, _, _, _, _, _, hck, hq⟩ := qAW _ _ _ _ _ _ _ _ _ h;have st := qW3 hd;have hlen : ops.toList.length = ops.size := by simp
 rw [hlen] at hq;have hl := gZ t.e (zI7 _) _ (zI7 _);refine wpIn_region_any s.s.mix (qQD (B := B) hF s.s.spec s.t t st hck (Z0 := Z) (H0 := H) (m0 := m) (f0 := f) (w0 := w) (K := jU P B f H w _) ?_ hG (xZ hG hok) _ _ _ _ ?_ ⟨Z, H, m, f, q9E, ?_⟩)
 ·intro fuel S Z' H' m' f' q92 a' w' k2 k3 k4 k5 k6 k7 k8 k9 k10 k11 k12;exact qGH k2 k3 ⟨⟨.normal, q92, H'⟩, f', ⟨Z', m', _, _, k8, k10, k11, k12, hq⟩, rfl, k4, k5, k6, k7⟩
 ·unfold unl;have := zMZ (p := fun j => !(Array.replicate ops.size false).getD j false) (l := List.range ops.size);simpa using this
 ·have hsel : ∀ i, ¬ sel (Array.replicate ops.size false) i := by
   intro i h;unfold sel at h;rw [zJH, zML] at h;split at h <;> simp at h
  have hcur : qCT ops (Array.replicate ops.size false) env (En ops.size) = env := by
   apply qBZ (jI _ _);intro x;rw [uZ hl, if_neg];rintro ⟨j, o, _, h2, _⟩;exact hsel j h2
  have hw : Grow f H w f H { w with drawn := w.drawn + 1 } := Grow.world rfl
  have ee : own m (qGM nm ops En Hs (Array.replicate ops.size false)) = own m ph := qB1 fun l => by
   rw [jJ t];unfold hSC;rw [oJ (j := 0) ops.size (fun i hi hl => qI1 t hi hl) (fun i hi _ => ⟨fun h => absurd h (hsel i), fun h => by omega⟩), Nat.min_zero, t.h0]
  refine ⟨by simp, fun i j _ hj => absurd hj (hsel j), hR.world rfl, hw, q9M, Marks.grow hw _ hm, by rw [ee]; exact hp, hb, by rw [ee, hcur]; exact he, by rw [ee]; exact .refl _ _ _, by rw [ee]; exact .refl _ _⟩
end
end Go.Idl
