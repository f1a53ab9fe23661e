/- Operations of the ideal interpreter against the model's own, second part. Conditions: none. -/
import Derived.Test.YtjboddididohgaaGreatDoorIdlC
import Derived.Orders
import Derived.KernelRfl
set_option linter.all false
namespace Go.Idl
variable {P : Program}
variable {H H' : IH} {env : Env} {f : Inj} {o : Oper} {v : Value} {w : World}
theorem wT {α : Type} : ∀ (s : Sem α) {x : α}, zX P s = some x -> ∀ w, s.run P w = .ok x w
 | .pure a, x, h, w => by
   have : some a = some x := h;cases this; rfl
 | .load _ _ _, x, h, w => by have h' : none = some x := h; cases h'
 | .store _ _ _ _, x, h, w => by have h' : none = some x := h; cases h'
 | .new _ _, x, h, w => by have h' : none = some x := h; cases h'
 | .shape _ _, x, h, w => by have h' : none = some x := h; cases h'
 | .freeze _ _ _, x, h, w => by have h' : none = some x := h; cases h'
 | .frozen _ _, x, h, w => by have h' : none = some x := h; cases h'
 | .getObj _ _, x, h, w => by have h' : none = some x := h; cases h'
 | .setObj _ _ _, x, h, w => by have h' : none = some x := h; cases h'
 | .choose q k, x, h, w => by
   have h' : cond q.forced (zX P (k 0)) none = some x := h
   cases hq : q.forced with
   | false => rw [hq] at h'; cases h'
   | true =>
     rw [hq] at h';have := wT (k 0) h' w;unfold Sem.run;rw [if_pos hq]; exact this
 | .sys _ _, x, h, w => by have h' : none = some x := h; cases h'
 | .program k, x, h, w => wT (k P) h w
 | .mark _ k, x, h, w => wT k h w
 | .halt _, x, h, w => by have h' : none = some x := h; cases h'
def rA (P : Program) (f : Inj) (H : IH) (w : World) (v : Value) (H' : IH) (r : Result Next) : Prop :=
 ∃ nx v' w' f', r = .ok nx w' ∧ (nx = .value v' ∨ (nx = .skip ∧ v' = undef)) ∧ Rel P f' H' w' ∧ Grow f H w f' H' w' ∧ zAP P f' v v' ∧ Keep f H H'
theorem Post.next {s : Sem Value} (h : Post P f H w v H' (s.run P w)) :
 rA P f H w v H' ((do pure (Next.value (<- s)) : Sem Next).run P w) := by
 obtain ⟨v', w', f', h1, h2, h3, h4, h5⟩ := h;exact ⟨.value v', v', w', f', by simp [h1], .inl rfl, h2, h3, h4, h5⟩
theorem qSB (h : qHI v = true) (f : Inj) : zAP P f v v := by
 cases v <;> first
  | exact .zA7 (.zA5 h)
  | exact .base _ h
theorem qFY {s : zAU} (h : kK P o env H = some s) :
 ∃ v, s = .val v H ∧ zO (kG env.val o.op.operands.toList) = true ∧ zX P (execOp env.val o) = some (.value v) ∧ ∀ f, zAP P f v v := by
 unfold kK at h;split at h
 ·rename_i hp;unfold qGI at h;split at h
  ·rename_i v hs;unfold qBJ at h
   cases hd : qHI v with
   | false => rw [hd] at h; cases h
   | true =>
     rw [hd] at h;have h' : some (zAU.val v H) = some s := h;cases h';exact ⟨v, rfl, hp, hs, qSB hd⟩
  ·cases h
 ·cases h
theorem oW (h : zX P (execOp env.val o) = some (.value v)) : ∀ cs b, o.op ≠ .select cs b := by
 intro cs b ho;unfold execOp at h;rw [ho] at h;have := wT _ h default;simp only [Sem.run_bind] at this
 cases hm : (Array.mapM (fun s : SelectCase => do pure { chan := env.val s.chan, send := s.send.map env.val, zero := <- zeroValue s.elem : CommCase }) cs).run P default with
 | ok a w => rw [hm] at this; simp at this
 | halt a w => rw [hm] at this; simp [Result.andThen] at this
theorem o5 {o : Oper} {ρ : Operand -> Value} (hR : Rel P f H w) (h : kK P o env H = some (.val v H'))
 (hρ : ∀ x ∈ o.op.operands, zAP P f (env.val x) (ρ x)) : rA P f H w v H' ((execOp ρ o).run P w) := by
 obtain ⟨v2, he, hp, hs, hv⟩ := qFY h;cases he
 have heq : execOp ρ o = execOp env.val o := execOp_congr o (oW hs) fun x hx => by
  have hx' : x ∈ o.op.operands.toList := by simpa using hx
  have := xH.1 hp (env.val x) (by rw [y5]; exact zOL hx');exact (hρ x hx).plain this
 rw [heq, wT _ hs w];exact ⟨.value v, v, w, f, rfl, .inl rfl, hR, .refl _ _ _, hv f, .refl _ _⟩
end Go.Idl
namespace Go.Idl
variable {P : Program}
variable {a : Option Addr} {b : Bool} {c l : Nat} {e t : TypeId} {f : Inj} {k : IntKind} {op : BinOp} {v v' x x' y y' : Value}
theorem qP1 {a b : Int} (h : dQ op k a b = some v) (w : World) : (binOp op t (.int k a) (.int k b)).run P w = .ok v w := by
 unfold dQ at h
 cases op <;> simp only [zKP, reduceCtorEq] at h <;>
  first
  | (subst h; simp [binOp, Op.intArith, Op.intCmp])
  | (split at h
     ·cases h
     ·rename_i h0; cases h; simp [binOp, Op.intDiv, h0])
theorem qAI {x y : Operand} {k' : IntKind} {a b : Int} (w : World) : (eqGuard op t x y (.int k a) (.int k' b)).run P w = .ok () w := by
 unfold eqGuard;cases op <;> simp
theorem qUA {a b : Int} (h : dQ op k a b = some v) : zM v = true := by
 unfold dQ at h
 cases op <;> simp only [zKP, reduceCtorEq] at h <;>
  first
  | (subst h; rfl)
  | (split at h
     ·cases h
     ·cases h; rfl)
def qWY : Value -> Bool
 | .pointer _ | .slice _ _ _ | .map _ | .nilFunc | .func _ _ _ => true
 | _ => false
theorem aA {x y : Operand} {a b : Value} (h : qWY a = true) (w : World) : (eqGuard op t x y a b).run P w = .ok () w := by
 unfold eqGuard;cases op <;> cases a <;> simp [qWY] at h <;> simp
theorem binOp_eql {a b : Value} (h : qWY a = true) : binOp .eql t a b = (do pure (.bool (<- Op.equal t a b))) := by
 cases a <;> simp [qWY] at h <;> cases b <;> rfl
theorem binOp_neq {a b : Value} (h : qWY a = true) : binOp .neq t a b = (do pure (.bool (!(<- Op.equal t a b)))) := by
 cases a <;> simp [qWY] at h <;> cases b <;> rfl
theorem zAP.zC9 (h : zAP P f (.pointer a) v') : ∃ a', v' = .pointer a' ∧ a'.isNone = a.isNone := by
 cases h with
 | base _ hp => exact ⟨_, rfl, rfl⟩
 | ptr h => exact ⟨_, rfl, rfl⟩
theorem zAP.zDT (h : zAP P f (.slice a l c) v') : ∃ a' c', v' = .slice a' l c' ∧ a'.isNone = a.isNone := by
 cases h with
 | base _ hp => exact ⟨_, _, rfl, rfl⟩
 | sl h => exact ⟨_, _, rfl, rfl⟩
 | room h _ _ => exact ⟨_, _, rfl, rfl⟩
 | zBI h _ _ => exact ⟨_, _, rfl, rfl⟩
 | gh h _ => exact ⟨_, _, rfl, rfl⟩
theorem zAP.zDA {a : Option Nat} (h : zAP P f (.map a) v') : ∃ a', v' = .map a' ∧ a'.isNone = a.isNone := by
 cases h with
 | base _ hp => exact ⟨_, rfl, rfl⟩
 | map h => exact ⟨_, rfl, rfl⟩
theorem qXG (d : Nat) (hu : P.underlying t = some (.pointer e)) (a c : Option Addr) (h : a = none ∨ c = none) (w : World) :
 (Op.equalIn (d + 1) t (.pointer a) (.pointer c)).run P w = .ok (a.isNone && c.isNone) w := by
 cases a <;> cases c <;> simp at h <;> simp [Op.equalIn, run_underlying hu]
theorem qQ6 (d : Nat) (hu : P.underlying t = some (.slice e)) (a c : Option Addr) (l1 l2 c1 c2 : Nat) (h : a = none ∨ c = none) (w : World) :
 (Op.equalIn (d + 1) t (.slice a l1 c1) (.slice c l2 c2)).run P w = .ok (a.isNone && c.isNone) w := by
 cases a <;> cases c <;> simp at h <;> simp [Op.equalIn, run_underlying hu]
theorem qZ5 {k : TypeId} (d : Nat) (hu : P.underlying t = some (.map k e)) (a c : Option Nat) (h : a = none ∨ c = none) (w : World) :
 (Op.equalIn (d + 1) t (.map a) (.map c)).run P w = .ok (a.isNone && c.isNone) w := by
 cases a <;> cases c <;> simp at h <;> simp [Op.equalIn, run_underlying hu]
def mD : Value -> Bool
 | .nilFunc | .func _ _ _ => true
 | _ => false
def jG : Value -> Bool
 | .nilFunc => true
 | _ => false
theorem qJS (d : Nat) {p r : Array TypeId} {va : Bool} (hu : P.underlying t = some (.func p r va)) (hx : mD x = true) (hy : mD y = true)
 (h : jG x = true ∨ jG y = true) (w : World) : (Op.equalIn (d + 1) t x y).run P w = .ok (jG x && jG y) w := by
 cases x <;> simp [mD] at hx <;> cases y <;> simp [mD] at hy <;> simp [jG] at h <;> simp [Op.equalIn, run_underlying hu, jG]
theorem zAP.fnV (hx : zAP P f x x') (h : mD x = true) : mD x' = true ∧ jG x' = jG x := by
 cases hx with
 | any _ => simp [unk, mD] at h
 | undef => simp [Go.undef, mD] at h
 | base _ _ => exact ⟨h, rfl⟩
 | func _ _ _ _ => exact ⟨rfl, rfl⟩
 | yield _ => exact ⟨rfl, rfl⟩
 | _ => simp [mD] at h
theorem qZ1 (h : wZ (.pointer a) y = some b) : ∃ c, y = .pointer c ∧ (a = none ∨ c = none) ∧ b = (a.isNone && c.isNone) := by
 cases y <;> cases a <;> simp [wZ] at h
 ·subst h; exact ⟨_, rfl, .inl rfl, by simp⟩
 ·rename_i c q;cases c <;> simp at h;subst h; exact ⟨_, rfl, .inr rfl, by simp⟩
theorem qQI (h : wZ (.slice a l c) y = some b) : ∃ a2 l2 c2, y = .slice a2 l2 c2 ∧ (a = none ∨ a2 = none) ∧ b = (a.isNone && a2.isNone) := by
 cases y <;> cases a <;> simp [wZ] at h
 ·subst h; exact ⟨_, _, _, rfl, .inl rfl, by simp⟩
 ·rename_i c _ _ q;cases c <;> simp at h;subst h; exact ⟨_, _, _, rfl, .inr rfl, by simp⟩
theorem qYX {a : Option Nat} (h : wZ (.map a) y = some b) : ∃ c, y = .map c ∧ (a = none ∨ c = none) ∧ b = (a.isNone && c.isNone) := by
 cases y <;> cases a <;> simp [wZ] at h
 ·subst h; exact ⟨_, rfl, .inl rfl, by simp⟩
 ·rename_i c q;cases c <;> simp at h;subst h; exact ⟨_, rfl, .inr rfl, by simp⟩
theorem qTL (h : wZ x y = some b) (hx : mD x = true) : mD y = true ∧ (jG x = true ∨ jG y = true) ∧ b = (jG x && jG y) := by
 cases x <;> simp [mD] at hx <;> cases y <;> simp [wZ] at h <;> subst h <;> simp [mD, jG]
theorem bG {α : Type} {a a' : Option α} (h : a'.isNone = a.isNone) (hn : a = none) : a' = none := by subst hn; simpa using h
theorem qVE (h : wZ x y = some b) (hk : w9 P t x = true) (hx : zAP P f x x') (hy : zAP P f y y') (w : World) :
 qWY x' = true ∧ (Op.equal t x' y').run P w = .ok b w := by
 unfold w9 at hk;show qWY x' = true ∧ (Op.equalIn (9999 + 1) t x' y').run P w = .ok b w;generalize 9999 = d;split at hk
 ·rename_i e a hu;obtain ⟨c, rfl, hn, rfl⟩ := qZ1 h;obtain ⟨a', rfl, ha⟩ := hx.zC9;obtain ⟨c', rfl, hc⟩ := hy.zC9;rw [<- ha, <- hc];exact ⟨rfl, qXG d hu _ _ (hn.imp (bG ha) (bG hc)) w⟩
 ·rename_i e a l1 c1 hu;obtain ⟨c, l2, c2, rfl, hn, rfl⟩ := qQI h;obtain ⟨a', q1, rfl, ha⟩ := hx.zDT;obtain ⟨c', q2, rfl, hc⟩ := hy.zDT;rw [<- ha, <- hc];exact ⟨rfl, qQ6 d hu _ _ _ _ _ _ (hn.imp (bG ha) (bG hc)) w⟩
 ·rename_i k e a hu;obtain ⟨c, rfl, hn, rfl⟩ := qYX h;obtain ⟨a', rfl, ha⟩ := hx.zDA;obtain ⟨c', rfl, hc⟩ := hy.zDA;rw [<- ha, <- hc];exact ⟨rfl, qZ5 d hu _ _ (hn.imp (bG ha) (bG hc)) w⟩
 ·rename_i p r va hu;obtain ⟨h1, h2, rfl⟩ := qTL h rfl;obtain ⟨g1, g2⟩ := hx.fnV rfl;obtain ⟨k1, k2⟩ := hy.fnV h1;rw [<- g2, <- k2];refine ⟨?_, qJS d hu g1 k1 (by rw [g2, k2]; exact h2) w⟩;cases x' <;> simp [mD] at g1 <;> rfl
 ·rename_i p r va fn a1 a2 hu;obtain ⟨h1, h2, rfl⟩ := qTL h rfl;obtain ⟨g1, g2⟩ := hx.fnV rfl;obtain ⟨k1, k2⟩ := hy.fnV h1;rw [<- g2, <- k2];refine ⟨?_, qJS d hu g1 k1 (by rw [g2, k2]; exact h2) w⟩;cases x' <;> simp [mD] at g1 <;> rfl
 ·cases hk
theorem qIJ {n : Nat} (d : Nat) (hu : P.underlying t = some (.pointer e)) (hs : szT P e = some n) (hn : n ≠ 0) (a b : Addr) (h : a.block = b.block) (w : World) :
 (Op.equalIn (d + 1) t (.pointer (some a)) (.pointer (some b))).run P w = .ok (a == b) w := by
 simp [Op.equalIn, run_underlying hu, zQ hs, hn, sameAddr, h]
theorem qWB (h : qTZ P t x y = some b) (hx : zAP P f x x') (hy : zAP P f y y') (w : World) :
 qWY x' = true ∧ (Op.equal t x' y').run P w = .ok b w := by
 unfold qTZ at h;split at h
 ·rename_i a c;split at h
  ·rename_i el hu;split at h
   ·rename_i n hs;split at h
    ·rename_i hc;simp only [zKI, bne_iff_ne, ne_eq, beq_iff_eq, Option.isNone_iff_eq_none] at hc;obtain ⟨⟨⟨hn, hb⟩, h1⟩, h2⟩ := hc;obtain ⟨ab, ao, as⟩ := a;obtain ⟨cb, co, cs⟩ := c;simp only at hb h1 h2;subst hb h1 h2;obtain ⟨e1, he1, rfl⟩ := hx.zA8;obtain ⟨e2, he2, rfl⟩ := hy.zA8;rw [he1] at he2; cases he2;refine ⟨rfl, ?_⟩;have := qIJ (P := P) 9999 hu hs hn ⟨e1.r, ao + e1.shift, none⟩ ⟨e1.r, co + e1.shift, none⟩ rfl w;rw [show Op.equal t (Value.pointer (some ⟨e1.r, ao + e1.shift, none⟩)) (Value.pointer (some ⟨e1.r, co + e1.shift, none⟩)) = Op.equalIn (9999 + 1) t (.pointer (some ⟨e1.r, ao + e1.shift, none⟩)) (.pointer (some ⟨e1.r, co + e1.shift, none⟩)) from rfl, this];simp only [zKP] at h;subst h
     congr 1
     rw [Bool.eq_iff_iff];simp
    ·cases h
   ·cases h
  ·cases h
 ·cases h
theorem qDI (h : dO P t x y = some b) (hx : zAP P f x x') (hy : zAP P f y y') (w : World) :
 qWY x' = true ∧ (Op.equal t x' y').run P w = .ok b w := by
 unfold dO at h;split at h
 ·rename_i b' hb
  cases hk : w9 P t x with
  | false => rw [hk] at h; cases h
  | true => rw [hk] at h; cases h; exact qVE hb hk hx hy w
 ·exact qWB h hx hy w
theorem qR6 {H H' : IH} {w : World} {o : Oper} {env : Env} {ρ : Operand -> Value} {x y : Operand} {u : TypeId} (hR : Rel P f H w) (ho : o.op = .binOp op t x y u)
 (h : yP P o op t (env.val x) (env.val y) env H = some (.val v H')) (hρ : ∀ x ∈ o.op.operands, zAP P f (env.val x) (ρ x)) : rA P f H w v H' ((execOp ρ o).run P w) := by
 have hx : zAP P f (env.val x) (ρ x) := hρ x (by rw [ho]; simp [Op.operands]);have hy : zAP P f (env.val y) (ρ y) := hρ y (by rw [ho]; simp [Op.operands]);have zDB : execOp ρ o = (do pure (.value (<- (do eqGuard op t x y (ρ x) (ρ y); binOp op t (ρ x) (ρ y))))) := by unfold execOp; rw [ho]
 have fin : ∀ (v' : Value), (eqGuard op t x y (ρ x) (ρ y)).run P w = .ok () w -> (binOp op t (ρ x) (ρ y)).run P w = .ok v' w -> zAP P f v v' -> H' = H -> rA P f H w v H' ((execOp ρ o).run P w) := by
  intro v' h1 h2 h3 h4;subst h4;rw [zDB];exact ⟨.value v', v', w, f, by simp [h1, h2], .inl rfl, hR, .refl _ _ _, h3, .refl _ _⟩
 have nil : zA3 P o op t (env.val x) (env.val y) env H = some (.val v H') -> rA P f H w v H' ((execOp ρ o).run P w) := by
  intro h;unfold zA3 at h;split at h
  ·split at h
   ·rename_i b hb;obtain ⟨rfl, rfl⟩ := val_inj h;obtain ⟨h1, h2⟩ := qDI hb hx hy w;exact fin _ (aA h1 w) (by rw [binOp_eql h1]; simp [h2]) (.base _ rfl) rfl
   ·exact o5 hR h hρ
  ·split at h
   ·rename_i b hb;obtain ⟨rfl, rfl⟩ := val_inj h;obtain ⟨h1, h2⟩ := qDI hb hx hy w;exact fin _ (aA h1 w) (by rw [binOp_neq h1]; simp [h2]) (.base _ rfl) rfl
   ·exact o5 hR h hρ
  ·exact o5 hR h hρ
 unfold yP at h;split at h
 ·rename_i k a hxa;split at h
  ·rename_i k' b hyb
   have ex : env.val x = .int k a := by
    cases hv : env.val x <;> rw [hv] at hxa <;> simp [asI] at hxa;rw [hxa.1, hxa.2]
   have ey : env.val y = .int k' b := by
    cases hv : env.val y <;> rw [hv] at hyb <;> simp [asI] at hyb;rw [hyb.1, hyb.2]
   unfold zBF at h
   cases hkk : Nat.beq (q0W k) (q0W k') with
   | false => rw [hkk] at h; exact o5 hR h hρ
   | true =>
     rw [hkk] at h;have := qZ2 hkk;subst this
     cases hib : dQ op k a b with
     | none => rw [hib] at h; exact o5 hR h hρ
     | some v2 =>
       rw [hib] at h;obtain ⟨rfl, rfl⟩ := val_inj h;have hx' : ρ x = .int k a := by rw [ex] at hx; exact hx.int
       have hy' : ρ y = .int k b := by rw [ey] at hy; exact hy.int
       exact fin _ (by rw [hx', hy']; exact qAI w) (by rw [hx', hy']; exact qP1 hib w) (.base _ (qUA hib)) rfl
  ·exact nil h
 ·exact nil h
end Go.Idl
namespace Go.Idl
variable {P : Program}
variable {H H' : IH} {as as' : List Value} {c l : Nat} {f : Inj} {t : TypeId} {v x x' : Value} {w : World}
theorem qDW {r o : Nat} {c : Array Value} {el : TypeId} {fz : Nat × Nat} (h : w.heap[r]? = some (.cells c el fz)) : (Conv.seenAt ⟨r, o, none⟩).run P w = .ok ⟨r, o, none⟩ w := by
 simp [Conv.seenAt, viewAt, World.shape?, h]
theorem qL9 {src dst : TypeId} (hR : Rel P f H w) (h : qGQ P src dst x H = some v) (hx : zAP P f x x') :
 Post P f H w v H ((convert src dst x').run P w) := by
 unfold qGQ at h;split at h
 ·rename_i b o;obtain ⟨e, he, rfl⟩ := hx.zA8;split at h
  ·rename_i c el fz hg;obtain ⟨c', el', fz', hr, hN, hsz, hcv, hfr, hex⟩ := hR.obj b e _ he hg;split at h
   ·rename_i t hs hd;split at h
    ·rename_i n hn;split at h
     ·rename_i hc;simp only [zKI, bne_iff_ne, ne_eq, decide_eq_true_eq] at hc;cases h;refine .same hR (v' := .pointer (some ⟨e.r, o + e.shift, none⟩)) ?_ (.ptr he);have hlt : ¬ (c'.size <= o + e.shift) := by omega
      simp [convert, run_underlying hs, run_underlying hd, Conv.unsafePointer, qDW hr, cellsIn, World.shape?, hr, zQ hn, hc.1, hlt]
     ·cases h
    ·cases h
   ·rename_i u hs hd;split at h
    ·rename_i n hn;split at h
     ·rename_i hc;simp only [zKI, bne_iff_ne, ne_eq, beq_iff_eq] at hc;obtain ⟨⟨hn0, hfz⟩, hl⟩ := hc;cases h;subst hfz;obtain ⟨hsh, hcs⟩ := hex rfl;obtain ⟨_, hel, _⟩ := hfr rfl;subst hel;refine .same hR (v' := .pointer (some ⟨e.r, o + e.shift, none⟩)) ?_ (.ptr he);rw [hsh, zML];rw [hcs] at hl;simp [convert, run_underlying hs, run_underlying hd, Conv.unsafePointer, qDW hr, zQ hn, hn0, variablesAt, World.shape?, hr, hl]
     ·cases h
    ·cases h
   ·cases h
  ·cases h
 ·cases h
theorem run_loadBytes (r : Nat) : ∀ (l : List Value) (bs : List UInt8) (o : Nat) (acc : ByteArray) (w : World), zP l = some bs ->
 (∀ j v, l[j]? = some v -> w.cell? ⟨r, o + j, none⟩ = some v) -> (loadBytes ⟨r, o, none⟩ acc l.length).run P w = .ok ⟨acc.data ++ bs.toArray⟩ w
 | [], bs, o, acc, w, h, _ => by
   simp [zP] at h; subst h;simp [loadBytes]
 | v :: l, bs, o, acc, w, h, hc => by
   cases v <;> first | (simp [zP] at h; done) | skip
   rename_i k n
   cases k <;> first | (simp [zP] at h; done) | skip
   simp only [zP, zKR] at h;obtain ⟨bs', h1, rfl⟩ := h
   have h0 : (load ⟨r, o, none⟩).run P w = .ok (.int .u8 n) w := by
    have := hc 0 _ rfl;simp only [zML] at this;simp [load, Sem.run, this]
   have := run_loadBytes r l bs' (o + 1) (acc.push (UInt8.ofNat n.toNat)) w h1 (fun j v hj => by
    have := hc (j + 1) v (by simpa using hj)
    rwa [show o + (j + 1) = o + 1 + j by omega] at this)
   simp only [zK1, loadBytes, Sem.run_bind, h0, Result.andThen_ok];rw [yS];show (loadBytes ⟨r, o + 1, none⟩ (acc.push (n.toNat.toUInt8)) l.length).run P w = _;rw [show n.toNat.toUInt8 = UInt8.ofNat n.toNat from rfl, this]
   congr 1
   show (⟨(acc.push _).data ++ _⟩ : ByteArray) = _
   congr 1
   show (acc.data.push _) ++ _ = _;apply zLS;simp
theorem rY {at_ : Array TypeId} (hR : Rel P f H w) (h : xG P at_ as H = some (.val v H')) (ha : qC P f as as') :
 Post P f H w v H' ((Builtin.unsafeString_ at_ t as'.toArray).run P w) := by
 have zDU : IntKind.i64.max = 9223372036854775807 := rfl;unfold xG at h;split at h
 ·rename_i k n hpt;obtain ⟨p', r1, rfl, hp, hr1⟩ := ha.zAQ;obtain ⟨n', r2, rfl, hn, hr2⟩ := hr1.zAQ;have := hr2.zAT; subst this;have := hn.int; subst this;have := hp.plain rfl; subst this;split at h
  ·rename_i hc;obtain ⟨rfl, rfl⟩ := val_inj h;have hn0 : n = 0 := by simpa using (show n = 0 ∧ _ by simpa using hc).1
   subst hn0;refine .same hR (v' := .string .empty) ?_ (.base _ rfl);show Sem.run P (Bind.bind (asInt (.int k 0)) _) w = _;simp [asInt, asIntOf, hpt, zDU]
  ·cases h
 ·rename_i b o k n hpt;obtain ⟨p', r1, rfl, hp, hr1⟩ := ha.zAQ;obtain ⟨n', r2, rfl, hn, hr2⟩ := hr1.zAQ;have := hr2.zAT; subst this;have := hn.int; subst this;obtain ⟨e, he, rfl⟩ := hp.zA8;split at h
  ·rename_i u hu;split at h
   ·rename_i hn0;obtain ⟨rfl, rfl⟩ := val_inj h;subst hn0;refine .same hR (v' := .string .empty) ?_ (.base _ rfl);show Sem.run P (Bind.bind (asInt (.int k 0)) _) w = _;simp [asInt, asIntOf, hpt, zDU]
   ·rename_i hn0;split at h
    ·rename_i hnb;simp only [zKI, decide_eq_true_eq] at hnb;split at h
     ·rename_i c el fz hg;split at h
      ·rename_i hc;simp only [zKI, beq_iff_eq, decide_eq_true_eq] at hc;obtain ⟨⟨⟨hfz, hcell⟩, zEO⟩, hbase⟩ := hc;split at h
       ·rename_i bs hbs;obtain ⟨rfl, rfl⟩ := val_inj h;simp only [zMA] at hbs;obtain ⟨l, hl, hbytes⟩ := hbs;obtain ⟨c', el', fz', hr, hN, hsz, hcv, hfr, hex⟩ := hR.obj b e _ he hg;obtain ⟨hro, hel, hnf⟩ := hfr hfz;subst hel;obtain ⟨l', q1, q2, q3⟩ := aO hR he hl;obtain ⟨c2, el2, fz2, hg2, hle, _⟩ := nE hl;rw [hg] at hg2; cases hg2
        -- bytes are plain
        have hpl : ∀ (l : List Value) bs, zP l = some bs -> zO l = true := by
         intro l
         induction l with
         | nil => intro _ _; rfl
         | cons v l ih =>
           intro bs hb
           cases v <;> first | (simp [zP] at hb; done) | skip
           rename_i k2 n2
           cases k2 <;> first | (simp [zP] at hb; done) | skip
           simp only [zP, zKR] at hb;obtain ⟨bs', h1, _⟩ := hb;rw [eH, ih bs' h1]; rfl
        have hll : l' = l := q1.plain (hpl l bs hbytes);subst hll;have hb0 := run_loadBytes (P := P) e.r l' bs (o + e.shift) .empty w hbytes (fun j v hj => by have := q3 j v hj; rwa [yS] at this);rw [q2] at hb0
        have hlies : liesAt P P.depth el' (c'.size / P.cellsOf el') (o + e.shift) u n.toNat = true := by
         rw [hcell]
         cases hd : P.depth with
         | zero => rw [hd] at zEO; simp [sameLayout] at zEO
         | succ d =>
           unfold liesAt
           have : rowAt P (sameLayout P P.depth · u) P.depth el' (c'.size / 1) (o + e.shift) n.toNat = true := by
            rw [hd];unfold rowAt;rw [hcell];rw [hd] at zEO;have : o + e.shift + n.toNat <= c'.size := by omega
            simp [zEO, Nat.mod_one, this]
           rw [zLP]; left; exact this
        have hnn : n.toNat ≠ 0 := by omega
        have hlt : e.r < w.heap.size := hR.bound b e he
        have hmod : ∃ fz2, ∀ x : Nat, (w.freeze ⟨e.r, o + e.shift, none⟩ n.toNat).heap[x]? = if x = e.r then some (.cells c' el' fz2) else w.heap[x]? := by
         obtain ⟨lo, hi⟩ := fz';refine ⟨if lo == hi then (o + e.shift, o + e.shift + n.toNat) else (min lo (o + e.shift), max hi (o + e.shift + n.toNat)), fun x => ?_⟩;simp only [World.freeze, hnn, if_false];rw [Array.getElem?_modify];by_cases hx : x = e.r
         ·subst hx; simp [hr]
         ·rw [if_neg (Ne.symm hx), if_neg hx]
        obtain ⟨fz2, hmod⟩ := hmod
        obtain ⟨g1, g2, g3⟩ := Rel.put (o1 := .cells c el' (0, 1)) (o1' := .cells c' el' fz2) (w' := w.freeze ⟨e.r, o + e.shift, none⟩ n.toNat) hR he hg rfl hro
         ⟨c', el', fz2, rfl, hN, hsz, hcv, fun hx => by simp [aM] at hx, fun hx => by simp at hx⟩ hmod (by simp [World.freeze, hnn]) (by unfold World.freeze; split <;> exact ⟨rfl, rfl, rfl⟩)
        refine ⟨_, _, f, ?_, g1, g2, .base _ rfl, g3⟩;have hmax : ¬ (9223372036854775807 < n) := by omega
        have hneg : ¬ (n < 0) := by omega
        show Sem.run P (Bind.bind (asInt (.int k n)) _) w = _;simp [asInt, asIntOf, hpt, hneg, zDU, hmax, hn0, elemOf, run_underlying hu, variablesAt, World.shape?, hr, hlies, hb0, freeze, Sem.run]
       ·cases h
      ·cases h
     ·cases h
    ·cases h
  ·cases h
 ·cases h
theorem qG1 {a : Addr} (ts : Array TypeId) (t : TypeId) (hR : Rel P f H w) (h : x = .slice (some a) l c) (hc : c ≠ 0) (hx : zAP P f x x') :
 Post P f H w (.pointer (some ⟨a.block, a.off, none⟩)) H ((Builtin.unsafeSliceData_ ts t #[x']).run P w) := by
 subst h
 cases hx with
 | base _ hp => have hp' : false = true := hp; cases hp'
 | sl hb =>
   refine .same hR (v' := .pointer (some ⟨_, _, none⟩)) ?_ (.ptr hb);show Sem.run P (ite (c ≠ 0) (pure (Value.pointer (some _)) : Sem Value) _) w = _;rw [if_pos hc]; simp
 | @room _ _ _ _ _ cap' e hb hcc hN =>
   refine .same hR (v' := .pointer (some ⟨_, _, none⟩)) ?_ (.ptr hb);show Sem.run P (ite (cap' ≠ 0) (pure (Value.pointer (some _)) : Sem Value) _) w = _;rw [if_pos (by omega)]; simp
 | zBI _ _ _ => exact absurd rfl hc
 | gh _ _ => exact absurd rfl hc
theorem qH9 (ts : Array TypeId) (t : TypeId) (hR : Rel P f H w) (hx : zAP P f (.slice none l c) x') :
 Post P f H w (.pointer none) H ((Builtin.unsafeSliceData_ ts t #[x']).run P w) := by
 have := hx.zB2; subst this;exact .same hR (v' := .pointer none) (by show Sem.run P (pure (Value.pointer none)) w = _; simp) (.base _ rfl)
theorem zAP.zBX {r : Nat} {v' : Value} (h : zAP P f (.map (some r)) v') : ∃ e, f r = some e ∧ v' = .map (some e.r) := by
 cases h with
 | base _ hp => have hp' : false = true := hp; cases hp'
 | map h => exact ⟨_, h, rfl⟩
theorem yI {r : Nat} {o : Obj} (h : w.heap[r]? = some o) (hn : ∀ c e z, o ≠ .cells c e z) : (getObj r).run P w = .ok o w := by
 unfold getObj Sem.run;rw [h]
 cases o <;> first | (exact absurd rfl (hn _ _ _)) | rfl
theorem q31 {ts : Array TypeId} (hR : Rel P f H w) (h : nW P ts as H = some (.val v H')) (ha : qC P f as as') :
 Post P f H w v H' ((Builtin.len_ ts t as'.toArray).run P w) := by
 unfold nW at h;split at h
 ·rename_i el a n c hb;obtain ⟨rfl, rfl⟩ := val_inj h;obtain ⟨x', r, rfl, hx, hr⟩ := ha.zAQ;have := hr.zAT; subst this;obtain ⟨a', c', rfl⟩ := hx.zBW;obtain ⟨t0, ht, hu⟩ := zMA.1 hb;exact .same hR (v' := goInt n) (by simp [Builtin.len_, ht, run_underlying hu]) (.base _ rfl)
 ·rename_i k el r hb;split at h
  ·rename_i es clk hg;obtain ⟨rfl, rfl⟩ := val_inj h;obtain ⟨x', q, rfl, hx, hr⟩ := ha.zAQ;have := hr.zAT; subst this;obtain ⟨e, he, rfl⟩ := hx.zBX;obtain ⟨_, es', h1, h2, _⟩ := hR.obj r e _ he hg;obtain ⟨t0, ht, hu⟩ := zMA.1 hb;have hob := yI (P := P) h1 (fun _ _ _ hx => by cases hx);exact .same hR (v' := goInt es.size) (by simp [Builtin.len_, ht, run_underlying hu, hob, h2]) (.base _ rfl)
  ·cases h
 ·rename_i n el x hb;obtain ⟨rfl, rfl⟩ := val_inj h;obtain ⟨x', q, rfl, hx, hr⟩ := ha.zAQ;have := hr.zAT; subst this;obtain ⟨t0, ht, hu⟩ := zMA.1 hb;exact .same hR (v' := goInt n) (by simp [Builtin.len_, ht, run_underlying hu]) (.base _ rfl)
 ·cases h
end Go.Idl
namespace Go.Idl
variable {P : Program}
variable {H : IH} {clk : Nat} {es es' : Array MapEntry} {f : Inj} {k k' x x' : Value} {kt t : TypeId} {l l' m : List MapEntry} {v : MapEntry} {w : World}
theorem kN {α β : Type} (g : α -> Sem β) : ∀ (s : Sem α), zX P (s.bind g) = (zX P s).bind fun a => zX P (g a)
 | .pure a => rfl
 | .load _ _ _ => rfl
 | .store _ _ _ _ => rfl
 | .new _ _ => rfl
 | .shape _ _ => rfl
 | .freeze _ _ _ => rfl
 | .frozen _ _ => rfl
 | .getObj _ _ => rfl
 | .setObj _ _ _ => rfl
 | .choose q k => by
   show cond q.forced (zX P ((k 0).bind g)) none = (cond q.forced (zX P (k 0)) none).bind _;cases q.forced
   ·rfl
   ·exact kN g (k 0)
 | .sys _ _ => rfl
 | .program k => kN g (k P)
 | .mark _ k => kN g k
 | .halt _ => rfl
def fJ (P : Program) (f : Inj) (l l' : List MapEntry) : Prop := l.length = l'.length ∧ ∀ (i : Nat) x x', l[i]? = some x -> l'[i]? = some x' -> x'.key = x.key ∧ x'.born = x.born ∧ zAP P f x.val x'.val
theorem fJ.nil : fJ P f [] [] := ⟨rfl, fun i v v' h => by simp at h⟩
theorem fJ.zAQ (h : fJ P f (v :: l) m) : ∃ v' l', m = v' :: l' ∧ (v'.key = v.key ∧ v'.born = v.born ∧ zAP P f v.val v'.val) ∧ fJ P f l l' := by
 cases m with
 | nil => simp [fJ] at h
 | cons v' l' => exact ⟨v', l', rfl, h.2 0 v v' rfl rfl, by have := h.1; simpa using this, fun i u u' hu hu' => h.2 (i + 1) u u' (by simpa using hu) (by simpa using hu')⟩
theorem fJ.zAT (h : fJ P f [] m) : m = [] := by
 cases m with
 | nil => rfl
 | cons a b => simp [fJ] at h
theorem fJ.cons {v' : MapEntry} (h : v'.key = v.key ∧ v'.born = v.born ∧ zAP P f v.val v'.val) (t : fJ P f l l') : fJ P f (v :: l) (v' :: l') :=
 ⟨by simp [t.1], fun i u u' hu hu' => by
   cases i with
   | zero => simp at hu hu'; subst hu hu'; exact h
   | succ i => exact t.2 i u u' (by simpa using hu) (by simpa using hu')⟩
theorem fJ.get (h : fJ P f l l') {i : Nat} (hv : l[i]? = some v) : ∃ v', l'[i]? = some v' ∧ v'.key = v.key ∧ v'.born = v.born ∧ zAP P f v.val v'.val := by
 have hlt : i < l.length := (zKN.1 hv).1;have hlt' : i < l'.length := h.1 ▸ hlt;exact ⟨l'[i], zKM hlt', h.2 i v _ hv (zKM hlt')⟩
theorem qB9 {f : Inj} {kd : TypeDesc} {k : Value} : ∀ (l l' : List MapEntry) (i : Nat), fJ P f l l' ->
 (Instr.findNow kd k l' i).map (fun r => r.map (·.1)) = (Instr.findNow kd k l i).map (fun r => r.map (·.1)) ∧
 ∀ j v, Instr.findNow kd k l' i = some (some (j, v)) -> i <= j ∧ ∃ e, l'[j - i]? = some e ∧ v = e.val
 | [], l', i, h => by rw [h.zAT]; simp [Instr.findNow]
 | e :: l, l', i, h => by
   obtain ⟨e', t', rfl, he, ht⟩ := h.zAQ;simp only [Instr.findNow, he.1]
   cases Instr.sameNow kd k e.key with
   | none => simp
   | some b =>
     cases b with
     | true => simp
     | false =>
       simp only;obtain ⟨h1, h2⟩ := qB9 l t' (i + 1) ht;refine ⟨h1, fun j v hj => ?_⟩;obtain ⟨hij, e2, h3, h4⟩ := h2 j v hj;refine ⟨by omega, e2, ?_, h4⟩;rw [show j - i = (j - (i + 1)) + 1 by omega];simpa using h3
theorem dK {f : Inj} {kt : TypeId} {k : Value} : ∀ (l l' : List MapEntry) (i : Nat) (r : Option (Nat × Value)), fJ P f l l' -> zX P (Instr.findAsking kt k l i) = some r ->
 ∃ r', zX P (Instr.findAsking kt k l' i) = some r' ∧ r'.map (·.1) = r.map (·.1) ∧ ∀ j v, r' = some (j, v) -> i <= j ∧ ∃ e, l'[j - i]? = some e ∧ v = e.val
 | [], l', i, r, h, hr => by
   rw [h.zAT];have : some none = some r := hr;cases this;exact ⟨none, rfl, rfl, fun j v h => by cases h⟩
 | e :: l, l', i, r, h, hr => by
   obtain ⟨e', t', rfl, he, ht⟩ := h.zAQ;have hr' : zX P ((Op.equal kt k e.key).bind fun b => if b = true then pure (some (i, e.val)) else Instr.findAsking kt k l (i + 1)) = some r := hr;rw [kN] at hr'
   have goal : ∀ x, zX P (Instr.findAsking kt k (e' :: t') i) = x ↔ (zX P (Op.equal kt k e.key)).bind (fun b => zX P (if b = true then pure (some (i, e'.val)) else Instr.findAsking kt k t' (i + 1))) = x := by
    intro x;rw [<- kN, <- he.1];exact Iff.rfl
   cases hb : zX P (Op.equal kt k e.key) with
   | none => rw [hb] at hr'; cases hr'
   | some b =>
     rw [hb] at hr'
     cases b with
     | true =>
       have : some (some (i, e.val)) = some r := hr';cases this;refine ⟨some (i, e'.val), (goal _).2 (by rw [hb]; rfl), rfl, fun j v hj => ?_⟩;cases hj;exact ⟨zKK _, e', by simp, rfl⟩
     | false =>
       have h1 : zX P (Instr.findAsking kt k l (i + 1)) = some r := hr';obtain ⟨r', h2, h3, h4⟩ := dK l t' (i + 1) r ht h1;refine ⟨r', (goal _).2 (by rw [hb]; exact h2), h3, fun j v hj => ?_⟩;obtain ⟨hij, e2, h5, h6⟩ := h4 j v hj;refine ⟨by omega, e2, ?_, h6⟩;rw [show j - i = (j - (i + 1)) + 1 by omega];simpa using h5
theorem zV : zX P (underlying t) = P.underlying t := by
 show zX P (match P.underlying t with
  | some d => pure d
  | none => stuck "no such type") = _
 cases P.underlying t <;> rfl
theorem qMP {r : Option (Nat × Value)} (h : fJ P f l l') (hr : zX P (Instr.findKey kt k l) = some r) :
 ∃ r', (∀ w, (Instr.findKey kt k l').run P w = .ok r' w) ∧ r'.map (·.1) = r.map (·.1) ∧ ∀ j v, r' = some (j, v) -> ∃ e, l'[j]? = some e ∧ v = e.val := by
 have key : ∀ l, zX P (Instr.findKey kt k l) = (P.underlying kt).bind fun kd => (match Instr.findNow kd k l 0 with
  | some r => some r
  | none => zX P (Instr.findAsking kt k l)) := by
  intro l;show zX P ((underlying kt).bind _) = _;rw [kN, zV]
  congr 1
  funext kd
  cases Instr.findNow kd k l 0 <;> rfl
 rw [key] at hr;obtain ⟨kd, hu, hr⟩ := zMA.1 hr;obtain ⟨h1, h2⟩ := qB9 (kd := kd) (k := k) l l' 0 h;have fin : ∀ r', zX P (Instr.findKey kt k l') = some r' -> ∀ w, (Instr.findKey kt k l').run P w = .ok r' w := fun r' hr' => wT _ hr'
 cases hn : Instr.findNow kd k l 0 with
 | some r0 =>
   rw [hn] at hr h1;simp only [zKP] at hr;subst hr
   cases hn' : Instr.findNow kd k l' 0 with
   | none => rw [hn'] at h1; cases h1
   | some r' =>
     rw [hn'] at h1;simp only [zKU, zKP] at h1;refine ⟨r', fin r' (by rw [key, hu, zK0, hn']), h1, fun j v hj => ?_⟩;subst hj;obtain ⟨_, e, h3, h4⟩ := h2 j v hn';exact ⟨e, by simpa using h3, h4⟩
 | none =>
   rw [hn] at hr h1
   have hn' : Instr.findNow kd k l' 0 = none := by
    cases hx : Instr.findNow kd k l' 0 with
    | none => rfl
    | some y => rw [hx] at h1; cases h1
   obtain ⟨r', g1, g2, g3⟩ := dK l l' 0 r h hr;refine ⟨r', fin r' (by rw [key, hu, zK0, hn']; exact g1), g2, fun j v hj => ?_⟩;obtain ⟨_, e, h3, h4⟩ := g3 j v hj;exact ⟨e, by simpa using h3, h4⟩
theorem cO {r : Option Nat} (h : fJ P f es.toList es'.toList) (hk : zAP P f k k') (hr : vL P kt k es.toList = some r) :
 k' = k ∧ (∀ w, (Instr.checkKey es'.isEmpty 10000 kt k).run P w = .ok () w) ∧ (∀ w, (Instr.checkKey false 10000 kt k).run P w = .ok () w) ∧
 ∃ r', (∀ w, (Instr.findKey kt k es'.toList).run P w = .ok r' w) ∧ r'.map (·.1) = r ∧ ∀ j v, r' = some (j, v) -> ∃ e, es'[j]? = some e ∧ v = e.val := by
 unfold vL at hr;split at hr
 ·rename_i hp;simp only [zKI] at hp;split at hr
  ·rename_i u1 u2 r0 h1 h2 h3;cases hr
   have hem : es'.isEmpty = es.toList.isEmpty := by
    have := h.1
    cases hx : es.toList with
    | nil => rw [hx] at this; simp at this; simp; exact zL4 this.symm
    | cons a b => rw [hx] at this; simp at this; simp; intro hc; rw [hc] at this; simp at this
   obtain ⟨r', g1, g2, g3⟩ := qMP h h3;refine ⟨hk.plain hp.1, by rw [hem]; exact wT _ h1, wT _ h2, r', g1, g2, fun j v hj => ?_⟩;obtain ⟨e, q1, q2⟩ := g3 j v hj;exact ⟨e, by simpa using q1, q2⟩
  ·cases hr
 ·cases hr
theorem eY {r : Nat} {e : Emb} (hR : Rel P f H w) (he : f r = some e) (hg : H.get r = some (.map es clk)) :
 e.ro = false ∧ ∃ es', w.heap[e.r]? = some (.map es' clk) ∧ fJ P f es.toList es'.toList := by
 obtain ⟨h0, es', h1, h2, h3⟩ := hR.obj r e _ he hg
 exact ⟨h0, es', h1, by simpa using h2.symm, fun i x x' hx hx' => by
  obtain ⟨x2, g1, g2⟩ := h3 i x (by simpa using hx);rw [show es'[i]? = some x' by simpa using hx'] at g1
  cases g1; exact g2⟩
theorem qQM {v : Value} {ok : Bool} (hR : Rel P f H w) (h : qCH P t x k ok H = some v) (hx : zAP P f x x') (hk : zAP P f k k') :
 Post P f H w v H ((Instr.lookup t x' k' ok).run P w) := by
 unfold qCH at h;split at h
 ·rename_i kt et r hu
  ·obtain ⟨e, he, rfl⟩ := hx.zBX;split at h
   ·rename_i es clk hg;obtain ⟨_, es', h1, h2⟩ := eY hR he hg;have hob := yI (P := P) h1 (fun _ _ _ hx => by cases hx);split at h
    ·rename_i i hf;obtain ⟨rfl, c1, _, r', c2, c3, c4⟩ := cO h2 hk hf;split at h
     ·rename_i en hen;cases h;obtain ⟨⟨j, u⟩, rfl, hj⟩ := zKR.1 c3;simp only at hj; subst hj;obtain ⟨e2, q1, rfl⟩ := c4 j u rfl;obtain ⟨e3, q3, q4, q5, q6⟩ := h2.get (i := j) (v := en) (by simpa using hen);rw [show es'.toList[j]? = es'[j]? by simp, q1] at q3;cases q3;refine .same hR (v' := q1E ok e2.val true) ?_ ?_
      ·cases ok <;> simp [Instr.lookup, run_underlying hu, hob, c1, c2, q1E]
      ·cases ok
       ·exact q6
       ·exact .zA7 (.cons q6 (.cons (.base _ rfl) .nil))
     ·cases h
    ·rename_i hf;obtain ⟨rfl, c1, _, r', c2, c3, c4⟩ := cO h2 hk hf;split at h
     ·rename_i z hz;split at h
      ·rename_i hpl;cases h;have hr' : r' = none := by cases r' <;> simp at c3 ⊢
       subst hr';refine .same hR (v' := q1E ok z false) ?_ ?_
       ·cases ok <;> simp [Instr.lookup, run_underlying hu, hob, c1, c2, vO hz, q1E]
       ·cases ok
        ·exact .base _ hpl
        ·exact .zA7 (.cons (.base _ hpl) (.cons (.base _ rfl) .nil))
      ·cases h
     ·cases h
    ·cases h
   ·cases h
 ·cases h
theorem fJ.modify (h : fJ P f l l') (i : Nat) (g g' : MapEntry -> MapEntry)
 (hg : ∀ x x', (x'.key = x.key ∧ x'.born = x.born ∧ zAP P f x.val x'.val) -> ((g' x').key = (g x).key ∧ (g' x').born = (g x).born ∧ zAP P f (g x).val (g' x').val)) :
 fJ P f (l.modify i g) (l'.modify i g') := by
 refine ⟨by simp [h.1], fun j x x' hx hx' => ?_⟩;rw [zOG] at hx hx';obtain ⟨y, hy, rfl⟩ := zKR.1 hx;obtain ⟨y', hy', rfl⟩ := zKR.1 hx';have := h.2 j y y' hy hy';by_cases hij : i = j
 ·simp only [hij, if_true]; exact hg y y' this
 ·simp only [hij, if_false]; exact this
theorem fJ.push (h : fJ P f l l') {x x' : MapEntry} (hx : x'.key = x.key ∧ x'.born = x.born ∧ zAP P f x.val x'.val) : fJ P f (l ++ [x]) (l' ++ [x']) := by
 induction l generalizing l' with
 | nil => rw [h.zAT]; exact .cons hx .nil
 | cons v l ih => obtain ⟨v', t', rfl, hv, ht⟩ := h.zAQ; exact .cons hv (ih ht)
theorem u7 {r : Nat} {o o1 : Obj} (h : w.heap[r]? = some o) (hn : ∀ c e z, o ≠ .cells c e z) : (setObj r o1).run P w = .ok () (World.put w r o1) := by
 unfold setObj Sem.run;rw [h]
 cases o <;> first | (exact absurd rfl (hn _ _ _)) | rfl
theorem aD {r : Nat} {e : Emb} {es1 zCI : Array MapEntry} {zCA : Nat} (hR : Rel P f H w) (he : f r = some e) (hg : H.get r = some (.map es clk))
 (h0 : w.heap[e.r]? = some (.map es' clk)) (h1 : fJ P f es1.toList zCI.toList) (hro : e.ro = false) :
 Rel P f (H.put r (.map es1 zCA)) (World.put w e.r (.map zCI zCA)) ∧ Grow f H w f (H.put r (.map es1 zCA)) (World.put w e.r (.map zCI zCA)) ∧ Keep f H (H.put r (.map es1 zCA)) := by
 have hlt := hR.bound r e he;refine Rel.put (o1' := .map zCI zCA) hR he hg rfl hro ⟨hro, zCI, rfl, by simpa using h1.1.symm, fun i x hx => ?_⟩ (fun x => heap_put hlt) (by simp [World.put]);obtain ⟨x', q1, q2⟩ := h1.get (i := i) (v := x) (by simpa using hx);exact ⟨x', by simpa using q1, q2⟩
theorem mX {H' : IH} {v v' : Value} (hR : Rel P f H w) (h : xL P t x k v H = some H') (hx : zAP P f x x') (hk : zAP P f k k') (hv : zAP P f v v') :
 ∃ w', (Instr.mapUpdate t x' k' v').run P w = .ok () w' ∧ Rel P f H' w' ∧ Grow f H w f H' w' ∧ Keep f H H' := by
 unfold xL at h;split at h
 ·rename_i kt et r hu;obtain ⟨e, he, rfl⟩ := hx.zBX;split at h
  ·rename_i es clk hg;obtain ⟨hro, es', h1, h2⟩ := eY hR he hg;have hob := yI (P := P) h1 (fun _ _ _ hx => by cases hx);have hso : ∀ o1, (setObj e.r o1).run P w = .ok () (World.put w e.r o1) := fun o1 => u7 (P := P) (o1 := o1) h1 (fun _ _ _ hx => by cases hx)
   split at h
   ·split at h
    ·rename_i i hf;obtain ⟨rfl, _, c1, r', c2, c3, c4⟩ := cO h2 hk hf;split at h
     ·rename_i en hen;split at h
      ·rename_i hsb;cases h;obtain ⟨⟨j, u⟩, rfl, hj⟩ := zKR.1 c3;simp only at hj; subst hj;obtain ⟨e2, q1, rfl⟩ := c4 j u rfl;obtain ⟨e3, q3, q4, q5, q6⟩ := h2.get (i := j) (v := en) (by simpa using hen);rw [show es'.toList[j]? = es'[j]? by simp, q1] at q3;cases q3
       obtain ⟨g1, g2, g3⟩ := aD (zCA := clk) (es1 := es.modify j fun e => { e with key := k', val := v }) (zCI := es'.modify j fun e => { e with key := k', val := v' }) hR he hg h1
        (by simpa [zNE] using h2.modify j (fun e => { e with key := k', val := v }) (fun e => { e with key := k', val := v' }) (fun x x' hxx => ⟨rfl, hxx.2.1, hv⟩)) hro
       refine ⟨_, ?_, g1, g2, g3⟩;rw [<- q4] at hsb;simp [Instr.mapUpdate, run_underlying hu, hob, c1, c2, q1, Instr.keyThatStays, hsb, hso]
      ·cases h
     ·cases h
    ·rename_i hf;obtain ⟨rfl, _, c1, r', c2, c3, c4⟩ := cO h2 hk hf;cases h;have hr' : r' = none := by cases r' <;> simp at c3 ⊢
     subst hr'
     obtain ⟨g1, g2, g3⟩ := aD (zCA := clk + 1) (es1 := es.push { key := k', val := v, born := clk }) (zCI := es'.push { key := k', val := v', born := clk }) hR he hg h1
      (by simpa using h2.push (x := { key := k', val := v, born := clk }) (x' := { key := k', val := v', born := clk }) ⟨rfl, rfl, hv⟩) hro
     refine ⟨_, ?_, g1, g2, g3⟩;simp [Instr.mapUpdate, run_underlying hu, hob, c1, c2, hso]
    ·cases h
   ·cases h
  ·cases h
 ·cases h
end Go.Idl
namespace Go.Idl
variable {P : Program}
variable {H H' : IH} {f : Inj} {l' : List MapEntry} {t : TypeId} {v x x' : Value} {w : World}
theorem qIU {k k' : Value} (hR : Rel P f H w) (h : wG P t x k H = some (.val v H')) (hx : zAP P f x x') (hk : zAP P f k k') :
 Post P f H w v H' ((Instr.mapEntry t x' k').run P w) := by
 unfold wG at h;split at h
 ·rename_i kt et r hu;obtain ⟨e, he, rfl⟩ := hx.zBX;split at h
  ·rename_i es clk hg;obtain ⟨hro, es', h1, h2⟩ := eY hR he hg;have hob := yI (P := P) h1 (fun _ _ _ hx => by cases hx);have hso : ∀ o1, (setObj e.r o1).run P w = .ok () (World.put w e.r o1) := fun o1 => u7 (P := P) (o1 := o1) h1 (fun _ _ _ hx => by cases hx)
   split at h
   ·split at h
    ·rename_i i hf;obtain ⟨rfl, _, c1, r', c2, c3, c4⟩ := cO h2 hk hf;split at h
     ·rename_i en hen;split at h
      ·rename_i hsb;obtain ⟨rfl, rfl⟩ := val_inj h;obtain ⟨⟨j, u⟩, rfl, hj⟩ := zKR.1 c3;simp only at hj; subst hj;obtain ⟨e2, q1, rfl⟩ := c4 j u rfl;obtain ⟨e3, q3, q4, q5, q6⟩ := h2.get (i := j) (v := en) (by simpa using hen);rw [show es'.toList[j]? = es'[j]? by simp, q1] at q3;cases q3
       obtain ⟨g1, g2, g3⟩ := aD (zCA := clk) (es1 := es.modify j fun e => { e with key := k' }) (zCI := es'.modify j fun e => { e with key := k' }) hR he hg h1
        (by simpa [zNE] using h2.modify j (fun e => { e with key := k' }) (fun e => { e with key := k' }) (fun x x' hxx => ⟨rfl, hxx.2.1, hxx.2.2⟩)) hro
       refine ⟨.tuple #[e2.val, goInt en.born], _, f, ?_, g1, g2, .zA7 (.cons q6 (.cons (.base _ rfl) .nil)), g3⟩;rw [<- q4] at hsb;simp [Instr.mapEntry, run_underlying hu, hob, c1, c2, q1, Instr.keyThatStays, hsb, hso, q5]
      ·cases h
     ·cases h
    ·rename_i hf;obtain ⟨rfl, _, c1, r', c2, c3, c4⟩ := cO h2 hk hf;split at h
     ·rename_i z hz;split at h
      ·rename_i hpl;obtain ⟨rfl, rfl⟩ := val_inj h;have hr' : r' = none := by cases r' <;> simp at c3 ⊢
       subst hr'
       obtain ⟨g1, g2, g3⟩ := aD (zCA := clk + 1) (es1 := es.push { key := k', val := z, born := clk }) (zCI := es'.push { key := k', val := z, born := clk }) hR he hg h1
        (by simpa using h2.push (x := { key := k', val := z, born := clk }) (x' := { key := k', val := z, born := clk }) ⟨rfl, rfl, .base _ hpl⟩) hro
       refine ⟨.tuple #[z, goInt clk], _, f, ?_, g1, g2, .zA7 (.cons (.base _ hpl) (.cons (.base _ rfl) .nil)), g3⟩;simp [Instr.mapEntry, run_underlying hu, hob, c1, c2, vO hz, hso]
      ·cases h
     ·cases h
    ·cases h
   ·cases h
  ·cases h
 ·cases h
theorem findIdx_born {f : Inj} {b : Int} : ∀ (l l' : List MapEntry), fJ P f l l' -> l'.findIdx? (fun e => (e.born : Int) == b) = l.findIdx? (fun e => (e.born : Int) == b)
 | [], l', h => by rw [h.zAT]
 | e :: l, l', h => by
   obtain ⟨e', t', rfl, he, ht⟩ := h.zAQ;simp only [List.findIdx?_cons, he.2.1, findIdx_born l t' ht]
theorem qCM {s s' v' : Value} (hR : Rel P f H w) (h : fA x s v H = some H') (hx : zAP P f x x') (hs : zAP P f s s') (hv : zAP P f v v') :
 ∃ w', (Instr.entryStore t x' s' v').run P w = .ok () w' ∧ Rel P f H' w' ∧ Grow f H w f H' w' ∧ Keep f H H' := by
 unfold fA at h;split at h
 ·rename_i r k born;obtain ⟨e, he, rfl⟩ := hx.zBX;have := hs.int; subst this;split at h
  ·rename_i es clk hg;obtain ⟨hro, es', h1, h2⟩ := eY hR he hg;have hob := yI (P := P) h1 (fun _ _ _ hx => by cases hx);have hso : ∀ o1, (setObj e.r o1).run P w = .ok () (World.put w e.r o1) := fun o1 => u7 (P := P) (o1 := o1) h1 (fun _ _ _ hx => by cases hx)
   split at h
   ·split at h
    ·rename_i i hi;cases h
     have hi' : es'.findIdx? (fun e => (e.born : Int) == born) = some i := by
      have e1 : ∀ es : Array MapEntry, es.findIdx? (fun e => (e.born : Int) == born) = es.toList.findIdx? (fun e => (e.born : Int) == born) := fun es => by rw [<- List.findIdx?_toArray]
      rw [e1] at hi ⊢;rw [findIdx_born _ _ h2]; exact hi
     obtain ⟨g1, g2, g3⟩ := aD (zCA := clk) (es1 := es.modify i fun e => { e with val := v }) (zCI := es'.modify i fun e => { e with val := v' }) hR he hg h1
      (by simpa [zNE] using h2.modify i (fun e => { e with val := v }) (fun e => { e with val := v' }) (fun x x' hxx => ⟨hxx.1, hxx.2.1, hv⟩)) hro
     exact ⟨_, by simp [Instr.entryStore, hob, asInt, asIntOf, hi', hso], g1, g2, g3⟩
    ·cases h
   ·cases h
  ·cases h
 ·cases h
theorem mQ (hR : Rel P f H w) : f H.size = none := by
 cases hx : f H.size with
 | none => rfl
 | some y => have := hR.dom _ _ hx; omega
theorem qSK (hR : Rel P f H w) (h : qIO P t x H = some (.val v H')) (hx : zAP P f x x') :
 Post P f H w v H' ((Instr.range t x').run P w) := by
 unfold qIO at h;split at h
 ·rename_i s hu;have := hx.str; subst this;obtain ⟨rfl, rfl⟩ := val_inj h
  have hO : qG3 P (f.add H.size ⟨w.heap.size, 0, 0, false⟩) ⟨w.heap.size, 0, 0, false⟩ (.stringIter s 0) (some (.stringIter s 0)) := ⟨rfl, rfl, rfl⟩
  obtain ⟨g1, g2⟩ := Rel.push hR rfl hO;exact ⟨_, _, _, by simp [Instr.range, run_underlying hu, newObj, Sem.run], g1, g2, qEZ Inj.add_same rfl rfl, .push⟩
 ·rename_i k el m hu;obtain ⟨e, he, rfl⟩ := hx.zBX;split at h
  ·rename_i es clk hg;obtain ⟨hro, es', h1, h2⟩ := eY hR he hg;have hob := yI (P := P) h1 (fun _ _ _ hx => by cases hx);obtain ⟨rfl, rfl⟩ := val_inj h;have hle : f.le (f.add H.size ⟨w.heap.size, 0, 0, false⟩) := Inj.zBS (mQ hR)
   have hO : qG3 P (f.add H.size ⟨w.heap.size, 0, 0, false⟩) ⟨w.heap.size, 0, 0, false⟩ (.mapIter (some m) clk #[] 0) (some (.mapIter (some e.r) clk #[] clk)) :=
    ⟨rfl, rfl, e, #[], clk, hle _ _ he, rfl, (fun x => by simp), (fun n hn => by cases hn), (fun _ => rfl), (fun x hx => absurd hx (by simp))⟩
   obtain ⟨g1, g2⟩ := Rel.push hR rfl hO;refine ⟨_, _, _, ?_, g1, g2, qEZ Inj.add_same rfl rfl, .push⟩;simp [Instr.range, run_underlying hu, hob, newObj, Sem.run]
  ·cases h
 ·cases h
theorem fP {n x : Nat} : ∀ {l : List Nat}, x ∈ insertSorted n l ↔ x = n ∨ x ∈ l
 | [] => by simp [insertSorted]
 | m :: l => by
   unfold insertSorted;split
   ·simp
   ·simp only [zK5, fP (l := l)];constructor
    ·rintro (h | h | h)
     ·exact .inr (.inl h)
     ·exact .inl h
     ·exact .inr (.inr h)
    ·rintro (h | h | h)
     ·exact .inr (.inl h)
     ·exact .inl h
     ·exact .inr (.inr h)
theorem fJ.filter {f : Inj} {p p' : MapEntry -> Bool} : ∀ (l l' : List MapEntry), fJ P f l l' -> (∀ x x' : MapEntry, x'.born = x.born -> p' x' = p x) -> fJ P f (l.filter p) (l'.filter p')
 | [], l', h, _ => by rw [h.zAT]; exact .nil
 | e :: l, l', h, hp => by
   obtain ⟨e', t', rfl, he, ht⟩ := h.zAQ;have := hp e e' he.2.1;simp only [zND, this];split
   ·exact .cons he (fJ.filter l t' ht hp)
   ·exact fJ.filter l t' ht hp
def q82 (P : Program) (f : Inj) (H : IH) (w : World) (n : Nat) (k : Nat -> Option (Value × IH)) (r : Result Value) : Prop :=
 ∃ i, i < n ∧ ∀ v H', k i = some (v, H') -> Post P f H w v H' r
theorem q1D (n : Nat) (h : 0 < n) (w : World) : (Question.mapNext n).cut (w.tape w.drawn (.mapNext n)) < n := by
 simp [Question.cut];exact Nat.mod_lt _ h
theorem qWG (hR : Rel P f H w) (h : qJJ x true H = some (.val v H')) (hx : zAP P f x x') :
 Post P f H w v H' ((Instr.next x' true t).run P w) := by
 unfold qJJ at h;split at h
 ·rename_i r;obtain ⟨e, he, rfl⟩ := hx.zA8;split at h
  ·rename_i s pos hg _;obtain ⟨hro, hsh, h1⟩ := hR.obj r e _ he hg;have hob := yI (P := P) h1 (fun _ _ _ hx => by cases hx);have hso : ∀ o1, (setObj e.r o1).run P w = .ok () (World.put w e.r o1) := fun o1 => u7 (P := P) (o1 := o1) h1 (fun _ _ _ hx => by cases hx)
   split at h
   ·split at h
    ·rename_i hlt;obtain ⟨rfl, rfl⟩ := val_inj h
     obtain ⟨g1, g2, g3⟩ := Rel.put (o1 := .stringIter s (pos + (Utf8.decode s pos).2)) (o1' := .stringIter s (pos + (Utf8.decode s pos).2)) (w' := World.put w e.r (.stringIter s (pos + (Utf8.decode s pos).2)))
      hR he hg rfl hro ⟨hro, hsh, rfl⟩ (fun x => heap_put (hR.bound r e he)) (by simp [World.put])
     refine ⟨.tuple #[.bool true, goInt pos, .int .i32 (Utf8.decode s pos).1], _, f, ?_, g1, g2, .zA7 (.cons (.base _ rfl) (.cons (.base _ rfl) (.cons (.base _ rfl) .nil))), g3⟩;simp [Instr.next, hsh, hob, hlt, hso]
    ·rename_i hlt;obtain ⟨rfl, rfl⟩ := val_inj h;refine .same hR (v' := .tuple #[.bool false]) ?_ (.zA7 (.cons (.base _ rfl) .nil));simp [Instr.next, hsh, hob, hlt]
   ·cases h
  ·rename_i hb; cases hb
  ·cases h
 ·cases h
theorem filter_none {l : List MapEntry} (h : fJ P f l l') {p : MapEntry -> Bool} (hp : ∀ x x' : MapEntry, x'.born = x.born -> p x' = p x) (h0 : ∀ x ∈ l, p x = false) : l'.filter p = [] := by
 have := (fJ.filter (p := p) (p' := p) l l' h hp)
 rw [List.filter_eq_nil_iff.2 (fun x hx => by simp [h0 x hx])] at this;exact this.zAT
theorem filter_all {l : List MapEntry} (h : fJ P f l l') {p : MapEntry -> Bool} (hp : ∀ x x' : MapEntry, x'.born = x.born -> p x' = p x) (h0 : ∀ x ∈ l, p x = true) : l'.filter p = l' := by
 rw [List.filter_eq_self];intro x hx;obtain ⟨i, hi, rfl⟩ := zMI.1 hx;have hi2 : i < l.length := by rw [h.1]; exact hi
 have := h.2 i l[i] l'[i] (zKM hi2) (zKM hi);rw [hp _ _ this.2.1];exact h0 _ (zME hi2)
def qY5 (P : Program) (f : Inj) (H : IH) (w : World) (s : zAU) (r : Result Value) : Prop :=
 match s with
 | .val v H' => Post P f H w v H' r
 | .choice n k => q82 P f H w n k r
 | _ => False
theorem qUI {s : zAU} (hR : Rel P f H w) (h : qJJ x false H = some s) (hx : zAP P f x x') :
 qY5 P f H w s ((Instr.next x' false t).run P w) := by
 unfold qJJ at h;split at h
 ·rename_i r;obtain ⟨e, he, rfl⟩ := hx.zA8;split at h
  ·rename_i hb; cases hb
  ·rename_i m since seen last hg _;obtain ⟨hro, hsh, em, seen', st, hm, h1, zDC, hlast, hst, hlt⟩ := hR.obj r e _ he hg;have hob := yI (P := P) h1 (fun _ _ _ hx => by cases hx);have hso : ∀ o1 w', w'.heap = w.heap -> (setObj e.r o1).run P w' = .ok () (World.put w' e.r o1) := fun o1 w' hw' => u7 (P := P) (o := .mapIter (some em.r) since seen' st) (o1 := o1) (by rw [hw']; exact h1) (fun _ _ _ hx => by cases hx)
   split at h
   ·rename_i es clk hgm;obtain ⟨zHQ, es', h2, hE⟩ := eY hR hm hgm;have zCQ := yI (P := P) h2 (fun _ _ _ hx => by cases hx);split at h
    ·rename_i hc;simp only [zKI, beq_iff_eq, decide_eq_true_eq, zMM] at hc;obtain ⟨⟨hbase, zHR⟩, hborn⟩ := hc;subst zHR;have hbl : ∀ x ∈ es.toList, decide (x.born < clk) = true := fun x hx => by have := hborn x (by simpa using hx); simpa using this
     -- the guard against entries that are all new
     have hguard : (!seen'.isEmpty && !es'.isEmpty && es'.all fun e => decide (e.born ≥ st)) = false := by
      by_cases hse : seen'.isEmpty = true
      ·simp [hse]
      ·have hst' := hst (by simpa using hse);subst hst';by_cases hee : es'.isEmpty = true
       ·simp [hee]
       ·have hne : es'.size ≠ 0 := fun h0 => hee (by simpa using zL4 h0)
        have hl : 0 < es'.toList.length := by simpa using Nat.pos_of_ne_zero hne
        have hl2 : 0 < es.toList.length := by rw [hE.1]; exact hl
        have h3 := hE.2 0 _ _ (zKM hl2) (zKM hl);have h4 := hbl _ (zME hl2);rw [Bool.and_eq_false_iff]; right;rw [zN2];intro hall;rw [zMM] at hall;have h5 := hall es'.toList[0] (zLL.2 (zME hl));rw [h3.2.1] at h5;simp at h4 h5;omega
     have hsc : ∀ b, seen'.contains b = seen.contains b := fun b => by
      rw [Bool.eq_iff_iff];simp only [Array.contains_iff_mem];rw [zDC b]; simp
     have zCR : fJ P f (es.filter fun e => !seen.contains e.born).toList (es'.filter fun e => !seen'.contains e.born).toList := by
      rw [zNF, zNF];exact fJ.filter _ _ hE (fun x x' hxx => by rw [hxx, hsc])
     have hlb : ∀ x ∈ (es.filter fun e => !seen.contains e.born).toList, decide (x.born < clk) = true := fun x hx => by
      rw [zNF] at hx;exact hbl x ((List.mem_filter.1 hx).1)
     generalize hleft : (es.filter fun e => !seen.contains e.born) = left at *;generalize zDV : (es'.filter fun e => !seen'.contains e.born) = left' at *
     have hold : left'.filter (fun e => decide (e.born < clk)) = left' := by
      apply zLS;rw [zNF];exact filter_all zCR (fun x x' hxx => by rw [hxx]) hlb
     have hnew : left'.filter (fun e => decide (e.born ≥ clk)) = #[] := by
      apply zLS;rw [zNF];exact filter_none zCR (fun x x' hxx => by rw [hxx]) (fun x hx => by have := hlb x hx; simp at this ⊢; exact this)
     have hsz : left'.size = left.size := by simpa using zCR.1.symm
     unfold qE2 at h;split at h
     ·rename_i hem;cases h;have hl0 : left' = #[] := zL4 (by rw [hsz]; simpa using hem)
      have hsame : ∀ x : Nat, w.heap[x]? = if x = e.r then some (.mapIter (some em.r) clk seen' st) else w.heap[x]? := by
       intro x;by_cases hxe : x = e.r
       ·rw [if_pos hxe, hxe, h1]
       ·rw [if_neg hxe]
      obtain ⟨g1, g2, g3⟩ := Rel.put (o1 := .mapIter (some m) clk seen 0) (o1' := .mapIter (some em.r) clk seen' st) (w' := w)
       hR he hg rfl hro ⟨hro, hsh, em, seen', st, hm, rfl, zDC, (fun n hn => by cases hn), hst, hlt⟩ hsame rfl
      refine ⟨.tuple #[.bool false], w, f, ?_, g1, g2, .zA7 (.cons (.base _ rfl) .nil), g3⟩;subst hl0;simp only [Instr.next, hsh, zLA, Sem.run_bind, hob, Result.andThen_ok, zCQ, hguard, zL9, if_false, zDV, hold, hnew];simp [choose, Sem.run, Question.forced]
     ·rename_i hem;cases h;have hne : 0 < left'.size := by rw [hsz]; exact Nat.pos_of_ne_zero fun h0 => hem (by simpa using zL4 h0)
      -- whichever entry comes
      have post : ∀ (i : Nat) (w' : World), w'.heap = w.heap -> (w'.os = w.os ∧ w'.output = w.output ∧ w'.tape = w.tape) -> i < left.size -> ∀ v H', (match left[i]? with
       | some en => if !zM en.key then none else some (Value.tuple #[.bool true, en.key, en.val], H.put r (.mapIter (some m) clk (insertSorted en.born seen.toList).toArray (en.born + 1)))
       | none => none) = some (v, H') -> ∃ en', left'[i]? = some en' ∧ Post P f H w v H' (.ok (.tuple #[.bool true, en'.key, en'.val]) (World.put w' e.r (.mapIter (some em.r) clk (seen'.push en'.born) clk))) := by
       intro i w' hw' hot hi v H' hk;split at hk
       ·rename_i en hen;split at hk
        ·cases hk
        ·rename_i hpl;cases hk;have hpl : zM en.key = true := by simpa using hpl
         obtain ⟨en', q1, q2, q3, q4⟩ := zCR.get (i := i) (v := en) (by simpa using hen);refine ⟨en', by simpa using q1, ?_⟩
         obtain ⟨g1, g2, g3⟩ := Rel.put (o1 := .mapIter (some m) clk (insertSorted en.born seen.toList).toArray (en.born + 1)) (o1' := .mapIter (some em.r) clk (seen'.push en'.born) clk)
          (w' := World.put w' e.r (.mapIter (some em.r) clk (seen'.push en'.born) clk)) hR he hg rfl hro
          ⟨hro, hsh, em, _, _, hm, rfl, (fun x => by rw [q3]; simp [fP, zDC x, or_comm]), (fun n hn => by simp at hn; simp [q3, hn]), (fun _ => rfl), (fun x hx => by
            rw [Array.mem_push] at hx;rcases hx with hx | hx
            ·exact hlt x hx
            ·rw [hx, q3]
             have := hlb en (by
              have := zOC.2 ⟨i, show left.toList[i]? = some en by simpa using hen⟩
              exact this)
             simpa using this)⟩
          (fun x => by rw [heap_put (by rw [hw']; exact hR.bound r e he), hw']) (by simp [World.put, hw']) hot
         exact ⟨_, _, f, rfl, g1, g2, .zA7 (.cons (.base _ rfl) (.cons (by rw [q2]; exact .base _ hpl) (.cons q4 .nil))), g3⟩
       ·cases hk
      have zHS : left'.isEmpty = false := by
       rw [zN2]; intro hc; have : left'.size = 0 := by simpa using hc
       omega
      have zGD : ((if left'.isEmpty = true then #[none] else #[]) ++ Array.map some (left' ++ #[])) = left'.map some := by simp [zHS]
      have zDW : ∀ i w' en', left'[i]? = some en' -> w'.heap = w.heap -> (choose (.mapNext left'.size)).run P w = .ok i w' ->
       (Instr.next (.pointer (some ⟨e.r, 0 + e.shift, none⟩)) false t).run P w = .ok (.tuple #[.bool true, en'.key, en'.val]) (World.put w' e.r (.mapIter (some em.r) clk (seen'.push en'.born) clk)) := by
       intro i w' en' hi hw' hch;simp only [Instr.next, hsh, zLA, Sem.run_bind, hob, Result.andThen_ok, zCQ, hguard, zL9, if_false, zDV, hold, hnew, zGD, Array.size_map];rw [hch];simp [hi, hso _ w' hw']
      by_cases hone : left'.size <= 1
      ·refine ⟨0, by omega, fun v H' hk => ?_⟩;obtain ⟨en', q1, q2⟩ := post 0 w rfl ⟨rfl, rfl, rfl⟩ (by omega) v H' hk;rw [zDW 0 w en' q1 rfl (by simp [choose, Sem.run, Question.forced, hone])];exact q2
      ·refine ⟨(Question.mapNext left'.size).cut (w.tape w.drawn (.mapNext left'.size)), ?_, fun v H' hk => ?_⟩
       ·rw [<- hsz]; exact q1D _ hne w
       ·obtain ⟨en', q1, q2⟩ := post _ w.drew rfl ⟨rfl, rfl, rfl⟩ (by rw [<- hsz]; exact q1D _ hne w) v H' hk
        rw [zDW _ w.drew en' q1 rfl (by
         unfold choose Sem.run;rw [if_neg (by simpa [Question.forced] using hone)]
         rfl)]
        exact q2
    ·cases h
   ·cases h
  ·cases h
 ·cases h
theorem qR4 (hR : Rel P f H w) (h : qDB x H = some v) (hx : zAP P f x x') :
 Post P f H w v H ((Instr.entry x').run P w) := by
 unfold qDB at h;split at h
 ·rename_i r;obtain ⟨e, he, rfl⟩ := hx.zA8;split at h
  ·rename_i m since seen last hg;obtain ⟨hro, hsh, em, seen', st, hm, h1, zDC, hlast, hst, hlt⟩ := hR.obj r e _ he hg;have hob := yI (P := P) h1 (fun _ _ _ hx => by cases hx);split at h
   ·rename_i es clk hgm;obtain ⟨zHQ, es', h2, hE⟩ := eY hR hm hgm;have zCQ := yI (P := P) h2 (fun _ _ _ hx => by cases hx);split at h
    ·rename_i hc;simp only [beq_iff_eq] at hc;subst hc;have hback := hlast last rfl
     have hst' := hst (by
      rw [zN2]; intro hcc;have : seen' = #[] := by simpa using hcc
      rw [this] at hback; simp at hback)
     subst hst';split at h
     ·rename_i en hen;split at h
      ·rename_i hpl;cases h
       have : ∃ en', es'.find? (fun e => e.born == last) = some en' ∧ en'.key = en.key ∧ zAP P f en.val en'.val := by
        have key : ∀ (l l' : List MapEntry), fJ P f l l' -> l.find? (fun e => e.born == last) = some en -> ∃ en', l'.find? (fun e => e.born == last) = some en' ∧ en'.key = en.key ∧ zAP P f en.val en'.val := by
         intro l
         induction l with
         | nil => intro l' _ hf; simp at hf
         | cons a l ih =>
           intro l' hE hf;obtain ⟨a', t', rfl, ha, ht⟩ := hE.zAQ;simp only [List.find?_cons, ha.2.1] at hf ⊢;split at hf
           ·cases hf; exact ⟨a', rfl, ha.1, ha.2.2⟩
           ·exact ih t' ht hf
        obtain ⟨en', q1, q2⟩ := key es.toList es'.toList hE (by simpa using hen);exact ⟨en', by simpa using q1, q2⟩
       obtain ⟨en', q1, q2, q3⟩ := this;refine .same hR (v' := .tuple #[en'.key, en'.val]) ?_ (.zA7 (.cons (by rw [q2]; exact .base _ hpl) (.cons q3 .nil)));simp [Instr.entry, hsh, hob, zCQ, hback, q1]
      ·cases h
     ·cases h
    ·cases h
   ·cases h
  ·cases h
 ·cases h
end Go.Idl
namespace Go.Idl
variable {P : Program}
variable {H : IH} {as : List Value} {c : Call} {f : Inj} {fn : Func} {g : FuncId} {o : Oper} {ts : Array TypeId} {w : World} {ρ : Operand -> Value}
theorem qF4 : Extern.allNextRows.lookup "internal/abi.NoEscape" = none := by kernel_rfl
theorem qQN : Extern.allNextRows.lookup "" = none := by kernel_rfl
theorem rW : Extern.allGenericRows.lookup "internal/abi.NoEscape" = none := by kernel_rfl
theorem qCL : Extern.allTypedRows.lookup "internal/abi.NoEscape" = none := by kernel_rfl
theorem qIT : Extern.allRows.lookup "internal/abi.NoEscape" = some Extern.AbiNoEscape.same := by kernel_rfl
theorem qFJ (hn : fn.name = "internal/abi.NoEscape") (ho : fn.origin = "") : Extern.findNext fn = none ∧ Extern.find fn = some Extern.AbiNoEscape.same := by
 unfold Extern.findNext Extern.find;simp only [hn, ho, qF4, qQN, rW, qCL, qIT];exact ⟨rfl, rfl⟩
theorem aS {x : Value} (hf : P.funcs[g]? = some fn) (hb : fn.body.isSome = false) (hn : fn.name = "internal/abi.NoEscape") (ho : fn.origin = "") :
 (callFunc g #[x]).run P w = .ok (.value x) w := by
 obtain ⟨h1, h2⟩ := qFJ hn ho
 have h3 : fn.name ≠ "runtime.NumGoroutine" := by rw [hn]; decide
 have h4 : fn.body = none := by cases hx : fn.body <;> simp [hx] at hb ⊢
 have h5 : (Extern.AbiNoEscape.same #[x]).run P w = .ok x w := rfl;unfold callFunc;simp [hf, h3, h4, h1, h2, h5]
theorem run_callFunc_enter {args : Array Value} (hf : P.funcs[g]? = some fn) (hb : fn.body.isSome = true) (hn : (fn.name != "runtime.NumGoroutine") = true) :
 (callFunc g args).run P w = .ok (.enter g args) w := by
 have h3 : fn.name ≠ "runtime.NumGoroutine" := by simpa [bne] using hn
 have h4 : fn.body ≠ none := by cases hx : fn.body <;> simp [hx] at hb ⊢
 unfold callFunc;simp [hf, h3, h4]
def qED (P : Program) (f : Inj) (H : IH) (w : World) (s : zAU) (r : Result Next) : Prop :=
 match s with
 | .val v H' => rA P f H w v H' r
 | .enter g args H' => H' = H ∧ ∃ args', qC P f args args' ∧ r = .ok (.enter g args'.toArray) w
 | .round l args H' => H' = H ∧ ∃ e args', f l = some e ∧ qC P f args args' ∧ r = (Instr.yield e.r args'.toArray).run P w
 | .choice n k => ∃ i, i < n ∧ ∀ v H', k i = some (v, H') -> rA P f H w v H' r
theorem qC.map {f : Inj} {α : Type} (g g' : α -> Value) : ∀ (l : List α), (∀ x ∈ l, zAP P f (g x) (g' x)) -> qC P f (l.map g) (l.map g')
 | [], _ => .nil
 | a :: l, h => .cons (h a (by simp)) (qC.map g g' l fun x hx => h x (by simp [hx]))
theorem rA.of_run {H' : IH} {v : Value} {s : Sem Value} (he : execOp ρ o = (do pure (Next.value (<- s)))) (h : Post P f H w v H' (s.run P w)) :
 rA P f H w v H' ((execOp ρ o).run P w) := by rw [he]; exact h.next
theorem val_append {s : zAU} (h : uK P ts as H = some s) : ∃ v H', s = .val v H' := by
 unfold uK vJ qMV qQT at h
 repeat' split at h
 all_goals first | (cases h; exact ⟨_, _, rfl⟩) | cases h
theorem qXF {s : zAU} (h : qMI P ts as H = some s) : ∃ v H', s = .val v H' := by
 unfold qMI tJ at h
 repeat' split at h
 all_goals first | (cases h; exact ⟨_, _, rfl⟩) | cases h
theorem q3A {s : zAU} (h : nW P ts as H = some s) : ∃ v H', s = .val v H' := by
 unfold nW at h
 repeat' split at h
 all_goals first | (cases h; exact ⟨_, _, rfl⟩) | cases h
theorem rU {s : zAU} (h : xG P ts as H = some s) : ∃ v H', s = .val v H' := by
 unfold xG at h
 repeat' split at h
 all_goals first | (cases h; exact ⟨_, _, rfl⟩) | cases h
theorem qLI {b : Builtin} {t : TypeId} {cs : Array Bool} {as' : List Value} {s : zAU} (hR : Rel P f H w) (h : zY P b c as H = some s) (ha : qC P f as as') :
 qED P f H w s ((builtin b c.argTypes t cs as'.toArray).run P w) := by
 unfold zY at h;split at h
 ·obtain ⟨v, H', rfl⟩ := val_append h;exact (qP3 (t := t) hR h ha).next
 ·obtain ⟨v, H', rfl⟩ := qXF h;exact (qZA (t := t) hR h ha).next
 ·obtain ⟨v, H', rfl⟩ := q3A h;exact (q31 (t := t) hR h ha).next
 ·split at h
  ·rename_i l c';cases h;obtain ⟨x', r, rfl, hx, hr⟩ := ha.zAQ;have := hr.zAT; subst this;exact (qH9 c.argTypes t hR hx).next
  ·rename_i a l c';split at h
   ·rename_i hc;cases h;obtain ⟨x', r, rfl, hx, hr⟩ := ha.zAQ;have := hr.zAT; subst this;exact (qG1 c.argTypes t hR rfl (by simpa using hc) hx).next
   ·cases h
  ·cases h
 ·obtain ⟨v, H', rfl⟩ := rU h;exact (rY (t := t) hR h ha).next
 ·cases h
theorem qZH {o : Oper} {env : Env} {s : zAU} (hR : Rel P f H w) (ho : o.op = .call c) (h : fH P c env H = some s)
 (hρ : ∀ x ∈ o.op.operands, zAP P f (env.val x) (ρ x)) : qED P f H w s ((execOp ρ o).run P w) := by
 have zDB : execOp ρ o = (do let d <- resolve ρ c o.type; invoke d.target d.args) := by unfold execOp; rw [ho]
 have hargs : qC P f (kG env.val c.args.toList) (c.args.map ρ).toList := by
  rw [y5, zMY];refine qC.map _ _ _ fun x hx => hρ x ?_
  rw [ho]; simp only [Op.operands, Call.operands, zMN]; right; simpa using hx
 unfold fH at h;simp only at h;split at h
 ·rename_i b hb
  have : ∃ cs, (execOp ρ o).run P w = (builtin b c.argTypes o.type cs (c.args.map ρ)).run P w := by
   rw [zDB];simp only [resolve, hb, invoke, Sem.run_bind, Sem.run_pure, Result.andThen_ok];exact ⟨_, rfl⟩
  obtain ⟨cs, this⟩ := this;rw [this];have := qLI (t := o.type) (cs := cs) hR h hargs
  rwa [Array.toArray_toList] at this
 ·cases h
 ·rename_i fv hb;have hfv : zAP P f (env.val fv) (ρ fv) := hρ fv (by rw [ho]; simp [Op.operands, Call.operands, hb])
  have hrun : ∀ fn first captured, ρ fv = .func fn first captured -> (execOp ρ o).run P w = (invoke (.fn fn captured) (first ++ c.args.map ρ)).run P w := by
   intro fn first captured he
   rw [zDB];simp [resolve, hb, Deferred.ofValue, he]
  split at h
  ·rename_i g first captured he
   rw [he] at hfv
   rcases hfv.zBU with ⟨g', a', c', hg, hv, h1, h2⟩ | ⟨l, e, hg, _⟩
   ·cases hg;rw [hrun _ _ _ hv]
    have hall : qC P f (qG2 first.toList (qG2 (kG env.val c.args.toList) captured.toList)) (a'.toList ++ ((c.args.map ρ).toList ++ c'.toList)) := by
     rw [dW, dW]; exact h1.append (hargs.append h2)
    have harr : a' ++ Array.map ρ c.args ++ c' = (a'.toList ++ ((c.args.map ρ).toList ++ c'.toList)).toArray := by apply zLS; simp
    split at h
    ·rename_i fn hfn;split at h
     ·rename_i hbody;split at h
      ·rename_i hname;cases h;refine ⟨rfl, _, hall, ?_⟩;simp only [invoke];rw [run_callFunc_enter hfn hbody hname, harr]
      ·cases h
     ·rename_i hbody;split at h
      ·rename_i hname;simp only [zKI, beq_iff_eq] at hname;split at h
       ·rename_i v hv1;cases h;rw [hv1] at hall;obtain ⟨v', r, h3, h4, h5⟩ := hall.zAQ;have := h5.zAT; subst this;refine ⟨.value v', v', w, f, ?_, .inl rfl, hR, .refl _ _ _, h4, .refl _ _⟩;simp only [invoke];rw [harr, h3];exact aS hfn (by simpa using hbody) hname.1 hname.2
       ·cases h
      ·cases h
    ·cases h
   ·cases hg
  ·rename_i l first captured he
   rw [he] at hfv
   rcases hfv.zBU with ⟨g', a', c', hg, _⟩ | ⟨l', e, hg, hf1, hc1, hfl, hv⟩
   ·cases hg
   ·cases hg;split at h
    ·cases h;refine ⟨rfl, e, _, hfl, hargs, ?_⟩;rw [hrun _ _ _ hv, Array.empty_append, Array.toArray_toList];rfl
    ·cases h
  ·cases h
end Go.Idl
namespace Go.Idl
variable {P : Program}
variable {H H' : IH} {env : Env} {f : Inj} {o : Oper} {v : Value} {w : World} {ρ : Operand -> Value}
theorem mJ {u : Sem Unit} {r : Option IH} (hr : qEL r = some (.val v H')) (he : execOp ρ o = (do u; pure .skip))
 (h : ∀ H2, r = some H2 -> ∃ w', u.run P w = .ok () w' ∧ Rel P f H2 w' ∧ Grow f H w f H2 w' ∧ Keep f H H2) : rA P f H w v H' ((execOp ρ o).run P w) := by
 cases r with
 | none => cases hr
 | some H2 =>
   obtain ⟨rfl, rfl⟩ := val_inj hr;obtain ⟨w', h1, h2, h3, h4⟩ := h H2 rfl;exact ⟨.skip, undef, w', f, by rw [he]; simp [h1], .inr ⟨rfl, rfl⟩, h2, h3, .undef, h4⟩
theorem tK {r : Option IH} {s : zAU} (h : qEL r = some s) : ∃ v H', s = .val v H' := by
 cases r with
 | none => cases h
 | some H2 => cases h; exact ⟨_, _, rfl⟩
theorem wE {r : Option Value} {s : zAU} (h : zAU.ofO H r = some s) : ∃ v, s = .val v H ∧ r = some v := by
 cases r with
 | none => cases h
 | some v => cases h; exact ⟨_, rfl, rfl⟩
theorem qFP {s : zAU} (h : kK P o env H = some s) : ∃ v H', s = .val v H' := by
 obtain ⟨v, rfl, _⟩ := qFY h;exact ⟨_, _, rfl⟩
theorem qWR {op : BinOp} {t : TypeId} {x y : Value} {s : zAU} (h : yP P o op t x y env H = some s) : ∃ v H', s = .val v H' := by
 have hnil : zA3 P o op t x y env H = some s -> ∃ v H', s = .val v H' := by
  intro h;unfold zA3 at h
  repeat' split at h
  all_goals first | (cases h; exact ⟨_, _, rfl⟩) | exact qFP h
 unfold yP at h;split at h
 ·split at h
  ·unfold zBF at h;rw [cond_eq_ite] at h;split at h
   ·split at h
    ·cases h; exact ⟨_, _, rfl⟩
    ·exact qFP h
   ·exact qFP h
  ·exact hnil h
 ·exact hnil h
theorem Post.zBA {s : Sem Value} (h : Post P f H w v H' (s.run P w)) (he : execOp ρ o = (do pure (Next.value (<- s)))) :
 qED P f H w (.val v H') ((execOp ρ o).run P w) := rA.of_run he h
theorem pI (x : Option Operand) (h : ∀ y ∈ x.toArray, zAP P f (env.val y) (ρ y)) : uN P f (x.map env.val) (x.map ρ) := by
 cases x with
 | none => trivial
 | some y => exact h y (by simp)
theorem q15 {o : Oper} {s : zAU} (hR : Rel P f H w) (h : iop P o env H = some s)
 (hρ : ∀ x ∈ o.op.operands, zAP P f (env.val x) (ρ x)) : qED P f H w s ((execOp ρ o).run P w) := by
 have dry : kK P o env H = some s -> qED P f H w s ((execOp ρ o).run P w) := by
  intro hd;obtain ⟨v, H', rfl⟩ := qFP hd;exact o5 hR hd hρ
 have one : ∀ (op : Op), o.op = op -> ∀ x ∈ op.operands, zAP P f (env.val x) (ρ x) := fun op ho x hx => hρ x (by rw [ho]; exact hx)
 have zCK : ∀ {v : Value} {S : Sem Value}, execOp ρ o = (do pure (Next.value (<- S))) -> (∃ v', S.run P w = .ok v' w ∧ zAP P f v v') -> qED P f H w (.val v H) ((execOp ρ o).run P w) := by
  rintro v S he ⟨v', h1, h2⟩;exact ⟨.value v', v', w, f, by rw [he]; simp [h1], .inl rfl, hR, .refl _ _ _, h2, .refl _ _⟩
 have ex : ∀ (op : Op), o.op = op -> execOp ρ o = execOp ρ { o with op := op } := fun op ho => by rw [<- ho]
 unfold iop at h;split at h
 ·-- move
  rename_i x ho;have hone := one _ ho;cases h;exact ⟨.value _, _, w, f, by unfold execOp; rw [ho]; rfl, .inl rfl, hR, .refl _ _ _, hone _ (by simp [Op.operands]), .refl _ _⟩
 ·rename_i x ho;have hone := one _ ho;cases h;exact ⟨.value _, _, w, f, by unfold execOp; rw [ho]; rfl, .inl rfl, hR, .refl _ _ _, hone _ (by simp [Op.operands]), .refl _ _⟩
 ·-- pick
  rename_i c a b ho;have hone := one _ ho
  have : ∃ v H', s = .val v H' := by
   unfold qL2 at h;split at h
   ·cases h; exact ⟨_, _, rfl⟩
   ·cases h
  obtain ⟨v, H', rfl⟩ := this;obtain ⟨v', w', f', h1, h2, h3, h4, h5⟩ := qXV hR h (hone c (by simp [Op.operands])) (hone a (by simp [Op.operands])) (hone b (by simp [Op.operands]));refine ⟨.value v', v', w', f', ?_, .inl rfl, h2, h3, h4, h5⟩;unfold execOp;rw [ho];simp only [Sem.run_bind, Sem.run_pure] at h1 ⊢
  cases hb : (asBool (ρ c)).run P w with
  | ok t w2 => rw [hb] at h1; simp only [Result.andThen_ok] at h1 ⊢; cases h1; rfl
  | halt t w2 => rw [hb] at h1; cases h1
 ·-- alloc
  rename_i elem ho
  have : ∃ v H', s = .val v H' := by
   unfold rG at h;split at h
   ·cases h; exact ⟨_, _, rfl⟩
   ·cases h
  obtain ⟨v, H', rfl⟩ := this;exact (qRS hR h).zBA (by unfold execOp; rw [ho])
 ·-- box
  rename_i elem x ho;have hone := one _ ho
  have : ∃ v H', s = .val v H' := by
   unfold q3Q at h;split at h
   ·cases h; exact ⟨_, _, rfl⟩
   ·cases h
  obtain ⟨v, H', rfl⟩ := this;exact (q3Y hR h (hone _ (by simp [Op.operands]))).zBA (by unfold execOp; rw [ho])
 ·-- build
  rename_i t parts ho;have hone := one _ ho;obtain ⟨v, rfl, h1⟩ := wE h
  have hp : q6X P f (parts.toList.map fun p => (p.1, env.val p.2)) (parts.toList.map fun p => (p.1, ρ p.2)) := by
   refine ⟨by simp, ?_⟩;rw [zNY, zNY];exact qC.map _ _ _ fun p hp => hone p.2 (by simp only [Op.operands]; exact List.mem_toArray.2 (zOL hp))
  have := (qVA (w := w) hR h1 hp).zBA (o := o) (ρ := ρ) (by unfold execOp; rw [ho]; simp only; congr 3; apply zLS; simp);exact this
 ·-- buildSlice
  rename_i t len parts ho;have hone := one _ ho
  have : ∃ v H', s = .val v H' := by
   unfold kF at h
   repeat' split at h
   all_goals first | (cases h; exact ⟨_, _, rfl⟩) | cases h
  obtain ⟨v, H', rfl⟩ := this
  have hp : q6X P f (parts.toList.map fun p => (p.1, env.val p.2)) (parts.toList.map fun p => (p.1, ρ p.2)) := by
   refine ⟨by simp, ?_⟩;rw [zNY, zNY];exact qC.map _ _ _ fun p hp => hone p.2 (by simp only [Op.operands]; exact List.mem_toArray.2 (zOL hp))
  exact (qCN (w := w) hR h hp).zBA (o := o) (ρ := ρ) (by unfold execOp; rw [ho]; simp only; congr 3; apply zLS; simp)
 ·-- load
  rename_i t a ho;have hone := one _ ho;obtain ⟨v, rfl, h1⟩ := wE h;exact zCK (by unfold execOp; rw [ho]) (qDC hR h1 (hone _ (by simp [Op.operands])))
 ·-- store
  rename_i t a x ho;have hone := one _ ho;obtain ⟨v, H', rfl⟩ := tK h;exact mJ h (by unfold execOp; rw [ho]) fun H2 h2 => qLB hR h2 (hone _ (by simp [Op.operands])) (hone _ (by simp [Op.operands]))
 ·-- nilCheck
  rename_i x ho;have hone := one _ ho
  have : ∃ v H', s = .val v H' := by
   unfold uW at h
   repeat' split at h
   all_goals first | (cases h; exact ⟨_, _, rfl⟩) | cases h
  obtain ⟨v, H', rfl⟩ := this;obtain ⟨v', h1, rfl, h2⟩ := qIF hR h (hone _ (by simp [Op.operands])) (o := o) (ρ := ρ) ho rfl;exact ⟨.value v', v', w, f, h1, .inl rfl, hR, .refl _ _ _, h2, .refl _ _⟩
 ·-- binOp
  rename_i op t x y u ho;obtain ⟨v, H', rfl⟩ := qWR h;exact qR6 hR ho h hρ
 ·-- convert
  rename_i src dst x ho;have hone := one _ ho;unfold gT at h;split at h
  ·rename_i a he;obtain ⟨v, rfl, h1⟩ := wE h;have hx := hone x (by simp [Op.operands]);rw [he] at hx;exact (qL9 (w := w) hR h1 hx).zBA (by unfold execOp; rw [ho])
  ·exact dry h
 ·-- makeFunc
  rename_i fn first captured ho
  have hone := one _ ho
  have : ∃ v H', s = .val v H' := by
   unfold wD at h;split at h
   ·cases h; exact ⟨_, _, rfl⟩
   ·cases h
  obtain ⟨v, H', rfl⟩ := this;refine (qHX (w := w) (a' := first.map ρ) (c' := captured.map ρ) hR h ?_ ?_).zBA (by unfold execOp; rw [ho])
  ·rw [zMY, zMY];exact qC.map _ _ _ fun x hx => hone x (by simp only [Op.operands, zMN]; exact .inl (zLL.2 hx))
  ·rw [zMY, zMY];exact qC.map _ _ _ fun x hx => hone x (by simp only [Op.operands, zMN]; exact .inr (zLL.2 hx))
 ·-- makeMap
  rename_i t r ho
  have : ∃ v H', s = .val v H' := by
   unfold bW at h;split at h
   ·cases h; exact ⟨_, _, rfl⟩
   ·cases h
  obtain ⟨v, H', rfl⟩ := this;exact (qM8 (w := w) hR h t ρ).zBA (by unfold execOp; rw [ho])
 ·-- makeSlice
  rename_i t l c ho;have hone := one _ ho
  have : ∃ v H', s = .val v H' := by
   unfold jA at h
   repeat' split at h
   all_goals first | (cases h; exact ⟨_, _, rfl⟩) | cases h
  obtain ⟨v, H', rfl⟩ := this;exact (qET (w := w) hR h (hone _ (by simp [Op.operands])) (hone _ (by simp [Op.operands]))).zBA (by unfold execOp; rw [ho])
 ·-- slice
  rename_i t x lo hi mx ho;have hone := one _ ho;unfold wO at h;split at h
  ·exact dry h
  ·obtain ⟨v, rfl, h1⟩ := wE h
   exact zCK (by unfold execOp; rw [ho]) (qR9 h1 (hone x (by simp [Op.operands]))
    (pI lo fun y hy => hone y (by simp only [Op.operands, zMN]; exact .inl (.inl (.inr hy))))
    (pI hi fun y hy => hone y (by simp only [Op.operands, zMN]; exact .inl (.inr hy)))
    (pI mx fun y hy => hone y (by simp only [Op.operands, zMN]; exact .inr hy)))
 ·-- fieldAddr
  rename_i st x fd ho;have hone := one _ ho;obtain ⟨v, rfl, h1⟩ := wE h;exact zCK (by unfold execOp; rw [ho]) (qLG h1 (hone _ (by simp [Op.operands])))
 ·rename_i t x fd ho;have hone := one _ ho;obtain ⟨v, rfl, h1⟩ := wE h;exact zCK (by unfold execOp; rw [ho]) (qV2 h1 (hone _ (by simp [Op.operands])))
 ·rename_i t x ix ho;have hone := one _ ho;obtain ⟨v, rfl, h1⟩ := wE h;exact zCK (by unfold execOp; rw [ho]) (qKT h1 (hone _ (by simp [Op.operands])) (hone _ (by simp [Op.operands])))
 ·-- index
  rename_i t x ix ho;have hone := one _ ho;unfold wM at h;split at h
  ·exact dry h
  ·obtain ⟨v, rfl, h1⟩ := wE h;exact zCK (by unfold execOp; rw [ho]) (qUM h1 (hone _ (by simp [Op.operands])) (hone _ (by simp [Op.operands])))
 ·-- lookup
  rename_i t x k ok ho;have hone := one _ ho;obtain ⟨v, rfl, h1⟩ := wE h;exact (qQM (w := w) hR h1 (hone _ (by simp [Op.operands])) (hone _ (by simp [Op.operands]))).zBA (by unfold execOp; rw [ho])
 ·-- mapUpdate
  rename_i t m k x ho;have hone := one _ ho;obtain ⟨v, H', rfl⟩ := tK h;exact mJ h (by unfold execOp; rw [ho]) fun H2 h2 => mX hR h2 (hone _ (by simp [Op.operands])) (hone _ (by simp [Op.operands])) (hone _ (by simp [Op.operands]))
 ·rename_i t m k x ho;have hone := one _ ho;obtain ⟨v, H', rfl⟩ := tK h;exact mJ h (by unfold execOp; rw [ho]) fun H2 h2 => mX hR h2 (hone _ (by simp [Op.operands])) (hone _ (by simp [Op.operands])) (hone _ (by simp [Op.operands]))
 ·-- mapEntry
  rename_i t m k ho;have hone := one _ ho
  have : ∃ v H', s = .val v H' := by
   unfold wG at h
   repeat' split at h
   all_goals first | (cases h; exact ⟨_, _, rfl⟩) | cases h
  obtain ⟨v, H', rfl⟩ := this;exact (qIU (w := w) hR h (hone _ (by simp [Op.operands])) (hone _ (by simp [Op.operands]))).zBA (by unfold execOp; rw [ho])
 ·rename_i t m st x ho;have hone := one _ ho;obtain ⟨v, H', rfl⟩ := tK h;exact mJ h (by unfold execOp; rw [ho]) fun H2 h2 => qCM hR h2 (hone _ (by simp [Op.operands])) (hone _ (by simp [Op.operands])) (hone _ (by simp [Op.operands]))
 ·-- range
  rename_i t x ho;have hone := one _ ho
  have : ∃ v H', s = .val v H' := by
   unfold qIO at h
   repeat' split at h
   all_goals first | (cases h; exact ⟨_, _, rfl⟩) | cases h
  obtain ⟨v, H', rfl⟩ := this;exact (qSK (w := w) hR h (hone _ (by simp [Op.operands]))).zBA (by unfold execOp; rw [ho])
 ·-- next
  rename_i it isS ho;have hone := one _ ho;have hx := hone it (by simp [Op.operands]);have he : execOp ρ o = (do pure (Next.value (<- Instr.next (ρ it) isS o.type))) := by unfold execOp; rw [ho]
  cases isS with
  | true =>
    have : ∃ v H', s = .val v H' := by
     unfold qJJ at h;split at h
     ·split at h
      ·repeat' split at h
       all_goals first | (cases h; exact ⟨_, _, rfl⟩) | cases h
      ·rename_i hb; cases hb
      ·cases h
     ·cases h
    obtain ⟨v, H', rfl⟩ := this;exact (qWG (w := w) hR h hx).zBA he
  | false =>
    have := qUI (w := w) (t := o.type) hR h hx
    cases s with
    | val v H' => exact Post.zBA this he
    | choice n k =>
      obtain ⟨i, h1, h2⟩ := this;exact ⟨i, h1, fun v H' hk => rA.of_run he (h2 v H' hk)⟩
    | enter g a H' => exact this.elim
    | round l a H' => exact this.elim
 ·-- entry
  rename_i it ho;have hone := one _ ho;obtain ⟨v, rfl, h1⟩ := wE h;exact (qR4 (w := w) hR h1 (hone _ (by simp [Op.operands]))).zBA (by unfold execOp; rw [ho])
 ·-- extract
  rename_i t ix ho;have hone := one _ ho
  have : ∃ v H', s = .val v H' := by
   unfold gN at h;split at h
   ·unfold vQ at h;split at h
    ·rw [cond_eq_ite] at h;split at h
     ·cases h; exact ⟨_, _, rfl⟩
     ·cases h
    ·cases h
   ·cases h
  obtain ⟨v, H', rfl⟩ := this;exact (qMZ (w := w) hR h (hone _ (by simp [Op.operands]))).zBA (by unfold execOp; rw [ho])
 ·-- call
  rename_i c ho;unfold yE at h;split at h
  ·rename_i r hr;cases h;exact qZH hR ho hr hρ
  ·exact dry h
 ·exact dry h
 ·cases h
end Go.Idl
