/- Runs told by plain values, part two. Conditions: none. -/
import Derived.Test.YtjgfemghlhmlbaaGreatDoorPur7
set_option linter.all false
namespace Go.Idl
variable [Gc]
variable {P : Program} {Z : Nat -> Prop} {H : IH} {M : Nat -> Option (Nat × PO)} {m : Nat -> Nat} {ph : PHp}
variable {env : List PV} {zIC : Env} {k : Nat} {o : Oper} {ph' : PHp} {y : PV}
theorem yA {o : Option PV} (h : pp1 ph o = some (y, ph')) : o = some y ∧ ph' = ph := by
 unfold pp1 at h;split at h
 ·cases h; exact ⟨rfl, rfl⟩
 ·cases h
theorem VRL.of {env : List PV} {zIC : Env} (he : VRL P Z H M env zIC) : ∀ (l : List Operand), VRL P Z H M (l.map (qN env)) (l.map zIC.val)
 | [] => .nil
 | x :: l => .cons (qK he x) (VRL.of he l)
theorem qH7 (h : yD k env = true) (x : Operand) : noK k (qN env x) = true := by
 cases x with
 | tmp t =>
   show noK k ((zM env t).getD .unk) = true;rw [qD]
   cases he : env[t]? with
   | none => rfl
   | some y => exact vO h he
 | const v =>
   show noK k (ofC v) = true;unfold ofC q83;split
   ·rename_i cs; cases yY okC cs.toList with
    | true => exact rX k _
    | false => rfl
   ·rename_i cs; cases yY okC cs.toList with
    | true => exact rX k _
    | false => rfl
   ·cases okC v <;> rfl
 | global g => rfl
 | func g => rfl
theorem qQN {k : Nat} {env : List PV} (h : yD k env = true) : ∀ (l : List (Nat × Operand)), yD k ((l.map fun p => (p.1, qN env p.2)).map (·.2)) = true
 | [] => rfl
 | p :: l => by simp only [zQ0, yD, qH7 h, qQN h l, zRO]
theorem Res.up {p q : Nat -> Bool} {v : PV} {s : Option zIH} (h : Res P Z H m ph p v ph' s) (hq : ∀ j, p j = true -> q j = true) : Res P Z H m ph q v ph' s := by
 obtain ⟨u, H', Z', m', h1, h2, h3, h4, h5⟩ := h
 exact ⟨u, H', Z', m', h1, h2, h3, h4, fun j b ob hM => by
  rcases h5 j b ob hM with h | h | h
  ·exact .inl h
  ·exact .inr (.inl h)
  ·exact .inr (.inr (hq j h))⟩
def nw (o : Op) (k : Nat) : Nat -> Bool := fun j => needs o && (j == k)
theorem q8H (hp : Hp P Z H (own m ph)) (hb : H.base <= H.size) (he : VRL P Z H (own m ph) env zIC) (hn : needs o.op = true -> yD k env = true ∧ dY k ph = true) (h : qDM P o env k ph = some (y, ph')) :
 Res P Z H m ph (nw o.op k) y ph' (iop P o zIC H) := by
 obtain ⟨d, op, ty, pos, aft, g⟩ := o;have fin : ∀ {x : PV} {s : Option zIH}, (∃ u, s = some (.val u H) ∧ VR P Z H (own m ph) x u) -> Res P Z H m ph (nw op k) x ph s := fun ⟨u, h1, h2⟩ => .same h1 hp h2
 have zKX : ∀ {x : PV} {s : Option Value}, (∃ u, s = some u ∧ VR P Z H (own m ph) x u) -> Res P Z H m ph (nw op k) x ph (zIH.ofO H s) := fun ⟨u, h1, h2⟩ => .same (by rw [h1]; rfl) hp h2
 cases op <;> simp only [qDM] at h <;> (try (cases h; done)) <;> simp only at hn fin zKX
 case move x => cases h; exact fin ⟨_, rfl, qK he x⟩
 case assign x => cases h; exact fin ⟨_, rfl, qK he x⟩
 case pick c a b =>
  split at h
  ·rename_i t ht;cases h;have hc := qK he c;rw [ht] at hc;have hv := yP hc rfl;refine fin ⟨cond t (zIC.val a) (zIC.val b), ?_, ?_⟩
   ·show qMX (zIC.val c) _ _ H = _;rw [hv]; rfl
   ·cases t
    ·exact qK he b
    ·exact qK he a
  ·cases h
 case alloc el =>
  obtain ⟨n1, n2⟩ := hn rfl;exact (qY0 hp hb n2 h).up fun j hj => hj
 case box el x =>
  obtain ⟨n1, n2⟩ := hn rfl;exact (q81 hp hb n2 (qK he x) (qH7 n1 x) h).up fun j hj => hj
 case build t ps =>
  obtain ⟨h1, rfl⟩ := yA h;exact zKX (qYG (qWM he _) h1)
 case buildSlice t len ps =>
  obtain ⟨n1, n2⟩ := hn rfl;exact (qDS hp hb n2 (qWM he _) (qQN n1 _) h).up fun j hj => hj
 case load t a =>
  obtain ⟨h1, rfl⟩ := yA h;exact zKX (qPO hp (qK he a) h1)
 case store t a x =>
  unfold ppS at h;split at h
  ·rename_i ph1 hs;cases h;exact qVW hp (qK he a) (qK he x) hs
  ·cases h
 case binOp op t x z t2 =>
  obtain ⟨h1, rfl⟩ := yA h;exact fin (q7H (qK he x) (qK he z) h1)
 case unOp op t x =>
  obtain ⟨h1, rfl⟩ := yA h;exact fin (qP7 (qK he x) rfl h1)
 case convert s t x =>
  cases hpt : qTX (qN env x) with
  | true => rw [hpt] at h; cases h
  | false =>
  rw [hpt] at h;obtain ⟨h1, rfl⟩ := yA h;have hx := qK he x;obtain ⟨u, h2, h3⟩ := qP7 (o := ⟨d, .convert s t x, ty, pos, aft, g⟩) (env := zIC) hx rfl h1;refine fin ⟨u, ?_, h3⟩;show fT P _ s t (zIC.val x) zIC H = _;unfold fT;split
  ·rename_i a ha;exfalso;unfold aO at h1;split at h1
   ·rename_i b hb';have hv := yP hx hb';rw [ha] at hv;subst hv;unfold pl at hb';split at hb'
    ·rename_i x0 hx0;cases hb';rw [hx0] at hpt;cases hpt
    ·split at hb' <;> cases hb'
    ·cases hb'
   ·cases h1
  ·exact h2
 case makeFunc fn first cap =>
  obtain ⟨h1, rfl⟩ := yA h;exact fin (qLA (by simpa using VRL.of he first.toList) (by simpa using VRL.of he cap.toList) h1)
 case makeSlice t l c =>
  obtain ⟨n1, n2⟩ := hn rfl;exact (qG2 hp hb n2 (qK he l) (qK he c) h).up fun j hj => hj
 case slice t x lo hi mx =>
  cases mx with
  | some mx => cases h
  | none =>
    simp only at h;split at h
    ·rename_i s hs;have hx := qK he x;rw [hs] at hx;have hv := yP hx rfl;split at h
     ·rename_i vs hvs;obtain ⟨h1, rfl⟩ := yA h
      have zN4 : ∀ (w : Option Operand), (∀ a, w = some a -> a ∈ lo.toList ++ hi.toList) -> (w.map fun a => (Operand.const ((pl (qN env a)).getD undef))).map (Env.val []) = w.map zIC.val := fun w hw => by
       cases w with
       | none => rfl
       | some a =>
         obtain ⟨b, hb'⟩ := qGS hvs (qN env a) (zQ9.2 ⟨a, hw a rfl, rfl⟩);simp only [zQW, hb', zS6];rw [yP (qK he a) hb'];rfl
      have hlo := zN4 lo (fun a ha => by subst ha; simp);have hhi := zN4 hi (fun a ha => by subst ha; simp)
      obtain ⟨u, h2, h3⟩ := qV0 (M := own m _) (Z := Z) (H := H) (o := ⟨d, .slice t x lo hi none, ty, pos, aft, g⟩) (env := zIC) (by
       have hex : execOp zIC.val ⟨d, .slice t x lo hi none, ty, pos, aft, g⟩ = execOp (Env.val []) (cop (.slice t (.const (.string s)) (lo.map fun a => .const ((pl (qN env a)).getD undef)) (hi.map fun a => .const ((pl (qN env a)).getD undef)) none)) := by
        show (do let x <- Instr.sliceAt t (zIC.val x) (lo.map zIC.val) (hi.map zIC.val) none; pure (Next.value x)) = (do let x <- Instr.sliceAt t (.string s) ((lo.map fun a => (Operand.const ((pl (qN env a)).getD undef))).map (Env.val [])) ((hi.map fun a => (Operand.const ((pl (qN env a)).getD undef))).map (Env.val [])) none; pure (Next.value x));rw [hlo, hhi, hv]
       have hpl : kV zIC.val (Op.slice t x lo hi none).operands.toList = kV (Env.val []) (cop (.slice t (.const (.string s)) (lo.map fun a => .const ((pl (qN env a)).getD undef)) (hi.map fun a => .const ((pl (qN env a)).getD undef)) none)).op.operands.toList := by
        rw [y7, y7];cases lo <;> cases hi <;> simp_all [Op.operands, cop, Env.val]
       unfold kW;rw [hex]
       simp only [hpl]) h1
      refine fin ⟨u, ?_, h3⟩;show uI P _ t (zIC.val x) _ _ _ zIC H = _;rw [hv];exact h2
     ·cases h
    ·rename_i v hne;obtain ⟨h1, rfl⟩ := yA h;obtain ⟨u, h2, h3⟩ := qSS hp (qK he x) (q90.of he lo) (q90.of he hi) h1;exact fin ⟨u, qOC h2, h3⟩
 case fieldAddr t x i =>
  obtain ⟨h1, rfl⟩ := yA h;exact zKX (qHL (qK he x) h1)
 case indexAddr t x ix =>
  obtain ⟨h1, rfl⟩ := yA h;exact zKX (qH6 hp (qK he x) (qK he ix) h1)
 case index t x ix =>
  split at h
  ·rename_i s j hs hj;obtain ⟨h1, rfl⟩ := yA h;have hx := qK he x;rw [hs] at hx;have hv := yP hx rfl;have hv2 := yP (qK he ix) hj;obtain ⟨u, h2, h3⟩ := qV0 (M := own m _) (Z := Z) (H := H) (o := ⟨d, .index t x ix, ty, pos, aft, g⟩) (env := zIC) (by rw [<- hv, <- hv2]; rfl) h1;refine fin ⟨u, ?_, h3⟩;show uK P _ t (zIC.val x) _ zIC H = _;rw [hv];exact h2
  ·obtain ⟨h1, rfl⟩ := yA h;obtain ⟨u, h2, h3⟩ := qVL (qK he x) (qK he ix) h1;exact fin ⟨u, qNR h2, h3⟩
 case makeMap t r =>
  obtain ⟨n1, n2⟩ := hn rfl
  cases r with
  | some _ => cases h
  | none => exact (qOM hp hb n2 h).up fun j hj => hj
 case lookup t x kx ok =>
  obtain ⟨h1, rfl⟩ := yA h;exact zKX (qS7 hp (qK he x) (qK he kx) h1)
 case insert t mv kx x =>
  unfold ppS at h;split at h
  ·rename_i ph1 hs;cases h;exact qIB hp (qK he mv) (qK he kx) (qK he x) hs
  ·cases h
 case mapEntry t mv kx => exact qJQ hp (qK he mv) (qK he kx) h
 case entryStore t mv st x =>
  unfold ppS at h;split at h
  ·rename_i ph1 hs;cases h;exact qD1 hp (qK he mv) (qK he st) (qK he x) hs
  ·cases h
 case range t x =>
  obtain ⟨n1, n2⟩ := hn rfl;exact (q0I hp hb n2 (qK he x) h).up fun j hj => hj
 case extract t i =>
  obtain ⟨h1, rfl⟩ := yA h;exact fin (qOU (qK he t) h1)
 case call c =>
  obtain ⟨cal, args, ts⟩ := c;split at h
  ·rename_i b hbq;simp only at hbq;subst hbq;have two : ∀ x z, args.toList = [x, z] -> kV zIC.val args.toList = [zIC.val x, zIC.val z] := fun x z e => by rw [e]; rfl
   unfold u6 at h;split at h
   ·-- append
    split at h
    ·rename_i x z hxz;obtain ⟨n1, n2⟩ := hn rfl
     obtain ⟨a1, a2, ha, rfl, rfl⟩ : ∃ a1 a2, args.toList = [a1, a2] ∧ x = qN env a1 ∧ z = qN env a2 := by
      cases hq : args.toList with
      | nil => rw [hq] at hxz; cases hxz
      | cons a l =>
        rw [hq] at hxz
        cases l with
        | nil => cases hxz
        | cons a2 l =>
          cases l with
          | nil => simp only [zQ0, zTC, zRP, and_true] at hxz; exact ⟨a, a2, rfl, hxz.1.symm, hxz.2.symm⟩
          | cons => cases hxz
     have hr := qTY hp hb n2 (qK he a1) (qK he a2) (qH7 n1 a2) (qH7 n1 a1) h;obtain ⟨u, H', Z', m', e1, e2, e3, e4, e5⟩ := hr;refine Res.up (p := fun j => j == k) ⟨u, H', Z', m', ?_, e2, e3, e4, e5⟩ fun j hj => hj
     refine oK ?_;rw [two _ _ ha];rw [show ts.toList.toArray = ts from by simp] at e1;exact e1
    ·cases h
   ·-- len
    split at h
    ·rename_i x hx0
     obtain ⟨a1, ha, rfl⟩ : ∃ a1, args = #[a1] ∧ x = qN env a1 := by
      cases hq : args.toList with
      | nil => rw [hq] at hx0; cases hx0
      | cons a l =>
        rw [hq] at hx0
        cases l with
        | nil =>
          simp only [zQ0, zTC, zRP, and_true] at hx0
          exact ⟨a, by have e9 : args = args.toList.toArray := by simp
                       rw [e9, hq], hx0.symm⟩
        | cons => cases hx0
     subst ha
     cases hst : q0X P ts with
     | true =>
       rw [hst] at h
       have hnone : yE P .len ⟨.builtin .len, #[a1], ts⟩ (kV zIC.val #[a1].toList) H = none := by
        show pQ P ts [zIC.val a1] H = none;unfold q0X at hst;split at hst
        ·rename_i hu;unfold pQ;rw [hu]
        ·cases hst
       obtain ⟨e9, hr⟩ := qBD (d := d) (pos := pos) (aft := aft) (g := g) he hnone h;subst e9;exact fin hr
     | false =>
       rw [hst] at h;obtain ⟨h1, rfl⟩ := yA h;exact fin (q1H hp (qK he a1) (fun hq => q84 (qK he a1) hq) (fun w hw => oK hw) h1)
    ·cases h
   ·obtain ⟨e9, hr⟩ := qBD (d := d) (pos := pos) (aft := aft) (g := g) he rfl h;subst e9;exact fin hr
   ·obtain ⟨e9, hr⟩ := qBD (d := d) (pos := pos) (aft := aft) (g := g) he rfl h;subst e9;exact fin hr
   ·cases h
  ·cases h
theorem q8U (hp : Hp P Z H (own m ph)) (hb : H.base <= H.size) (he : VRL P Z H (own m ph) env zIC) (hn : needs o.op = true -> yD k env = true ∧ dY k ph = true) (h : q1K P o env k ph = some (y, ph')) :
 Res P Z H m ph (nw o.op k) y ph' (iop P o zIC H) := by
 unfold q1K at h;split at h
 ·rename_i it ho;obtain ⟨h1, rfl⟩ := yA h;obtain ⟨u, q1, q2⟩ := qUO hp (qK he it) h1;refine .same ?_ hp q2;unfold iop;rw [ho];show zIH.ofO H (qE1 (zIC.val it) H) = _;rw [q1]; rfl
 ·exact q8H hp hb he hn h
end Go.Idl
namespace Go.Idl
variable [Gc]
variable {P : Program} {Z : Nat -> Prop} {H : IH} {M : Nat -> Option (Nat × PO)} {m : Nat -> Nat} {ph : PHp}
variable {Z' : Nat -> Prop} {k : Nat} {ph' : PHp} {v : Value} {vs : List Value} {xs : List PV}
def qIR (f : PHp -> PV -> Option (FV × PHp)) : List PV -> PHp -> Option (List FV × PHp)
 | [], ph => some ([], ph)
 | x :: l, ph => match f ph x with
   | some (y, ph1) => (match qIR f l ph1 with
     | some (ys, ph2) => some (y :: ys, ph2)
     | none => none)
   | none => none
noncomputable def fz1 (P : Program) : Nat -> PHp -> PV -> Option (FV × PHp)
 | 0, ph, .f x => some (x, ph)
 | 0, _, _ => none
 | n + 1, ph, .f x => some (x, ph)
 | n + 1, ph, .own k t o c => (match qB k ph with
   | some ob => (match szT P ob.el with
     | some s => cond (Nat.beq (t * s) ob.cs.length) (match qIR (fz1 P n) ((ob.cs.drop (o * s)).take (c * s)) (qG7 k ph) with
       | some (cs, ph') => some (.l ob.el c cs, ph')
       | none => none) none
     | none => none)
   | none => none)
 | n + 1, _, _ => none
noncomputable def fzP (P : Program) (ph : PHp) (x : PV) : Option (PV × PHp) := match x with
 | .agg cs => (match qIR (fz1 P 4) cs ph with
   | some (ys, ph') => some (.agg (ys.map .f), ph')
   | none => none)
 | x => (match fz1 P 4 ph x with
   | some (y, ph') => some (.f y, ph')
   | none => none)
noncomputable def fzA (P : Program) : List PV -> PHp -> Option (List PV × PHp)
 | [], ph => some ([], ph)
 | x :: l, ph => match fzP P ph x with
   | some (y, ph1) => (match fzA P l ph1 with
     | some (ys, ph2) => some (y :: ys, ph2)
     | none => none)
   | none => none
structure Fz (P : Program) (Z : Nat -> Prop) (H : IH) (m : Nat -> Nat) (ph : PHp) (Z' : Nat -> Prop) (ph' : PHp) : Prop where
 hp : Hp P Z' H (own m ph')
 zle : ∀ b, Z b -> Z' b
 sub : ∀ k ob, qB k ph' = some ob -> qB k ph = some ob
 zJL : ∀ b, Z' b -> Z b ∨ qT7 (own m ph) b
theorem Fz.refl (h : Hp P Z H (own m ph)) : Fz P Z H m ph Z ph := ⟨h, fun _ h => h, fun _ _ h => h, fun _ h => .inl h⟩
theorem Fz.zM0 (a : Fz P Z H m ph Z' ph') {r : Nat × PO} (h : own m ph' k = some r) : own m ph k = some r := by
 obtain ⟨b, ob⟩ := r;obtain ⟨h1, rfl⟩ := uV h;exact qP (a.sub k ob h1)
theorem Fz.trans {Z1 Z2 : Nat -> Prop} {ph1 ph2 : PHp} (a : Fz P Z H m ph Z1 ph1) (b : Fz P Z1 H m ph1 Z2 ph2) : Fz P Z H m ph Z2 ph2 :=
 ⟨b.hp, fun x h => b.zle x (a.zle x h), fun k ob h => a.sub k ob (b.sub k ob h), fun x h => by
   rcases b.zJL x h with h | ⟨k, ob, h1, h2⟩
   ·exact a.zJL x h
   ·exact .inr ⟨k, ob, a.zM0 h1, h2⟩⟩
theorem Fz.kr (a : Fz P Z H m ph Z' ph') (p : Nat -> Bool) : KR p (own m ph) (own m ph') := fun k b ob h => .inl ⟨ob, a.zM0 h, rfl, rfl, rfl⟩
theorem Fz.step (a : Fz P Z H m ph Z' ph') : Step Z H (own m ph) Z' H (own m ph') :=
 ⟨zQO _, rfl, a.zle, fun _ _ _ => rfl, fun b h _ => a.zJL b h, fun b ⟨k, ob, h1, h2⟩ _ => ⟨k, ob, a.zM0 h1, h2⟩⟩
theorem Fz.vrl (a : Fz P Z H m ph Z' ph') (h : VRL P Z H (Go.Idl.own m ph) xs vs) : VRL P Z' H (Go.Idl.own m ph') xs vs :=
 h.mono (p := fun _ => false) a.zle (zQO _) (fun _ _ _ => rfl) (a.kr _) fun j hj => by cases hj
theorem Fz.del (h : Hp P Z H (own m ph)) {ob : PO} (hl : qB k ph = some ob) (hr : real ob) : Fz P Z H m ph (fun b => Z b ∨ b = m k) (qG7 k ph) := by
 have hsub : ∀ j o, qB j (qG7 k ph) = some o -> j ≠ k ∧ qB j ph = some o := fun j o h => by
  rw [wC] at h;split at h
  ·cases h
  ·rename_i hj; exact ⟨hj, h⟩
 have hown : ∀ j b o, own m (qG7 k ph) j = some (b, o) -> j ≠ k ∧ own m ph j = some (b, o) := fun j b o h => by
  obtain ⟨h1, rfl⟩ := uV h;obtain ⟨h2, h3⟩ := hsub j o h1;exact ⟨h2, qP h3⟩
 obtain ⟨w1, w2, w3⟩ := h.zMI hl hr;refine ⟨⟨?_, ?_, ?_, h.gl.mono h.zlt (fun _ h => .inl h) fun _ _ _ => rfl⟩, fun b h => .inl h, fun j o h => (hsub j o h).2, ?_⟩
 ·rintro b (hb | rfl)
  ·exact h.zlt b hb
  ·exact w1
 ·intro j b o hj;obtain ⟨h1, h2⟩ := hown j b o hj
  rcases h.obj j b o h2 with h3 | ⟨a1, a2, a3, a4⟩
  ·exact .inl h3
  ·by_cases hro : o.gr = true ∧ o.cs = []
   ·exact .inl hro
   ·refine .inr ⟨a1, a2, ?_, a4.mono rfl fun _ a5 => a5.mono (p := fun _ => false) (fun _ h => .inl h) (zQO _) (fun _ _ _ => rfl) (fun i b' o' hi => .inl ⟨o', (hown i b' o' hi).2, rfl, rfl, rfl⟩) (fun j hj => by cases hj)⟩;rintro (hz | rfl)
    ·exact a3 hz
    ·exact h.inj j k _ _ o ob h2 (qP hl) hro hr h1 rfl
 ·intro j j' b b' o o' h1 h2 r1 r2 hne;exact h.inj j j' b b' o o' (hown j b o h1).2 (hown j' b' o' h2).2 r1 r2 hne
 ·rintro b (hz | rfl)
  ·exact .inl hz
  ·exact .inr ⟨k, ob, qP hl, hr⟩
theorem Fz.drop (h : Hp P Z H (own m ph)) (hs : ∀ k ob, qB k ph' = some ob -> qB k ph = some ob) : Fz P Z H m ph Z ph' := by
 have hown : ∀ j b o, own m ph' j = some (b, o) -> own m ph j = some (b, o) := fun j b o h => by
  obtain ⟨h1, rfl⟩ := uV h;exact qP (hs j o h1)
 refine ⟨⟨h.zlt, ?_, ?_, h.gl⟩, fun _ h => h, hs, fun _ h => .inl h⟩
 ·intro j b o hj
  rcases h.obj j b o (hown j b o hj) with h3 | ⟨a1, a2, a3, a4⟩
  ·exact .inl h3
  ·exact .inr ⟨a1, a2, a3, a4.mono rfl fun _ a5 => a5.mono (p := fun _ => false) (fun _ h => h) (zQO _) (fun _ _ _ => rfl) (fun i b' o' hi => .inl ⟨o', hown i b' o' hi, rfl, rfl, rfl⟩) (fun j hj => by cases hj)⟩
 ·intro j j' b b' o o' h1 h2 r1 r2 hne;exact h.inj j j' b b' o o' (hown j b o h1) (hown j' b' o' h2) r1 r2 hne
structure FRL (Z : Nat -> Prop) (H : IH) (xs : List FV) (vs : List Value) : Prop where
 len : xs.length = vs.length
 val : ∀ (i : Nat) x v, xs[i]? = some x -> vs[i]? = some v -> FR Z H x v
theorem FRL.cons {x : FV} {xs : List FV} (h : FR Z H x v) (t : FRL Z H xs vs) : FRL Z H (x :: xs) (v :: vs) :=
 ⟨by simp [t.len], fun i y u h1 h2 => by
   cases i with
   | zero => simp at h1 h2; subst h1 h2; exact h
   | succ i => exact t.val i y u (by simpa using h1) (by simpa using h2)⟩
theorem FRL.map {xs : List FV} (h : FRL Z H xs vs) : VRL P Z H M (xs.map .f) vs := qU5 h.len h.val
theorem qIE {f : PHp -> PV -> Option (FV × PHp)} (hf : ∀ {Z : Nat -> Prop} {ph : PHp} {x : PV} {y : FV} {ph' : PHp} {v : Value}, Hp P Z H (own m ph) -> VR P Z H (own m ph) x v -> f ph x = some (y, ph') -> ∃ Z', Fz P Z H m ph Z' ph' ∧ FR Z' H y v) :
 ∀ {xs : List PV} {vs : List Value} {Z : Nat -> Prop} {ph : PHp} {ys : List FV} {ph' : PHp}, Hp P Z H (own m ph) -> VRL P Z H (own m ph) xs vs -> qIR f xs ph = some (ys, ph') -> ∃ Z', Fz P Z H m ph Z' ph' ∧ FRL Z' H ys vs
 | [], vs, Z, ph, ys, ph', hp, hx, h => by
   simp only [qIR, zQV, Prod.mk.injEq] at h;obtain ⟨rfl, rfl⟩ := h;rw [hx.zIG];exact ⟨Z, .refl hp, rfl, fun i x v h => by simp at h⟩
 | x :: xs, _, Z, ph, ys, ph', hp, hx, h => by
   obtain ⟨v, vs, rfl, h1, h2⟩ := hx.zIF;unfold qIR at h;split at h
   ·rename_i y ph1 hy;split at h
    ·rename_i ys' ph2 hys;cases h;obtain ⟨Z1, c1, r1⟩ := hf hp h1 hy;obtain ⟨Z2, c2, r2⟩ := qIE hf c1.hp (c1.vrl h2) hys;exact ⟨Z2, c1.trans c2, .cons (r1.mono c2.zle (zQO _) fun _ _ _ => rfl) r2⟩
    ·cases h
   ·cases h
theorem qQD : ∀ (n : Nat) {Z : Nat -> Prop} {ph : PHp} {x : PV} {y : FV} {ph' : PHp} {v : Value}, Hp P Z H (own m ph) -> VR P Z H (own m ph) x v -> fz1 P n ph x = some (y, ph') -> ∃ Z', Fz P Z H m ph Z' ph' ∧ FR Z' H y v
 | n, Z, ph, .f x, y, ph', v, hp, hx, h => by
   have : some (x, ph) = some (y, ph') := by cases n <;> exact h
   cases this
   cases hx with
   | f hx => exact ⟨Z, .refl hp, hx⟩
 | 0, Z, ph, .agg _, y, ph', v, hp, hx, h => by cases h
 | 0, Z, ph, .tup _, y, ph', v, hp, hx, h => by cases h
 | 0, Z, ph, .own _ _ _ _, y, ph', v, hp, hx, h => by cases h
 | 0, Z, ph, .ref _ _ _, y, ph', v, hp, hx, h => by cases h
 | 0, Z, ph, .lp _ _, y, ph', v, hp, hx, h => by cases h
 | 0, Z, ph, .fn _ _ _, y, ph', v, hp, hx, h => by cases h
 | 0, Z, ph, .unk, y, ph', v, hp, hx, h => by cases h
 | 0, Z, ph, .yl _, y, ph', v, hp, hx, h => by cases h
 | 0, Z, ph, .mp _, y, ph', v, hp, hx, h => by cases h
 | n + 1, Z, ph, .agg _, y, ph', v, hp, hx, h => by cases h
 | n + 1, Z, ph, .tup _, y, ph', v, hp, hx, h => by cases h
 | n + 1, Z, ph, .ref _ _ _, y, ph', v, hp, hx, h => by cases h
 | n + 1, Z, ph, .lp _ _, y, ph', v, hp, hx, h => by cases h
 | n + 1, Z, ph, .fn _ _ _, y, ph', v, hp, hx, h => by cases h
 | n + 1, Z, ph, .unk, y, ph', v, hp, hx, h => by cases h
 | n + 1, Z, ph, .yl _, y, ph', v, hp, hx, h => by cases h
 | n + 1, Z, ph, .mp _, y, ph', v, hp, hx, h => by cases h
 | n + 1, Z, ph, .own k t o c, y, ph', v, hp, hx, h => by
   unfold fz1 at h;split at h
   ·rename_i ob hl;split at h
    ·rename_i s hs
     cases hc : Nat.beq (t * s) ob.cs.length with
     | false => rw [hc] at h; cases h
     | true =>
       rw [hc] at h;simp only [cond_true] at h;have he := zQN hc;split at h
       ·rename_i cs ph1 hf;cases h;obtain ⟨hO, h0⟩ := fA hx hl hs he
        rcases hO with ⟨g1, rfl, rfl, rfl, rfl⟩ | ⟨g1, g2, g3, rfl⟩
        ·have hc0 : ob.cs = [] := zSE.1 (by omega);rw [hc0] at hf;have hf' : qIR (fz1 P n) [] (qG7 k ph) = some (cs, ph') := by simpa using hf
         have : some (([] : List FV), qG7 k ph) = some (cs, ph') := hf';cases this;refine ⟨Z, .drop hp fun j o hj => ?_, .nil (fun _ => rfl) (fun x h => by cases h)⟩;rw [wC] at hj;split at hj
         ·cases hj
         ·exact hj
        ·have hre := o9 he h0 g1;obtain ⟨w1, w2, w3, vs, q1, q2, q3⟩ := hp.real hl hre (jP hs);have hcut := Fz.del hp hl hre;have hle : (o + c) * s <= t * s := zRV _ g2;rw [zSX] at hle;obtain ⟨Z2, c2, r2⟩ := qIE (fun a b c => qQD n a b c) hcut.hp (hcut.vrl ((q2.drop (o * s)).take (c * s))) hf;refine ⟨Z2, hcut.trans c2, .l (vs := (vs.drop (o * s)).take (c * s)) (c2.zle _ (.inr rfl)) w1 (by omega) (by cases ob.gr <;> simp) ?_ r2.val⟩
         have hcl : cs.length = c * s := by
          rw [r2.len]; simp only [zRS, zTK]; rw [<- q2.len]; omega
         rw [hcl];exact jU q1 (by rw [<- q2.len]; omega) rfl
       ·cases h
    ·cases h
   ·cases h
theorem qJK {x y : PV} (hp : Hp P Z H (own m ph)) (hx : VR P Z H (own m ph) x v) (h : fzP P ph x = some (y, ph')) : ∃ Z', Fz P Z H m ph Z' ph' ∧ VR P Z' H (fun _ => none) y v := by
 unfold fzP at h;split at h
 ·rename_i cs;split at h
  ·rename_i ys ph1 hf;cases h
   cases hx with
   | agg hl hc =>
     rename_i vs;obtain ⟨Z', c1, r1⟩ := qIE (vs := vs.toList) (fun a b c => qQD 4 a b c) hp ⟨by simpa using hl, fun i x v a b => hc i x v a (by simpa using b)⟩ hf;have := (r1.map (P := P) (M := fun _ => none)).toA;exact ⟨Z', c1, by simpa using this⟩
  ·cases h
 ·split at h
  ·rename_i y' ph1 hf;cases h;obtain ⟨Z', c1, r1⟩ := qQD 4 hp hx hf;exact ⟨Z', c1, .f r1⟩
  ·cases h
theorem VRL.none {H' : IH} (h : VRL P Z H (fun _ => none) xs vs) (hz : ∀ b, Z b -> Z' b) (hs : H.size <= H'.size) (hg : ∀ b, Z b -> b < H.size -> H'.get b = H.get b) {M : Nat -> Option (Nat × PO)} (hn : ∀ k, M k = none) : VRL P Z' H' M xs vs :=
 h.mono (p := fun _ => false) hz hs hg (fun k b o hk => by rw [hn] at hk; cases hk) fun j hj => by cases hj
theorem qQM : ∀ {xs : List PV} {vs : List Value} {Z : Nat -> Prop} {ph : PHp} {ys : List PV} {ph' : PHp}, Hp P Z H (own m ph) -> VRL P Z H (own m ph) xs vs -> fzA P xs ph = some (ys, ph') -> ∃ Z', Fz P Z H m ph Z' ph' ∧ VRL P Z' H (fun _ => none) ys vs
 | [], vs, Z, ph, ys, ph', hp, hx, h => by
   simp only [fzA, zQV, Prod.mk.injEq] at h;obtain ⟨rfl, rfl⟩ := h;rw [hx.zIG];exact ⟨Z, .refl hp, .nil⟩
 | x :: xs, _, Z, ph, ys, ph', hp, hx, h => by
   obtain ⟨v, vs, rfl, h1, h2⟩ := hx.zIF;unfold fzA at h;split at h
   ·rename_i y ph1 hy;split at h
    ·rename_i ys' ph2 hys;cases h;obtain ⟨Z1, c1, r1⟩ := qJK hp h1 hy;obtain ⟨Z2, c2, r2⟩ := qQM c1.hp (c1.vrl h2) hys;exact ⟨Z2, c1.trans c2, .cons (r1.mono (p := fun _ => false) c2.zle (zQO _) (fun _ _ _ => rfl) (.refl _ _) fun j hj => by cases hj) r2⟩
    ·cases h
   ·cases h
end Go.Idl
namespace Go.Idl
variable [Gc]
variable {P : Program} {Z : Nat -> Prop} {H : IH} {M : Nat -> Option (Nat × PO)} {m : Nat -> Nat} {ph : PHp} {G : Nat -> Bool}
variable {H' : IH} {M' : Nat -> Option (Nat × PO)} {Z' : Nat -> Prop} {cs env : List PV} {zIC : Env} {t : TypeId} {v : Value} {vs : Array Value} {x : PV}
theorem Hp.old (h : Hp P Z H (own m ph)) (ho : Old H H') (hz : ∀ b, Z b -> Z' b) (hz1 : ∀ b, Z' b -> b < H'.size) (hz2 : ∀ b, Z' b -> b < H.size -> Z b) : Hp P Z' H' (own m ph) := by
 refine ⟨hz1, fun k b ob hk => ?_, h.inj, h.gl.mono h.zlt hz fun b _ hb => ho.get b hb⟩
 rcases h.obj k b ob hk with h1 | ⟨a1, a2, a3, a4⟩
 ·exact .inl h1
 ·exact .inr ⟨zQZ a1 ho.size, by rw [ho.base]; exact a2, fun h => a3 (hz2 b h a1), a4.mono (ho.get b a1) fun _ a5 => a5.mono (p := fun _ => false) hz ho.size (fun b _ hb => ho.get b hb) (.refl _ _) (fun j hj => by cases hj)⟩
theorem Step.old (ho : Old H H') (hz : ∀ b, Z b -> Z' b) (hz2 : ∀ b, Z' b -> b < H.size -> Z b) : Step Z H M Z' H' M :=
 ⟨ho.size, ho.base, hz, fun b hb _ => ho.get b hb, fun b h hb => .inl (hz2 b h hb), fun _ h _ => h⟩
def vY : PV -> Bool
 | .f (.v _) => true
 | .agg cs => (qZD cs).isSome
 | .tup cs => (plL cs).isSome
 | _ => false
theorem qN8 (h : VR P Z H M x v) (hp : (pl1 x).isSome = true) (Z' : Nat -> Prop) (H' : IH) (M' : Nat -> Option (Nat × PO)) : VR P Z' H' M' x v := by
 unfold pl1 at hp;split at hp
 ·cases h with
  | f h => cases h with
    | v a b => exact .f (.v a b)
 ·cases hp
theorem qH8 (Z' : Nat -> Prop) (H' : IH) (M' : Nat -> Option (Nat × PO)) : ∀ {xs : List PV} {vs : List Value}, VRL P Z H M xs vs -> (qZD xs).isSome = true -> VRL P Z' H' M' xs vs
 | [], vs, h, _ => by rw [h.zIG]; exact .nil
 | x :: xs, _, h, hp => by
   obtain ⟨v, vs, rfl, h1, h2⟩ := h.zIF;unfold qZD at hp;split at hp
   ·rename_i a ha;split at hp
    ·rename_i as has;exact .cons (qN8 h1 (by rw [ha]; rfl) _ _ _) (qH8 Z' H' M' h2 (by rw [has]; rfl))
    ·cases hp
   ·cases hp
theorem VR.zKJ (h : VR P Z H M (.agg cs) v) : ∃ vs, v = .agg vs ∧ VRL P Z H M cs vs.toList := by
 cases h with
 | agg hl hc => exact ⟨_, rfl, by simpa using hl, fun i x v a b => hc i x v a (by simpa using b)⟩
theorem VR.zLY (h : VR P Z H M (.tup cs) v) : ∃ vs, v = .tuple vs ∧ VRL P Z H M cs vs.toList := by
 cases h with
 | tup hl hc => exact ⟨_, rfl, by simpa using hl, fun i x v a b => hc i x v a (by simpa using b)⟩
theorem VRL.agg' (h : VRL P Z H M cs vs.toList) : VR P Z H M (.agg cs) (.agg vs) := .agg (by simpa using h.len) fun i x v a b => h.val i x v a (by simpa using b)
theorem VRL.zKD (h : VRL P Z H M cs vs.toList) : VR P Z H M (.tup cs) (.tuple vs) := .tup (by simpa using h.len) fun i x v a b => h.val i x v a (by simpa using b)
theorem zCP (h : VR P Z H M x v) (hp : (pl x).isSome = true) (Z' : Nat -> Prop) (H' : IH) (M' : Nat -> Option (Nat × PO)) : VR P Z' H' M' x v := by
 unfold pl at hp;split at hp
 ·exact qN8 h rfl _ _ _
 ·rename_i cs;obtain ⟨vs, rfl, hr⟩ := h.zKJ;refine (qH8 Z' H' M' hr ?_).agg';split at hp
  ·rename_i as has; rw [has]; rfl
  ·cases hp
 ·cases hp
theorem qXL (Z' : Nat -> Prop) (H' : IH) (M' : Nat -> Option (Nat × PO)) : ∀ {xs : List PV} {vs : List Value}, VRL P Z H M xs vs -> (plL xs).isSome = true -> VRL P Z' H' M' xs vs
 | [], vs, h, _ => by rw [h.zIG]; exact .nil
 | x :: xs, _, h, hp => by
   obtain ⟨v, vs, rfl, h1, h2⟩ := h.zIF;unfold plL at hp;split at hp
   ·rename_i a ha;split at hp
    ·rename_i as has;exact .cons (zCP h1 (by rw [ha]; rfl) _ _ _) (qXL Z' H' M' h2 (by rw [has]; rfl))
    ·cases hp
   ·cases hp
theorem qSU (h : VR P Z H M x v) (hp : vY x = true) (Z' : Nat -> Prop) (H' : IH) (M' : Nat -> Option (Nat × PO)) : VR P Z' H' M' x v := by
 unfold vY at hp;split at hp
 ·exact qN8 h rfl _ _ _
 ·obtain ⟨vs, rfl, hr⟩ := h.zKJ;exact (qH8 Z' H' M' hr hp).agg'
 ·obtain ⟨vs, rfl, hr⟩ := h.zLY;exact (qXL Z' H' M' hr hp).zKD
 ·cases hp
def tL (P : Program) : Nat -> TypeId -> List TypeId
 | 0, t => [t]
 | n + 1, t => match P.underlying t with
   | some (.struct fields) => fields.toList.flatMap fun f => tL P n f.type
   | some (.array k el) => (List.replicate k (tL P n el)).flatten
   | _ => [t]
def rt0 (P : Program) (t : TypeId) : PV -> PV
 | .f (.v (.slice none 0 0)) => match y9 P t with
   | some el => .f (.l el 0 [])
   | none => fvv (.slice none 0 0)
 | x => x
def rtL (f : TypeId -> PV -> PV) : List TypeId -> List PV -> List PV
 | t :: ts, x :: xs => f t x :: rtL f ts xs
 | _, xs => xs
def rt1 (P : Program) (t : TypeId) : PV -> PV
 | .agg cs => .agg (rtL (rt0 P) (tL P 8 t) cs)
 | x => rt0 P t x
def rtA (P : Program) (g : FuncId) (args : List PV) : List PV := match P.funcs[g]? with
 | some fn => rtL (rt1 P) fn.params.toList args
 | none => args
theorem qXP (h : VR P Z H M x v) : VR P Z H M (rt0 P t x) v := by
 unfold rt0;split
 ·split
  ·have := yP h rfl;subst this;exact .f (.nil (fun _ => rfl) fun _ h => by cases h)
  ·exact h
 ·exact h
theorem qEZ {f : TypeId -> PV -> PV} (hf : ∀ t x v, VR P Z H M x v -> VR P Z H M (f t x) v) : ∀ {ts : List TypeId} {xs : List PV} {vs : List Value}, VRL P Z H M xs vs -> VRL P Z H M (rtL f ts xs) vs
 | [], xs, vs, h => by cases xs <;> exact h
 | t :: ts, [], vs, h => h
 | t :: ts, x :: xs, vs, h => by
   obtain ⟨v, vs', rfl, h1, h2⟩ := h.zIF;exact .cons (hf t x v h1) (qEZ hf h2)
theorem qD6 (h : VR P Z H M x v) : VR P Z H M (rt1 P t x) v := by
 unfold rt1;split
 ·obtain ⟨vs, rfl, hr⟩ := h.zKJ;exact (qEZ (fun t x v h => qXP h) hr).agg'
 ·exact qXP h
theorem zBH {g : FuncId} {xs : List PV} {vs : List Value} (h : VRL P Z H M xs vs) : VRL P Z H M (rtA P g xs) vs := by
 unfold rtA;split
 ·exact qEZ (fun t x v h => qD6 h) h
 ·exact h
abbrev fM := FuncId -> List PV -> Option PV
def Ctr (P : Program) (k : List Value -> IH -> T (Value × IH)) (zJ7 : List PV) (r : PV) : Prop :=
 ∀ (Z : Nat -> Prop) (H : IH) (args : List Value), VRL P Z H (fun _ => none) zJ7 args -> (∀ b, Z b -> b < H.size) -> H.base <= H.size -> q5M Z H -> ∀ Q : Value × IH -> Prop,
  (∀ v H' (Z' : Nat -> Prop), Old H H' -> (∀ b, Z b -> Z' b) -> (∀ b, Z' b -> b < H'.size) -> (∀ b, Z' b -> b < H.size -> Z b) -> VR P Z' H' (fun _ => none) r v -> Q (v, H')) -> (k args H).holds Q
def q7F : PV -> Bool
 | .f _ => true
 | _ => false
def qUH : PV -> Bool
 | .agg cs => cs.all q7F
 | x => q7F x
def q9C : PV -> Bool
 | .tup cs => cs.all qUH
 | x => qUH x
theorem qQ6 (h : VR P Z H M x v) (hp : q7F x = true) : VR P Z H M' x v := by
 unfold q7F at hp;split at hp
 ·cases h with
  | f h => exact .f h
 ·cases hp
theorem oW (h : VR P Z H M x v) (hp : qUH x = true) : VR P Z H M' x v := by
 unfold qUH at hp;split at hp
 ·obtain ⟨vs, rfl, hr⟩ := h.zKJ;exact VRL.agg' ⟨hr.len, fun i x v a b => qQ6 (hr.val i x v a b) (zQR.1 hp x (zRL a))⟩
 ·exact qQ6 h hp
theorem q06 (h : VR P Z H M x v) (hp : q9C x = true) : VR P Z H M' x v := by
 unfold q9C at hp;split at hp
 ·obtain ⟨vs, rfl, hr⟩ := h.zLY;exact VRL.zKD ⟨hr.len, fun i x v a b => oW (hr.val i x v a b) (zQR.1 hp x (zRL a))⟩
 ·exact oW h hp
def q3S (P : Program) (nat : xG) (tab : fM) : Prop := ∀ g zJ7 r, tab g zJ7 = some r -> enters P g = true ∧ q9C r = true ∧ ∃ k, nat g = some k ∧ Ctr P k zJ7 r
structure Nm where
 b : Nat
 p : Nat -> Bool
def zDL (P : Program) (g : FuncId) : Bool := match P.funcs[g]? with
 | some fn => fn.body.isNone && !(fn.name == "internal/abi.NoEscape" && fn.origin == "")
 | none => false
def qV7 (P : Program) (G : Nat -> Bool) (nm : Nm) (g : FuncId) (args : List PV) (ph : PHp) (R : PV -> PHp -> Prop) : Prop :=
 (zDL P g = true ∧ ∃ vs v, plL args = some vs ∧ (zW vs && yY (xL 2) vs) = true ∧ yV P (callFunc g vs.toArray) = some (.value v) ∧ qLK v = true ∧ R (ofC v) ph) ∨
 enters P g = true ∧ ∀ (Z : Nat -> Prop) (H : IH) (m : Nat -> Nat) (zI3 : List Value), Hp P Z H (own m ph) -> H.base <= H.size -> VRL P Z H (own m ph) args zI3 ->
  qAC P G g zI3 H fun r => ∃ Z' m' pv ph', Hp P Z' r.2 (own m' ph') ∧ VR P Z' r.2 (own m' ph') pv r.1 ∧ Step Z H (own m ph) Z' r.2 (own m' ph') ∧ KR nm.p (own m ph) (own m' ph') ∧ R pv ph'
inductive PE where
 | fail
 | ok (v : PV) (ph : PHp)
 | call (g : FuncId) (args : List PV) (ph : PHp)
 | rnd (l : Nat) (args : List PV) (ph : PHp)
inductive PT where
 | fail
 | ret (env : List PV) (ph : PHp)
 | chk (c : Bool) (t : PT)
 | call (nm : Nm) (g : FuncId) (args : List PV) (ph : PHp) (k : PV -> PHp -> PT)
 | rnd (l : Nat) (args : List PV) (ph : PHp) (k : PV -> PHp -> PT)
def PT.holds (P : Program) (G : Nat -> Bool) (Q : List PV -> PHp -> Prop) : PT -> Prop
 | .fail => False
 | .ret env ph => Q env ph
 | .chk c t => c = true ∧ t.holds P G Q
 | .call nm g args ph k => ∃ R, qV7 P G nm g args ph R ∧ ∀ v ph', R v ph' -> (k v ph').holds P G Q
 | .rnd _ _ _ _ => False
noncomputable def aB (P : Program) (tab : fM) (g : FuncId) (args : List PV) (ph : PHp) : PE := match fzA P args ph with
 | some (zJB, ph1) => (match tab g (rtA P g zJB) with
   | some r => .ok r (cond (vY r) ph ph1)
   | none => .fail)
 | none => .fail
noncomputable def eO (P : Program) (tab : fM) (inl : FuncId -> Bool) (g : FuncId) (args : List PV) (ph : PHp) : PE := cond (inl g) (.call g args ph) (aB P tab g args ph)
noncomputable def oQ (P : Program) (tab : fM) (inl : FuncId -> Bool) (fv : PV) (args : List PV) (ph : PHp) : PE := match fv with
 | .f (.v (.func (.func g) a c)) => cond (a.toList.isEmpty && c.toList.isEmpty) (eO P tab inl g args ph) .fail
 | .yl l => .rnd l args ph
 | .fn g first cap => eO P tab inl g (first ++ (args ++ cap)) ph
 | _ => .fail
def peO : Option (PV × PHp) -> PE
 | some r => .ok r.1 r.2
 | none => .fail
noncomputable def gV (P : Program) (tab : fM) (inl : FuncId -> Bool) (k : Nat) (o : Oper) (env : List PV) (ph : PHp) : PE := match o.op with
 | .call ⟨.value f, args, _⟩ => oQ P tab inl (qN env f) (args.toList.map (qN env)) ph
 | _ => peO (q1K P o env k ph)
def qRI (want : Bool) : PV -> Option Bool
 | .f (.v (.bool b)) => some (b == want)
 | .tup cs => cond cs.isEmpty (some false) none
 | _ => none
noncomputable def qQ4 (w : Bool) (env : List PV) : Option Tmp -> Option Bool
 | some t => (match zM env t with
   | some v => qRI w v
   | none => none)
 | none => some false
noncomputable def fK (ds : List (Option Tmp)) (o : Oper) (env : List PV) : Option Bool := match o.guard with
 | none => some true
 | some (j, w) => qQ4 w env (qT3 ds j)
def wid (b : Nat) : Nat := cond (Nat.blt b 1000) 1 (cond (Nat.blt b 1000000) 1000 (cond (Nat.blt b 1000000000) 1000000 1000000000))
def inB (b k : Nat) : Bool := Nat.beq ((k / 1000) % wid b) (b / 1000)
def inP (nm : Nm) (k : Nat) : Bool := nm.p k
def qWI (nm : Nm) (g : FuncId) : Nm := ⟨nm.b + wid nm.b * 1000 * (g + 1), fun k => inB (nm.b + wid nm.b * 1000 * (g + 1)) k && nm.p k⟩
def clean (p : Nat -> Bool) (env : List PV) : PHp -> Bool
 | [] => true
 | (k, _) :: ph => (!p k || yD k env) && clean p env ph
def zL (nm : Nm) (d : Option Tmp) : Nat := match d with
 | some t => nm.b + t
 | none => nm.b
def fresh (nm : Nm) (k : Nat) (env : List PV) (ph : PHp) : Bool := inP nm k && (yD k env && dY k ph)
def q8A (c : Bool) (k : Nat) (nm : Nm) (env : List PV) (ph : PHp) (t : PT) : PT := cond c (.chk (fresh nm k env ph) t) t
noncomputable def pops (P : Program) (tab : fM) (inl : FuncId -> Bool) (nm : Nm) (ds : List (Option Tmp)) : List Oper -> List PV -> PHp -> PT
 | [], env, ph => .ret env ph
 | o :: l, env, ph => vX (fK ds o env)
    (match gV P tab inl (zL nm o.dst) o env ph with
     | .fail => .fail
     | .ok v ph' => q8A (needs o.op) (zL nm o.dst) nm env ph (pops P tab inl nm ds l (yN env o.dst v) ph')
     | .call g args ph' => .call (qWI nm g) g args ph' fun v ph2 => .chk (clean (qWI nm g).p env ph2) (pops P tab inl nm ds l (yN env o.dst v) ph2)
     | .rnd x args ph' => .rnd x args ph' fun v ph2 => pops P tab inl nm ds l (yN env o.dst v) ph2)
    (pops P tab inl nm ds l (yN env o.dst (.tup [])) ph) .fail
theorem KR.trans {p : Nat -> Bool} {M1 M2 M3 : Nat -> Option (Nat × PO)} (a : KR p M1 M2) (b : KR p M2 M3) : KR p M1 M3 := fun k b' ob' h => by
 rcases b k b' ob' h with ⟨ob, h1, h2, h3, h4⟩ | ⟨b1, ob, h1, h2, h3, hb1⟩ | h
 ·rcases a k b' ob h1 with ⟨o2, q1, q2, q3, q4⟩ | ⟨b2, o2, q1, q2, q3, qb2⟩ | q
  ·exact .inl ⟨o2, q1, q2.trans h2, q3.trans h3, q4.trans h4⟩
  ·exact .inr (.inl ⟨b2, o2, q1, by omega, q3.trans h3, qb2⟩)
  ·exact .inr (.inr q)
 ·rcases a k b1 ob h1 with ⟨o2, q1, q2, q3, q4⟩ | ⟨b2, o2, q1, q2, q3, qb2⟩ | q
  ·exact .inr (.inl ⟨b1, o2, q1, by omega, q3.trans h3, fun hh => hb1 (by rw [<- q3]; exact hh)⟩)
  ·exact .inr (.inl ⟨b2, o2, q1, by omega, q3.trans h3, fun hh => (qb2 hh).trans (hb1 (by rw [<- q3]; exact hh))⟩)
  ·exact .inr (.inr q)
 ·exact .inr (.inr h)
theorem KR.up {p q : Nat -> Bool} {M1 M2 : Nat -> Option (Nat × PO)} (a : KR p M1 M2) (h : ∀ k, p k = true -> q k = true) : KR q M1 M2 := fun k b ob hk => by
 rcases a k b ob hk with h1 | h1 | h1
 ·exact .inl h1
 ·exact .inr (.inl h1)
 ·exact .inr (.inr (h k h1))
theorem VRL.zIX (h : VRL P Z H M env zIC) (hx : VR P Z H M x v) (d : Option Tmp) : VRL P Z H M (yN env d x) (zIC.zIX d v) := by
 cases d with
 | none => exact h
 | some t =>
   show VRL P Z H M (yQ env t x) (yQ zIC t v);rw [qW, qW]; exact h.set hx t
theorem qB4 {ops : Array Oper} {o : Oper} {b : Bool} (he : VRL P Z H M env zIC) (h : fK (ops.toList.map (·.dst)) o env = some b) : xY ops o zIC = some b := by
 rw [qOZ];unfold fK at h;unfold qR3;split at h
 ·rename_i hg;rw [hg]; exact h
 ·rename_i j w hg;rw [hg];simp only;unfold qQ4 at h;unfold qTW;split at h
  ·rename_i t ht;rw [ht];simp only;split at h
   ·rename_i v hv;rw [qD] at hv;obtain ⟨u, h1, h2⟩ := he.get hv;unfold zAH;rw [qD, h1];unfold qRI at h;split at h
    ·have := yP h2 rfl;subst this;exact h
    ·rename_i cs
     cases hc : cs.isEmpty with
     | false => rw [hc] at h; cases h
     | true =>
       rw [hc] at h;obtain ⟨vs, rfl, hr⟩ := h2.zLY
       have : cs = [] := by cases cs with
        | nil => rfl
        | cons => cases hc
       subst this;have h3 := hr.zIG;have : vs = #[] := by simpa using h3
       subst this;exact h
    ·cases h
   ·cases h
  ·rename_i ht;rw [ht]; exact h
end Go.Idl
namespace Go.Idl
variable [Gc]
variable {P : Program} {Z : Nat -> Prop} {H : IH} {m : Nat -> Nat} {ph : PHp} {G : Nat -> Bool} {nat : xG} {tab : fM} {inl : FuncId -> Bool} {nm : Nm}
variable {F : Fence} {K : Act -> World -> Prop} {Q : Value × IH -> Prop} {Qx : Exit -> Act -> World -> Prop} {a : Act} {args : List Value} {as env : List PV} {f : Inj} {g : FuncId} {zIC : Env} {o : Oper} {zIQ : Array Operand} {ph' : PHp} {ts : Array TypeId} {w : World} {x : Operand}
def uN : Job -> IH -> T Out := fun _ _ => .fail
theorem qJ5 (hs : fQ P G nat) : vN P G (kG uN nat) := by
 intro g args args' H f w Q hR hG ha h;unfold kG at h;split at h
 ·rename_i k hk; exact hs g k hk args args' H f w Q hR hG ha h
 ·exact h.elim
theorem qDC : jA P G uN := by
 intro l args args' H f w e Q hR hG he ha hq;exact hq.elim
theorem qOK : fQ P G fun _ => none := fun g k h => by cases h
noncomputable def qFE (g : FuncId) (args : List Value) (H : IH) (Q : Value × IH -> Prop) : xG := by
 classical
 exact fun g1 => if g1 = g then some (fun a h => if a = args ∧ h = H then .sp Q .ret else .fail) else none
theorem zCV {H : IH} (h : qAC P G g args H Q) : fQ P G (qFE g args H Q) := by
 classical
 intro g1 k hk zN5 args' H1 f1 w1 Q1 hR1 hG1 ha1 hq1;unfold qFE at hk;split at hk
 ·rename_i hg1;subst hg1;cases hk;change T.holds Q1 (if zN5 = args ∧ H1 = H then T.sp Q T.ret else T.fail) at hq1;split at hq1
  ·rename_i hc;obtain ⟨rfl, rfl⟩ := hc;exact (h.mono fun r hr => hq1 r hr) args' f1 w1 hR1 hG1 ha1
  ·exact hq1.elim
 ·cases hk
theorem q7E {H : IH} : kG uN (qFE g args H Q) g args H = .sp Q .ret := by
 classical
 unfold kG qFE;simp
def target (fv : PV) (args : List PV) : Option (FuncId × List PV) := match fv with
 | .f (.v (.func (.func g) a c)) => cond (a.toList.isEmpty && c.toList.isEmpty) (some (g, args)) none
 | .fn g first cap => some (g, first ++ (args ++ cap))
 | _ => none
theorem oL {fv : PV} {args : List PV} {r : PE} (h : oQ P tab inl fv args ph = r) (hr : r ≠ .fail) (hr2 : ∀ x a p, r ≠ .rnd x a p) : ∃ g as, target fv args = some (g, as) ∧ eO P tab inl g as ph = r := by
 unfold oQ at h;unfold target;split at h
 ·rename_i g a c
  cases hc : (a.toList.isEmpty && c.toList.isEmpty) with
  | false => rw [hc] at h; exact absurd h.symm hr
  | true => rw [hc] at h; exact ⟨g, args, (by simp only; rw [hc]; rfl), h⟩
 ·exact absurd h.symm (hr2 _ _ _)
 ·exact ⟨_, _, rfl, h⟩
 ·exact absurd h.symm hr
theorem qLM (he : VRL P Z H (own m ph) env zIC) (h : target (qN env x) (zIQ.toList.map (qN env)) = some (g, as)) (hent : enters P g = true) :
 ∃ zI3, yH P o ⟨.value x, zIQ, ts⟩ zIC H = some (.enter g zI3 H) ∧ VRL P Z H (own m ph) as zI3 := by
 have hx := qK he x;have ha := VRL.of he zIQ.toList;unfold target at h;split at h
 ·rename_i g' a c hfv;rw [hfv] at hx;have hv := yP hx rfl
  cases hc : (a.toList.isEmpty && c.toList.isEmpty) with
  | false => rw [hc] at h; cases h
  | true =>
    rw [hc] at h; cases h;rw [zQM] at hc;have e1 : a.toList = [] := by simpa using hc.1
    have e2 : c.toList = [] := by simpa using hc.2
    refine ⟨_, qI4 hv hent, ?_⟩;rw [e1, e2, y7];simpa [mK] using ha
 ·rename_i g' first cap hfv
  cases h;rw [hfv] at hx
  cases hv : zIC.val x with
  | func fn fs cs =>
    rw [hv] at hx
    cases hx with
    | fn hf hc hfc hcc =>
      refine ⟨_, qI4 hv hent, ?_⟩;rw [mK, mK, y7];exact VRL.append ⟨by simpa using hf, fun i x v a b => hfc i x v a (by simpa using b)⟩ (ha.append ⟨by simpa using hc, fun i x v a b => hcc i x v a (by simpa using b)⟩)
  | _ => rw [hv] at hx; cases hx
 ·cases h
theorem zCB (nm : Nm) {k : Nat} (h : fresh nm k env ph = true) : inP nm k = true ∧ yD k env = true ∧ dY k ph = true := by
 unfold fresh at h;simp only [zQM] at h;exact h
theorem q0J (hF : nO F) (hns : fQ P G nat) (ht : q3S P nat tab) {v : PV} (hR : Rel P f H w) (hG : aP G f) (zII : qC P f zIC a.tmps.toList)
 (hok : o.op.operands.toList.all (gK (zN f)) = true) (hp : Hp P Z H (own m ph)) (hb : H.base <= H.size) (he : VRL P Z H (own m ph) env zIC) (hx : gV P tab inl (zL nm o.dst) o env ph = .ok v ph') (hn : needs o.op = true -> fresh nm (zL nm o.dst) env ph = true)
 (hK : ∀ (Z' : Nat -> Prop) (m' : Nat -> Nat) (u : Value) (H' : IH) (f' : Inj) (v' : Value) (w' : World), Hp P Z' H' (own m' ph') -> VR P Z' H' (own m' ph') v u -> VRL P Z' H' (own m' ph') env zIC -> Step Z H (own m ph) Z' H' (own m' ph') -> KR (inP nm) (own m ph) (own m' ph') ->
   Rel P f' H' w' -> Grow f H w f' H' w' -> zIB P f' u v' -> K (a.put o.dst v') w') : o.wpIn F 0 P a w K Qx := by
 have plain : peO (q1K P o env (zL nm o.dst) ph) = .ok v ph' -> o.wpIn F 0 P a w K Qx := fun hx => by
  unfold peO at hx;split at hx
  ·rename_i r hr;cases hx;obtain ⟨u, H', Z', m', h1, h2, h3, h4, h5⟩ := q8U hp hb he (fun h => (zCB nm (hn h)).2) hr;refine uD (run := uN) (nat := fun _ => none) (G := G) (Q := fun r => r = (u, H')) hF (qJ5 qOK) qDC hR hG zII hok ?_ ?_
   ·unfold qAD; rw [h1]; rfl
   ·rintro r v' w' f' rfl k1 k2 k3;refine hK Z' m' u H' f' v' w' h2 h3 ?_ h4 ?_ k1 k2 k3
    ·refine he.mono h4.zle h4.size (hp.zJR h4) h5 fun j hj => ?_
     unfold nw at hj;rw [zQM] at hj;have : j = zL nm o.dst := by simpa using hj.2
     subst this;exact (zCB nm (hn hj.1)).2.1
    ·refine h5.up fun j hj => ?_
     unfold nw at hj;rw [zQM] at hj;have : j = zL nm o.dst := by simpa using hj.2
     subst this;exact (zCB nm (hn hj.1)).1
  ·cases hx
 unfold gV at hx;split at hx
 ·rename_i x zIQ ts hop;obtain ⟨g, as, h1, h2⟩ := oL hx (fun h => by cases h) (fun _ _ _ h => by cases h);unfold eO at h2
  cases hi : inl g with
  | true => rw [hi] at h2; cases h2
  | false =>
    rw [hi] at h2;simp only [cond_false] at h2;unfold aB at h2;split at h2
    ·rename_i zJB ph1 hfz;split at h2
     ·rename_i r hr
      have hv : r = v ∧ cond (vY r) ph ph1 = ph' := by
       injection h2 with e1 e2;exact ⟨e1, e2⟩
      obtain ⟨rfl, hph⟩ := hv;obtain ⟨hent, hfr, k, hk, zM1⟩ := ht g _ r hr;obtain ⟨zI3, q1, q2⟩ := qLM (o := o) (ts := ts) he h1 hent;obtain ⟨Z1, c1, r1⟩ := qQM hp q2 hfz
      let Q : Value × IH -> Prop := fun x => ∃ Z' : Nat -> Prop, Old H x.2 ∧ (∀ b, Z1 b -> Z' b) ∧ (∀ b, Z' b -> b < x.2.size) ∧ (∀ b, Z' b -> b < H.size -> Z1 b) ∧ VR P Z' x.2 (fun _ => none) r x.1
      have hQ : (k zI3 H).holds Q := zM1 Z1 H zI3 (zBH r1) c1.hp.zlt hb c1.hp.gl Q fun v H' Z' a1 a2 a3 a4 a5 => ⟨Z', a1, a2, a3, a4, a5⟩
      refine uD (run := uN) (nat := nat) (G := G) (Q := Q) hF (qJ5 hns) qDC hR hG zII hok ?_ ?_
      ·have : iop P o zIC H = some (.enter g zI3 H) := by
        unfold iop; rw [hop]; exact q1
       unfold qAD;rw [this];show (kG uN nat g zI3 H).holds Q;unfold kG;rw [hk];exact hQ
      ·rintro ⟨u, H'⟩ v' w' f' ⟨Z', a1, a2, a3, a4, a5⟩ k1 k2 k3
       cases hpl : vY r with
       | true =>
         rw [hpl] at hph;have hph : ph = ph' := hph;subst hph;have z1 : ∀ b, Z b -> b < H'.size := fun b hb => zQZ (hp.zlt b hb) a1.size
         exact hK Z m u H' f' v' w' (hp.old a1 (fun _ h => h) z1 (fun _ h _ => h)) (qSU a5 hpl _ _ _) (he.mono (p := fun _ => false) (fun _ h => h) a1.size (fun b _ hb => a1.get b hb) (.refl _ _) (fun j hj => by cases hj)) (.old a1 (fun _ h => h) (fun _ h _ => h)) (.refl _ _) k1 k2 k3
       | false =>
         rw [hpl] at hph;have hph : ph1 = ph' := hph;subst hph;exact hK Z' m u H' f' v' w' (c1.hp.old a1 a2 a3 a4) (q06 a5 hfr) ((c1.vrl he).mono (p := fun _ => false) a2 a1.size (fun b _ hb => a1.get b hb) (.refl _ _) (fun j hj => by cases hj)) (c1.step.trans (.old a1 a2 a4)) (c1.kr _) k1 k2 k3
     ·cases h2
    ·cases h2
 ·exact plain hx
theorem q26 {f : Operand} {env : Env} {fs cs : Array Value} (hv : env.val f = .func (.func g) fs cs) (hx : zDL P g = true) : fB P ⟨.value f, zIQ, ts⟩ env H = none := by
 unfold zDL at hx;unfold fB;simp only [hv];split at hx
 ·rename_i fn hfn;rw [zQM, zRN] at hx;simp only [hfn]
  have h1 : fn.body.isSome = false := by
   cases hb : fn.body with
   | none => rfl
   | some c => rw [hb] at hx; cases hx.1
  rw [h1, hx.2];simp
 ·cases hx
theorem qMH : ∀ {xs ys : List PV} {vs : List Value}, plL (xs ++ ys) = some vs -> ∃ a b, vs = a ++ b ∧ plL xs = some a ∧ plL ys = some b
 | [], ys, vs, h => ⟨[], vs, rfl, rfl, h⟩
 | x :: xs, ys, vs, h => by
   rw [zTL] at h;unfold plL at h;split at h
   ·rename_i v hv;split at h
    ·rename_i l hl;cases h;obtain ⟨a, b, rfl, h1, h2⟩ := qMH hl;refine ⟨v :: a, b, rfl, ?_, h2⟩;unfold plL;rw [hv, h1]
    ·cases h
   ·cases h
theorem q8X {vs : List Value} {v : Value} (hop : o.op = .call ⟨.value x, zIQ, ts⟩) (he : VRL P Z H (own m ph) env zIC) (h : target (qN env x) (zIQ.toList.map (qN env)) = some (g, as)) (hx : zDL P g = true) (hp : plL as = some vs) (zN6 : (zW vs && yY (xL 2) vs) = true)
 (hs : yV P (callFunc g vs.toArray) = some (.value v)) (hd : qLK v = true) : iop P o zIC H = some (.val v H) := by
 have hx0 := qK he x;have ha := VRL.of he zIQ.toList;rw [zQM] at zN6;obtain ⟨hpl, hp2⟩ := zN6
 have key : ∀ fs cs, zIC.val x = .func (.func g) fs cs -> fs.toList ++ (kV zIC.val zIQ.toList ++ cs.toList) = vs -> zG (zIC.val x) = true -> iop P o zIC H = some (.val v H) := fun fs cs hv hvs hpv => by
  unfold iop;rw [hop];show yH P o ⟨.value x, zIQ, ts⟩ zIC H = _;unfold yH;rw [q26 hv hx];unfold kW
  have hpo : zW (kV zIC.val o.op.operands.toList) = true := by
   rw [hop];have e : (Op.call ⟨.value x, zIQ, ts⟩).operands.toList = x :: zIQ.toList := by simp [Op.operands, Call.operands]
   rw [e, y7, zQ0];rw [y7] at hvs
   have : zW (zIQ.toList.map zIC.val) = true := by
    rw [<- hvs] at hpl;unfold zW at hpl ⊢;rw [xB] at hpl ⊢;exact fun a ha => hpl a (by simp only [zRA]; exact .inr (.inl ha))
   unfold zW at this ⊢;rw [xJ, hpv, this]; rfl
  rw [if_pos hpo]
  have he : execOp zIC.val o = (do let d <- resolve zIC.val ⟨.value x, zIQ, ts⟩ o.type; invoke d.target d.args) := by
   unfold execOp;rw [hop]
  have hr : resolve zIC.val ⟨.value x, zIQ, ts⟩ o.type = pure { target := .fn (.func g) cs, args := fs ++ zIQ.map zIC.val } := by
   unfold resolve Deferred.ofValue;simp only [hv]
  have : execOp zIC.val o = callFunc g vs.toArray := by
   rw [he, hr];show invoke (.fn (.func g) cs) (fs ++ zIQ.map zIC.val) = _;unfold invoke;simp only
   congr 1
   apply Array.toList_inj.1;rw [<- hvs, y7];simp
  rw [this, hs];show qB5 H v = _;unfold qB5;rw [hd]; rfl
 unfold target at h;split at h
 ·rename_i g' a c hfv;rw [hfv] at hx0;have hv := yP hx0 rfl
  cases hc : (a.toList.isEmpty && c.toList.isEmpty) with
  | false => rw [hc] at h; cases h
  | true =>
    rw [hc] at h; cases h;rw [zQM] at hc;have e1 : a.toList = [] := by simpa using hc.1
    have e2 : c.toList = [] := by simpa using hc.2
    have e3 : a = #[] := by simpa using e1
    have e4 : c = #[] := by simpa using e2
    subst e3 e4;refine key _ _ hv ?_ (by rw [hv]; rfl);have := qLI ha (by simpa using hp);rw [y7];simpa using this
 ·rename_i g' first cap hfv
  cases h;rw [hfv] at hx0;obtain ⟨a, b, rfl, p1, p2⟩ := qMH hp;obtain ⟨b, c, rfl, p3, p4⟩ := qMH p2
  cases hv : zIC.val x with
  | func fn fs cs =>
    rw [hv] at hx0
    cases hx0 with
    | fn hf hc hfc hcc =>
      have q1 := qLI (vs := fs.toList) ⟨by simpa using hf, fun i x v a b => hfc i x v a (by simpa using b)⟩ p1;have q2 := qLI (vs := cs.toList) ⟨by simpa using hc, fun i x v a b => hcc i x v a (by simpa using b)⟩ p4;have q3 := qLI ha (by simpa using p3);refine key fs cs hv (by rw [q1, q2, y7]; rw [<- q3]) ?_;rw [hv];rw [xB] at hp2;show (zCN (.func g) && (yY (xL 2) fs.toList && yY (xL 2) cs.toList)) = true;rw [zQM, zQM, xB, xB];exact ⟨rfl, fun y hy => hp2 y (by rw [q1] at hy; simp [hy]), fun y hy => hp2 y (by rw [q2] at hy; simp [hy])⟩
  | _ => rw [hv] at hx0; cases hx0
 ·cases h
theorem qP8 {p : Nat -> Bool} {env : List PV} : ∀ {ph : PHp} {k : Nat}, clean p env ph = true -> (p k && (qB k ph).isSome) = true -> yD k env = true
 | [], k, _, h => by simp [qB] at h
 | (j, o) :: ph, k, h, hk => by
   have h : ((!p j || yD j env) && clean p env ph) = true := h;rw [zQM] at h hk;obtain ⟨hk1, hk2⟩ := hk;have hk2 : (cond (k == j) (some o) (qB k ph)).isSome = true := hk2
   cases e : k == j with
   | true =>
     have : k = j := by simpa using e
     subst this;have := h.1;rw [hk1] at this;simpa using this
   | false =>
     rw [e] at hk2;exact qP8 h.2 (by rw [hk1]; exact hk2)
theorem KR.act {p : Nat -> Bool} {M : Nat -> Option (Nat × PO)} {m : Nat -> Nat} {ph : PHp} (h : KR p M (own m ph)) : KR (fun k => p k && (qB k ph).isSome) M (own m ph) := fun k b ob hk => by
 rcases h k b ob hk with q | q | q
 ·exact .inl q
 ·exact .inr (.inl q)
 ·obtain ⟨hl, _⟩ := uV hk;exact .inr (.inr (by show (p k && (qB k ph).isSome) = true; rw [q, hl]; rfl))
theorem q6O (hF : nO F) {R : PV -> PHp -> Prop} (hR : Rel P f H w) (hG : aP G f) (zII : qC P f zIC a.tmps.toList)
 (hok : o.op.operands.toList.all (gK (zN f)) = true) (hp : Hp P Z H (own m ph)) (hb : H.base <= H.size) (he : VRL P Z H (own m ph) env zIC) (hx : gV P tab inl (zL nm o.dst) o env ph = .call g as ph') (hc : qV7 P G (qWI nm g) g as ph' R) (hcl : ∀ v ph2, R v ph2 -> clean (qWI nm g).p env ph2 = true)
 (hK : ∀ (Z' : Nat -> Prop) (m' : Nat -> Nat) (v : PV) (ph2 : PHp) (u : Value) (H' : IH) (f' : Inj) (v' : Value) (w' : World), R v ph2 -> Hp P Z' H' (own m' ph2) -> VR P Z' H' (own m' ph2) v u -> VRL P Z' H' (own m' ph2) env zIC -> Step Z H (own m ph) Z' H' (own m' ph2) -> KR (inP nm) (own m ph) (own m' ph2) ->
   Rel P f' H' w' -> Grow f H w f' H' w' -> zIB P f' u v' -> K (a.put o.dst v') w') : o.wpIn F 0 P a w K Qx := by
 unfold gV at hx;split at hx
 ·rename_i x zIQ ts hop;obtain ⟨g1, as1, h1, h2⟩ := oL hx (fun h => by cases h) (fun _ _ _ h => by cases h);unfold eO at h2
  cases hi : inl g1 with
  | false =>
    rw [hi] at h2;exfalso;have h2 : aB P tab g1 as1 ph = .call g as ph' := h2;unfold aB at h2;split at h2
    ·split at h2 <;> cases h2
    ·cases h2
  | true =>
    rw [hi] at h2;have h2 : PE.call g1 as1 ph = .call g as ph' := h2;cases h2
    rcases hc with ⟨hxt, vs, xv, x1, x2, x3, x4, x5⟩ | ⟨hent, hc⟩
    ·refine uD (run := uN) (nat := fun _ => none) (G := G) (Q := fun r => r = (xv, H)) hF (qJ5 qOK) qDC hR hG zII hok ?_ ?_
     ·unfold qAD; rw [q8X hop he h1 hxt x1 x2 x3 x4]; rfl
     ·rintro r v' w' f' rfl k1 k2 k3;exact hK Z m _ _ xv H f' v' w' x5 hp (oP xv) he (.refl _ _ _) (.refl _ _) k1 k2 k3
    obtain ⟨zI3, q1, q2⟩ := qLM (o := o) (ts := ts) he h1 hent;have hci := hc Z H m zI3 hp hb q2;refine uD (run := uN) (nat := qFE g zI3 H _) (G := G) hF (qJ5 (zCV hci)) qDC hR hG zII hok (Q := fun r => ∃ Z' m' pv ph', Hp P Z' r.2 (own m' ph') ∧ VR P Z' r.2 (own m' ph') pv r.1 ∧ Step Z H (own m ph) Z' r.2 (own m' ph') ∧ KR (qWI nm g).p (own m ph) (own m' ph') ∧ R pv ph') ?_ ?_
    ·have : iop P o zIC H = some (.enter g zI3 H) := by
      unfold iop; rw [hop]; exact q1
     unfold qAD;rw [this];show (kG uN (qFE g zI3 H _) g zI3 H).holds _;rw [q7E];intro r hr;exact hr
    ·rintro ⟨u, H'⟩ v' w' f' ⟨Z', m', pv, ph2, b1, b2, b3, b4, b5⟩ k1 k2 k3
     exact hK Z' m' pv ph2 u H' f' v' w' b5 b1 b2 (he.mono b3.zle b3.size (hp.zJR b3) (KR.act b4) fun j hj => qP8 (hcl _ _ b5) hj) b3 (b4.up fun k h => by
      have h : (inB _ k && nm.p k) = true := h;rw [zQM] at h
      exact h.2) k1 k2 k3
 ·unfold peO at hx;split at hx <;> cases hx
end Go.Idl
namespace Go.Idl
variable [Gc]
variable {P : Program} {G : Nat -> Bool} {nat : xG} {tab : fM} {inl : FuncId -> Bool} {nm : Nm} {rd : Bool} {good : FuncId -> Bool}
structure zI6 (P : Program) (good : FuncId -> Bool) (nat : xG) (G : Nat -> Bool) (tab : fM) : Prop where
 s : Setup P good nat G
 t : q3S P nat tab
abbrev PQ := zJG -> List PV -> PHp -> Prop
def Runs (P : Program) (G : Nat -> Bool) (rd : Bool) (nm : Nm) (c : Code) (env : List PV) (ph : PHp) (Q : PQ) : Prop :=
 ∀ (Z : Nat -> Prop) (H : IH) (m : Nat -> Nat) (zIC : Env), Hp P Z H (own m ph) -> H.base <= H.size -> VRL P Z H (own m ph) env zIC ->
  Holds P G rd c zIC H fun o => ∃ Z' m' env' ph', Hp P Z' o.H (own m' ph') ∧ VRL P Z' o.H (own m' ph') env' o.env ∧ Step Z H (own m ph) Z' o.H (own m' ph') ∧ KR (inP nm) (own m ph) (own m' ph') ∧ Q o.e env' ph'
theorem Runs.mono {c : Code} {env : List PV} {ph : PHp} {Q Q' : PQ} (h : Runs P G rd nm c env ph Q) (hq : ∀ e env ph, Q e env ph -> Q' e env ph) : Runs P G rd nm c env ph Q' :=
 fun Z H m zIC hp hb he => (h Z H m zIC hp hb he).mono fun o ⟨Z', m', env', ph', a, b, c, d, e⟩ => ⟨Z', m', env', ph', a, b, c, d, hq _ _ _ e⟩
inductive WkP : List PV -> List PV -> Prop
 | nil : WkP [] []
 | same {x : PV} {l m : List PV} (h : WkP l m) : WkP (x :: l) (x :: m)
 | any {x : PV} {l m : List PV} (h : WkP l m) : WkP (x :: l) (.unk :: m)
theorem WkP.rel {Z : Nat -> Prop} {H : IH} {M : Nat -> Option (Nat × PO)} {l m : List PV} (h : WkP l m) : ∀ {vs : List Value}, VRL P Z H M l vs -> VRL P Z H M m vs := by
 induction h with
 | nil => intro vs hx; exact hx
 | same _ ih => intro vs hx; obtain ⟨v, vs', rfl, h1, h2⟩ := hx.zIF; exact .cons h1 (ih h2)
 | any _ ih => intro vs hx; obtain ⟨v, vs', rfl, h1, h2⟩ := hx.zIF; exact .cons .unk (ih h2)
def qA5 (p q : PHp) : Prop := ∀ k ob, qB k p = some ob -> qB k q = some ob
theorem qA5.refl (p : PHp) : qA5 p p := fun _ _ h => h
def aG {σ ρ : Type} : Nat -> (σ -> Option (σ ⊕ ρ)) -> σ -> Option ρ
 | 0, _, _ => none
 | n + 1, f, s => match f s with
   | some (.inl s') => aG n f s'
   | some (.inr r) => some r
   | none => none
theorem qEI {σ ρ : Type} {f : σ -> Option (σ ⊕ ρ)} : ∀ {n : Nat} {s : σ} {r : ρ}, aG n f s = some r -> aG (n + 1) f s = some r
 | 0, _, _, h => by cases h
 | n + 1, s, r, h => by
   unfold aG at h ⊢
   cases hf : f s with
   | none => rw [hf] at h; cases h
   | some x =>
     rw [hf] at h
     cases x with
     | inl s' => exact qEI h
     | inr r => exact h
theorem qPB {σ ρ : Type} {f : σ -> Option (σ ⊕ ρ)} {n k : Nat} {s : σ} {r : ρ} (h : aG n f s = some r) (hk : n <= k) : aG k f s = some r := by
 induction hk with
 | refl => exact h
 | step _ ih => exact qEI ih
open Classical in
noncomputable def qQ {σ ρ : Type} (f : σ -> Option (σ ⊕ ρ)) (s : σ) : Option ρ := if h : ∃ r n, aG n f s = some r then some (Classical.choose h) else none
theorem qGO {σ ρ : Type} {f : σ -> Option (σ ⊕ ρ)} {n : Nat} {s : σ} {r : ρ} (h : aG n f s = some r) : qQ f s = some r := by
 have he : ∃ r n, aG n f s = some r := ⟨r, n, h⟩
 unfold qQ;rw [dif_pos he];obtain ⟨k, hk⟩ := Classical.choose_spec he;have h1 := qPB h (Nat.le_max_left n k);have h2 := qPB hk (Nat.le_max_right n k);rw [h1] at h2;exact h2.symm
theorem aH {σ ρ : Type} {f : σ -> Option (σ ⊕ ρ)} {s : σ} {r : ρ} (h : qQ f s = some r) : ∃ n, aG n f s = some r := by
 unfold qQ at h;split at h
 ·rename_i he;cases h;exact Classical.choose_spec he
 ·cases h
theorem zB {σ ρ : Type} (f : σ -> Option (σ ⊕ ρ)) (s : σ) : qQ f s = (match f s with
 | some (.inl s') => qQ f s'
 | some (.inr r) => some r
 | none => none) := by
 cases hf : f s with
 | none =>
   cases hl : qQ f s with
   | none => rfl
   | some r =>
     obtain ⟨n, hn⟩ := aH hl
     cases n with
     | zero => cases hn
     | succ n => unfold aG at hn; rw [hf] at hn; cases hn
 | some x =>
   cases x with
   | inr r => exact qGO (n := 1) (by unfold aG; rw [hf])
   | inl s' =>
     simp only
     cases hl : qQ f s' with
     | some r =>
       obtain ⟨n, hn⟩ := aH hl;exact qGO (n := n + 1) (by unfold aG; rw [hf]; exact hn)
     | none =>
       cases hl2 : qQ f s with
       | none => rfl
       | some r =>
         obtain ⟨n, hn⟩ := aH hl2
         cases n with
         | zero => cases hn
         | succ n => unfold aG at hn; rw [hf] at hn; rw [qGO hn] at hl; cases hl
end Go.Idl
namespace Go.Idl
variable [Gc]
variable {P : Program} {G : Nat -> Bool} {nat : xG} {tab : fM} {nm : Nm} {good : FuncId -> Bool} {Z : Nat -> Prop} {H : IH} {M : Nat -> Option (Nat × PO)}
variable {env xs : List PV} {g : FuncId} {zIC : Env} {m : Nat -> Nat} {ph : PHp} {v : Value} {vs : List Value} {x y : PV}
theorem FR.inter {Z0 : Nat -> Prop} {x : FV} (h0 : FR Z0 H x v) : ∀ {S : (Nat -> Prop) -> Prop}, (∀ Z, S Z -> FR Z H x v) -> FR (fun b => ∀ Z, S Z -> Z b) H x v := by
 induction h0 with
 | v hp h1 => exact fun _ => .v hp h1
 | nil h0 hs => exact fun _ => .nil h0 hs
 | @l el n cs b o sp c vs hz hb hn hs hl hc ih =>
   intro S hS;by_cases he : cs = [] ∧ n = 0
   ·obtain ⟨rfl, rfl⟩ := he;exact .nil (fun h => by cases h) (fun x h => by cases h; exact hs)
   ·refine .l (fun Z hZ => ?_) hb hn hs hl fun i x v h1 h2 => ih i x v h1 h2 fun Z hZ => ?_
    ·cases hS Z hZ with
     | nil => exact absurd ⟨rfl, rfl⟩ he
     | l hz => exact hz
    ·cases hS Z hZ with
     | nil => simp at h1
     | l _ _ _ _ hl' hc' =>
       rw [hl] at hl'; cases hl';exact hc' i x v h1 h2
theorem VR.inter {Z0 : Nat -> Prop} {x : PV} {v : Value} (h0 : VR P Z0 H (fun _ => none) x v) : ∀ {S : (Nat -> Prop) -> Prop}, (∀ Z, S Z -> VR P Z H (fun _ => none) x v) -> VR P (fun b => ∀ Z, S Z -> Z b) H (fun _ => none) x v := by
 induction h0 with
 | f h => exact fun hS => .f (h.inter fun Z hZ => by cases hS Z hZ with | f h => exact h)
 | agg hl hc ih => exact fun hS => .agg hl fun i x v h1 h2 => ih i x v h1 h2 fun Z hZ => by cases hS Z hZ with | agg _ hc' => exact hc' i x v h1 h2
 | tup hl hc ih => exact fun hS => .tup hl fun i x v h1 h2 => ih i x v h1 h2 fun Z hZ => by cases hS Z hZ with | tup _ hc' => exact hc' i x v h1 h2
 | own h1 h => exact fun _ => .own h1 fun b ob hM => by cases hM
 | ref h1 h => exact fun _ => .ref h1 fun b ob hM => by cases hM
 | mp h1 h => exact fun _ => .mp h1 fun b ob hM => by cases hM
 | @lp cs off b o vs hz hb hl hc =>
   intro S hS
   have key : ∀ Z, S Z -> ∃ b' o' vs', b' = b ∧ o' = o ∧ Z b' ∧ H.loads b' o' cs.length = some vs' ∧ ∀ (i : Nat) x v, cs[i]? = some x -> vs'[i]? = some v -> FR Z H x v := fun Z hZ => by
    generalize hq : (Value.pointer (some ⟨b, o + off, none⟩)) = q at hS;have h := hS Z hZ
    cases h with
    | lp hz' hb' hl' hc' =>
      simp only [Value.pointer.injEq, zQV, Addr.mk.injEq, and_true] at hq;obtain ⟨rfl, hq⟩ := hq;exact ⟨_, _, _, rfl, by omega, hz', hl', hc'⟩
   refine .lp (fun Z hZ => ?_) hb hl fun i x v h1 h2 => (hc i x v h1 h2).inter fun Z hZ => ?_
   ·obtain ⟨b', o', vs', rfl, rfl, q, _⟩ := key Z hZ; exact q
   ·obtain ⟨b', o', vs', rfl, rfl, _, q2, q3⟩ := key Z hZ;rw [hl] at q2; cases q2;exact q3 i x v h1 h2
 | fn hf hc hfc hcc i1 i2 => exact fun hS => .fn hf hc (fun i x v h1 h2 => i1 i x v h1 h2 fun Z hZ => by cases hS Z hZ with | fn _ _ q _ => exact q i x v h1 h2) (fun i x v h1 h2 => i2 i x v h1 h2 fun Z hZ => by cases hS Z hZ with | fn _ _ _ q => exact q i x v h1 h2)
 | yl => exact fun _ => .yl
 | unk => exact fun _ => .unk
def q9N (P : Program) (H : IH) (xs : List PV) (vs : List Value) : Nat -> Prop := fun b => ∀ Z, VRL P Z H (fun _ => none) xs vs -> Z b
theorem q8O (h : VRL P Z H (fun _ => none) xs vs) : VRL P (q9N P H xs vs) H (fun _ => none) xs vs :=
 ⟨h.len, fun i x v h1 h2 => (h.val i x v h1 h2).inter (S := fun Z => VRL P Z H (fun _ => none) xs vs) fun Z hZ => hZ.val i x v h1 h2⟩
theorem qW9 (h : VRL P Z H (fun _ => none) xs vs) {b : Nat} (hb : q9N P H xs vs b) : Z b := hb Z h
noncomputable def q4H (P : Program) (env : List PV) (ph : PHp) : ResultVar -> Option PV
 | .tmp t => some ((zM env t).getD .unk)
 | .cell a t => dS P t ((zM env a).getD .unk) ph
noncomputable def qHT (P : Program) (env : List PV) (ph : PHp) : List ResultVar -> Option (List PV)
 | [] => some []
 | r :: l => match q4H P env ph r with
   | some v => (match qHT P env ph l with
     | some vs => some (v :: vs)
     | none => none)
   | none => none
def qDN : List PV -> PV
 | [v] => v
 | vs => .tup vs
noncomputable def gQ (P : Program) (fn : Func) (env : List PV) (ph : PHp) : Option PV := (qHT P env ph fn.results.toList).map fun xs => qDN (rtL (rt1 P) fn.resultTypes.toList xs)
theorem q39 {r : ResultVar} (hp : Hp P Z H (own m ph)) (he : VRL P Z H (own m ph) env zIC) (h : q4H P env ph r = some x) : ∃ v, q2D P zIC H r = some v ∧ VR P Z H (own m ph) x v := by
 cases r with
 | tmp t => cases h; exact ⟨_, rfl, qK he (.tmp t)⟩
 | cell a t => exact qPO hp (qK he (.tmp a)) h
theorem qQV {m : Nat -> Nat} {ph : PHp} {env : List PV} {zIC : Env} (hp : Hp P Z H (own m ph)) (he : VRL P Z H (own m ph) env zIC) : ∀ {l : List ResultVar} {xs : List PV}, qHT P env ph l = some xs -> ∃ vs, qNJ P zIC H l = some vs ∧ VRL P Z H (own m ph) xs vs
 | [], xs, h => by cases h; exact ⟨[], rfl, .nil⟩
 | r :: l, xs, h => by
   unfold qHT at h;split at h
   ·rename_i x hx;split at h
    ·rename_i xs' hxs;cases h;obtain ⟨v, h1, h2⟩ := q39 hp he hx;obtain ⟨vs, h3, h4⟩ := qQV hp he hxs;exact ⟨v :: vs, by unfold qNJ; rw [h1, h3], .cons h2 h4⟩
    ·cases h
   ·cases h
theorem qCV {fn : Func} (hp : Hp P Z H (own m ph)) (he : VRL P Z H (own m ph) env zIC) (h : gQ P fn env ph = some x) : ∃ v, yR P fn zIC H = some v ∧ VR P Z H (own m ph) x v := by
 unfold gQ at h;obtain ⟨xs, h1, rfl⟩ := zQY.1 h;obtain ⟨vs, h2, h3⟩ := qQV hp he h1
 replace h3 := qEZ (f := rt1 P) (ts := fn.resultTypes.toList) (fun t x v h => qD6 h) h3
 revert h3
 generalize rtL (rt1 P) fn.resultTypes.toList xs = xs;intro h3;refine ⟨one vs, by unfold yR; rw [h2]; rfl, ?_⟩
 match xs, h3 with
 | [], h3 => rw [h3.zIG]; exact VRL.zKD (vs := #[]) .nil
 | [x], h3 =>
   obtain ⟨v, vs', rfl, a, b⟩ := h3.zIF;rw [b.zIG]; exact a
 | x :: y :: l, h3 =>
   obtain ⟨v, vs', rfl, a, b⟩ := h3.zIF;obtain ⟨v2, vs2, rfl, a2, b2⟩ := b.zIF;exact VRL.zKD (vs := (v :: v2 :: vs2).toArray) (by simpa using VRL.cons a (VRL.cons a2 b2))
noncomputable def fzR (P : Program) (ph : PHp) : PV -> Option PV
 | .tup xs => (match fzA P xs ph with
   | some (ys, _) => some (.tup ys)
   | none => none)
 | x => (match fzP P ph x with
   | some (y, _) => some y
   | none => none)
theorem zBP (hp : Hp P Z H (own m ph)) (hx : VR P Z H (own m ph) x v) (h : fzR P ph x = some y) : ∃ Z' ph', Fz P Z H m ph Z' ph' ∧ VR P Z' H (fun _ => none) y v := by
 unfold fzR at h;split at h
 ·split at h
  ·rename_i ys ph' hf;cases h;obtain ⟨vs, rfl, hr⟩ := hx.zLY;obtain ⟨Z', h1, h2⟩ := qQM hp hr hf;exact ⟨Z', ph', h1, h2.zKD⟩
  ·cases h
 ·split at h
  ·rename_i y' ph' hf;cases h;obtain ⟨Z', h1, h2⟩ := qJK hp hx hf;exact ⟨Z', ph', h1, h2⟩
  ·cases h
structure PEn (α : Type) where
 p : α -> PV
 inj : ∀ x y, p x = p y -> x = y
 uniq : ∀ (P : Program) (Z Z' : Nat -> Prop) (H : IH) (x y : α) (v : Value), VR P Z H (fun _ => none) (p x) v -> VR P Z' H (fun _ => none) (p y) v -> x = y
structure AEn (α : Type) where
 p : α -> List PV
 inj : ∀ x y, p x = p y -> x = y
 uniq : ∀ (P : Program) (Z Z' : Nat -> Prop) (H : IH) (x y : α) (vs : List Value), VRL P Z H (fun _ => none) (p x) vs -> VRL P Z' H (fun _ => none) (p y) vs -> x = y
open Classical in
noncomputable def ofF {α β : Type} (a : AEn α) (F : α -> Option β) (r : β -> PV) (xs : List PV) : Option PV :=
 if h : ∃ x, xs = a.p x then (F (Classical.choose h)).map r else none
theorem zCE {α β : Type} {a : AEn α} {F : α -> Option β} {r : β -> PV} (x : α) : ofF a F r (a.p x) = (F x).map r := by
 have h : ∃ y, a.p x = a.p y := ⟨x, rfl⟩
 unfold ofF;rw [dif_pos h];rw [<- a.inj _ _ (Classical.choose_spec h)]
theorem q9A {α β : Type} {a : AEn α} {F : α -> Option β} {r : β -> PV} (h : ofF a F r xs = some y) : ∃ x z, xs = a.p x ∧ F x = some z ∧ y = r z := by
 unfold ofF at h;split at h
 ·rename_i he;obtain ⟨z, h1, h2⟩ := zQY.1 h;exact ⟨_, z, Classical.choose_spec he, h1, h2.symm⟩
 ·cases h
def zDM (tab : fM) (g : FuncId) (F : List PV -> Option PV) : fM := fun x xs => cond (Nat.beq x g) (F xs) (tab x xs)
def zAR {α β : Type} (P : Program) (a : AEn α) (F : α -> Option β) (x : α) (args : List Value) (H : IH) : Prop := (∃ Z : Nat -> Prop, VRL P Z H (fun _ => none) (a.p x) args ∧ ∀ b, Z b -> b < H.size) ∧ H.base <= H.size ∧ GlH H ∧ ∃ y, F x = some y
def q7D {α β : Type} (P : Program) (a : AEn α) (F : α -> Option β) (r : β -> PV) (x : α) (args : List Value) (H : IH) (v : Value) (H' : IH) : Prop := Old H H' ∧ ∃ y, F x = some y ∧ ∃ Z' : Nat -> Prop, (∀ b, Z' b -> b < H'.size) ∧ (∀ b, Z' b -> b < H.size -> q9N P H (a.p x) args b ∨ zAI b) ∧ VR P Z' H' (fun _ => none) (r y) v
def zGM {α β : Type} (P : Program) (G : Nat -> Bool) (g : FuncId) (nm : Nm) (a : AEn α) (F : α -> Option β) (r : β -> PV) : Prop :=
 ∃ fn c, P.funcs[g]? = some fn ∧ fn.body = some c ∧ ∀ x y, F x = some y -> ∃ N, fn.ntmps = N ∧ Runs P G false nm c (a.p x ++ List.replicate (N - (a.p x).length) .unk) [] fun e env ph => (e = .normal ∨ e = .ret) ∧ ∃ r0, gQ P fn env ph = some r0 ∧ fzR P ph r0 = some (r y)
theorem zI6.zLZ {α β : Type} (s : zI6 P good nat G tab) (a : AEn α) (F : α -> Option β) (r : β -> PV) (hent : enters P g = true) (hfr : ∀ y, q9C (r y) = true)
 (h : ∀ (x : α) (y : β) (args : List Value) (H : IH), F x = some y -> (∃ Z : Nat -> Prop, VRL P Z H (fun _ => none) (a.p x) args ∧ ∀ b, Z b -> b < H.size) -> H.base <= H.size -> GlH H -> qAC P G g args H fun q => q7D P a F r x args H q.1 q.2) :
 zI6 P good (zJ2 nat g (fun (x : α × List Value) args H => x.2 = args ∧ zAR P a F x.1 args H) (fun x H v H' => q7D P a F r x.1 x.2 H v H')) G (zDM tab g (ofF a F r)) := by
 have uniq : ∀ (x y : α × List Value) (args : List Value) (H : IH), (x.2 = args ∧ zAR P a F x.1 args H) -> (y.2 = args ∧ zAR P a F y.1 args H) -> x = y := by
  rintro ⟨x, as⟩ ⟨y, bs⟩ args H ⟨e1, ⟨Z1, h1, _⟩, _⟩ ⟨e2, ⟨Z2, h2, _⟩, _⟩;simp only at e1 e2 h1 h2;subst e1 e2;rw [a.uniq P Z1 Z2 H x y _ h1 h2]
 refine ⟨s.s.zJ2 _ _ ?_, ?_⟩
 ·rintro ⟨x, as⟩ args H ⟨e1, ⟨Z0, h0, hz0⟩, hb, hgl, y, hy⟩;simp only at e1 h0 hy;subst e1;exact h x y as H hy ⟨Z0, h0, hz0⟩ hb hgl
 ·intro g' zJ7 r' ht;unfold zDM at ht
  cases hg : Nat.beq g' g with
  | false =>
    rw [hg] at ht;obtain ⟨t1, t2, k, t3, t4⟩ := s.t g' zJ7 r' ht;refine ⟨t1, t2, k, ?_, t4⟩;unfold zJ2; rw [hg]; exact t3
  | true =>
    rw [hg] at ht;have hg' : g' = g := zQN hg;subst hg';obtain ⟨x, y, rfl, hF, rfl⟩ := q9A ht;refine ⟨hent, hfr y, _, by unfold zJ2; rw [hg]; rfl, ?_⟩;intro Z H args hv hz hb hgl Q hQ
    have hpre : (fun (x : α × List Value) args H => x.2 = args ∧ zAR P a F x.1 args H) (x, args) args H := ⟨rfl, ⟨Z, hv, hz⟩, hb, hgl.h hz, y, hF⟩
    rw [zA0 uniq hpre];rintro ⟨v, H'⟩ ⟨o1, y', hy', Z', o2, o3, o4⟩;simp only at hy' o4;rw [hF] at hy'; cases hy';refine hQ v H' (fun b => Z b ∨ Z' b) o1 (fun b h => .inl h) ?_ ?_ ?_
    ·rintro b (h | h)
     ·exact zQZ (hz b h) o1.size
     ·exact o2 b h
    ·rintro b (h | h) hlt
     ·exact h
     ·rcases o3 b h hlt with q | ⟨o, q⟩
      ·exact qW9 hv q
      ·exact (hgl b o q).1
    ·exact o4.mono (p := fun _ => false) (fun _ h => .inr h) (zQO _) (fun _ _ _ => rfl) (.refl _ _) fun j hj => by cases hj
theorem zI6.add {α β : Type} (s : zI6 P good nat G tab) {nm : Nm} (a : AEn α) (F : α -> Option β) (r : β -> PV) (hent : enters P g = true) (hfr : ∀ y, q9C (r y) = true) (h : zGM P G g nm a F r) :
 zI6 P good (zJ2 nat g (fun (x : α × List Value) args H => x.2 = args ∧ zAR P a F x.1 args H) (fun x H v H' => q7D P a F r x.1 x.2 H v H')) G (zDM tab g (ofF a F r)) :=
 s.zLZ a F r hent hfr fun x y as H hy ⟨Z0, h0, hz0⟩ hb hgl => by
  obtain ⟨fn, c, q1, q2, q3⟩ := h;obtain ⟨N, hN, hrun⟩ := q3 x y hy;have hf := (q8O h0).mono (p := fun _ => false) (Z' := fun b => q9N P H (a.p x) as b ∨ zAI b) (fun _ h => .inl h) (zQO _) (fun _ _ _ => rfl) (.refl _ _) (fun j hj => by cases hj)
  have zPI : ∀ b, q9N P H (a.p x) as b ∨ zAI b -> b < H.size := fun b hb => by
   rcases hb with hb | ⟨o, hb⟩
   ·exact hz0 b (qW9 h0 hb)
   ·exact (hgl b o hb).1
  refine qAC.of q1 q2 hN ?_
  have hp0 : Hp P (fun b => q9N P H (a.p x) as b ∨ zAI b) H (own (fun _ => 0) []) := ⟨zPI, fun k b ob hk => (by cases hk), fun k k' b b' ob ob' hk => (by cases hk), fun g o hg => ⟨.inr ⟨o, hg⟩, (hgl g o hg).2⟩⟩
  have e0 : own (fun _ => 0) [] = fun _ => none := rfl
  have hlen := h0.len
  have zII : VRL P (fun b => q9N P H (a.p x) as b ∨ zAI b) H (own (fun _ => 0) []) (a.p x ++ List.replicate (N - (a.p x).length) .unk) (as ++ List.replicate (N - as.length) undef) := by
   rw [hlen];refine VRL.append hf ⟨by simp, fun i z v h1 h2 => ?_⟩;rw [zUQ] at h1;split at h1
   ·cases h1; exact .unk
   ·cases h1
  refine (hrun _ H _ _ hp0 hb zII).mono ?_;rintro o ⟨Z', m', env', ph', a1, b1, c1, d1, he, r0, hr0, hfz⟩;refine ⟨he, ?_⟩;obtain ⟨v, v1, v2⟩ := qCV a1 b1 hr0;obtain ⟨Z2, ph2, w1, w2⟩ := zBP a1 v2 hfz;have noO : ∀ b, ¬ qT7 (own (fun _ => 0) []) b := fun b ⟨k, ob, hk, _⟩ => by cases hk
  refine ⟨v, v1, ⟨c1.size, c1.base, fun b hb => c1.keep b hb (noO b)⟩, y, hy, Z2, w1.hp.zlt, fun b hb hlt => ?_, w2⟩;rcases w1.zJL b hb with h | h
  ·rcases c1.zJL b h hlt with h | h
   ·exact h
   ·exact absurd h (noO b)
  ·exact absurd (c1.onew b h hlt) (noO b)
end Go.Idl
namespace Go.Idl
variable [Gc]
variable {P : Program} {G : Nat -> Bool} {nat : xG} {tab : fM} {inl : FuncId -> Bool} {nm : Nm} {good : FuncId -> Bool} {Z : Nat -> Prop} {H : IH} {M : Nat -> Option (Nat × PO)}
variable {args : List PV} {c : Int} {ph' : PHp} {v : Value} {w : Bool} {ws : List Value} {xs : List FV}
theorem q0U {x : Value} (h : FR Z H (.v x) v) : v = x := by cases h; rfl
theorem FRL.zIF {x : FV} (h : FRL Z H (x :: xs) ws) : ∃ v vs, ws = v :: vs ∧ FR Z H x v ∧ FRL Z H xs vs := by
 cases ws with
 | nil => have := h.len; simp at this
 | cons v vs => exact ⟨v, vs, rfl, h.val 0 x v rfl rfl, by have := h.len; simpa using this, fun i y u h1 h2 => h.val (i + 1) y u (by simpa using h1) (by simpa using h2)⟩
theorem FRL.split {ys : List FV} (h : FRL Z H (xs ++ ys) ws) : FRL Z H xs (ws.take xs.length) ∧ FRL Z H ys (ws.drop xs.length) := by
 have hl := h.len;rw [zQ8] at hl;refine ⟨⟨by simp; omega, fun i x v h1 h2 => ?_⟩, ⟨by simp; omega, fun i x v h1 h2 => ?_⟩⟩
 ·have hi := (zQQ.1 h1).1;rw [zRZ, if_pos hi] at h2;exact h.val i x v (by rw [zSA hi]; exact h1) h2
 ·rw [zSH] at h2;exact h.val (xs.length + i) x v (by rw [zR6 (by omega)]; simpa using h1) h2
theorem qJZ {el n n' : Nat} {cs cs' : List FV} {Z' : Nat -> Prop} (a : FR Z H (.l el n cs) v) (b : FR Z' H (.l el n' cs') v) : n = n' ∧ ∃ vs vs', FRL Z H cs vs ∧ FRL Z' H cs' vs' ∧ (cs.length = cs'.length -> vs = vs') := by
 cases a with
 | nil h0 hs =>
   cases b with
   | nil => exact ⟨rfl, [], [], ⟨rfl, fun i x v h => by simp at h⟩, ⟨rfl, fun i x v h => by simp at h⟩, fun _ => rfl⟩
   | l hz hb hn hs' hl hc => exact ⟨rfl, [], _, ⟨rfl, fun i x v h => by simp at h⟩, ⟨(kC hl).symm, hc⟩, fun e => by
      have := kC hl;rw [<- e] at this
      exact (zSE.1 this).symm⟩
 | l hz hb hn hs hl hc =>
   cases b with
   | nil => exact ⟨rfl, _, [], ⟨(kC hl).symm, hc⟩, ⟨rfl, fun i x v h => by simp at h⟩, fun e => by
      have := kC hl;rw [e] at this
      exact zSE.1 this⟩
   | l hz' hb' hn' hs' hl' hc' => exact ⟨rfl, _, _, ⟨(kC hl).symm, hc⟩, ⟨(kC hl').symm, hc'⟩, fun e => by
      rw [e] at hl;rw [hl] at hl'
      exact zSJ hl'⟩
theorem zBK : ∀ (l m : List FV), l.map PV.f = m.map PV.f -> l = m
 | [], [], _ => rfl
 | [], y :: m, h => by cases h
 | x :: l, [], h => by cases h
 | x :: l, y :: m, h => by
   simp only [zQ0, zRP, PV.f.injEq] at h;rw [h.1, zBK l m h.2]
theorem qMN {vs : List Value} (h : VRL P Z H M (xs.map .f) vs) : FRL Z H xs vs := ⟨by simpa using h.len, fun i x v h1 h2 => by
 have := h.val i (.f x) v (by simp [h1]) h2
 cases this with
 | f h => exact h⟩
section
variable {ds : List (Option Tmp)} {o : Oper} {l : List Oper} {env : List PV} {ph : PHp}
noncomputable def qSG (P : Program) (tab : fM) (inl : FuncId -> Bool) (nm : Nm) (ds : List (Option Tmp)) (o : Oper) (l : List Oper) (env : List PV) (ph : PHp) : PE -> PT
 | .fail => .fail
 | .ok v ph' => q8A (needs o.op) (zL nm o.dst) nm env ph (pops P tab inl nm ds l (yN env o.dst v) ph')
 | .call g args ph' => .call (qWI nm g) g args ph' fun v ph2 => .chk (clean (qWI nm g).p env ph2) (pops P tab inl nm ds l (yN env o.dst v) ph2)
 | .rnd x args ph' => .rnd x args ph' fun v ph2 => pops P tab inl nm ds l (yN env o.dst v) ph2
noncomputable def pgo (P : Program) (tab : fM) (inl : FuncId -> Bool) (nm : Nm) (ds : List (Option Tmp)) (o : Oper) (l : List Oper) (env : List PV) (ph : PHp) (c : Option Bool) : PT :=
 vX c (qSG P tab inl nm ds o l env ph (gV P tab inl (zL nm o.dst) o env ph)) (pops P tab inl nm ds l (yN env o.dst (.tup [])) ph) .fail
theorem qXY : pops P tab inl nm ds (o :: l) env ph = pgo P tab inl nm ds o l env ph (fK ds o env) := by
 unfold pops pgo qSG;cases gV P tab inl (zL nm o.dst) o env ph <;> rfl
theorem q2B : pgo P tab inl nm ds o l env ph (some true) = qSG P tab inl nm ds o l env ph (gV P tab inl (zL nm o.dst) o env ph) := Eq.trans rfl rfl
theorem qYY : pgo P tab inl nm ds o l env ph (some false) = pops P tab inl nm ds l (yN env o.dst (.tup [])) ph := Eq.trans rfl rfl
theorem qPT {v : PV} : qSG P tab inl nm ds o l env ph (.ok v ph') = q8A (needs o.op) (zL nm o.dst) nm env ph (pops P tab inl nm ds l (yN env o.dst v) ph') := Eq.trans rfl rfl
theorem qSY {g : FuncId} : qSG P tab inl nm ds o l env ph (.call g args ph') = .call (qWI nm g) g args ph' fun v ph2 => .chk (clean (qWI nm g).p env ph2) (pops P tab inl nm ds l (yN env o.dst v) ph2) := Eq.trans rfl rfl
theorem qVX {x : Nat} : qSG P tab inl nm ds o l env ph (.rnd x args ph') = .rnd x args ph' fun v ph2 => pops P tab inl nm ds l (yN env o.dst v) ph2 := Eq.trans rfl rfl
noncomputable def qQG (w : Bool) : Option PV -> Option Bool
 | some v => qRI w v
 | none => none
theorem qOV {t : Tmp} : qQ4 w env (some t) = qQG w (zM env t) := by
 show (match zM env t with | some v => qRI w v | none => none) = qQG w (zM env t);cases zM env t <;> rfl
theorem qB3 {b : Bool} : qQG w (some (fvv (.bool b))) = some (b == w) := rfl
theorem qT5 : qQG w (some (.tup [])) = some false := rfl
theorem qTP {t : Tmp} {v : PV} : yN env (some t) v = yQ env t v := rfl
theorem nG (n : Nat) : Nat.beq n n = true := by simp
end
section
variable {t t2 : TypeId} {k : IntKind} {a b : Int} {ph : PHp}
theorem bF {op : BinOp} (h : dZ op k a b = some v) (hv : ofC v = fvv v) : bJ P op t t2 (fvv (.int k a)) (fvv (.int k b)) ph = some (fvv v) := by
 rw [<- hv];unfold bJ;simp only [fvv, pl, zDG, cond_false];rw [q8V h]; rfl
theorem zB7 : bJ P .lss t t2 (fvv (.int k a)) (fvv (.int k b)) ph = some (fvv (.bool (decide (a < b)))) := bF rfl rfl
theorem zC4 : bJ P .leq t t2 (fvv (.int k a)) (fvv (.int k b)) ph = some (fvv (.bool (decide (a <= b)))) := bF rfl rfl
theorem zC6 : bJ P .gtr t t2 (fvv (.int k a)) (fvv (.int k b)) ph = some (fvv (.bool (decide (b < a)))) := bF rfl rfl
theorem zA5 : bJ P .geq t t2 (fvv (.int k a)) (fvv (.int k b)) ph = some (fvv (.bool (decide (b <= a)))) := bF rfl rfl
theorem zDA : bJ P .eql t t2 (fvv (.int k a)) (fvv (.int k b)) ph = some (fvv (.bool (a == b))) := bF rfl rfl
theorem zC7 : bJ P .neq t t2 (fvv (.int k a)) (fvv (.int k b)) ph = some (fvv (.bool (a != b))) := bF rfl rfl
theorem zBJ : bJ P .add t t2 (fvv (.int k a)) (fvv (.int k b)) ph = some (fvv (.int k (k.wrap (a + b)))) := bF rfl rfl
theorem zBN : bJ P .sub t t2 (fvv (.int k a)) (fvv (.int k b)) ph = some (fvv (.int k (k.wrap (a - b)))) := bF rfl rfl
theorem zDF : bJ P .mul t t2 (fvv (.int k a)) (fvv (.int k b)) ph = some (fvv (.int k (k.wrap (a * b)))) := bF rfl rfl
def qL5 (k : IntKind) (a b : Int) : Option Int := if b = 0 then none else some (k.wrap (a.tdiv b))
def q07 (a b : Int) : Option Int := if b = 0 then none else some (a.tmod b)
theorem zCT (h : qL5 k a b = some c) : bJ P .quo t t2 (fvv (.int k a)) (fvv (.int k b)) ph = some (fvv (.int k c)) := by
 unfold qL5 at h;split at h
 ·cases h
 ·rename_i hb;cases h;exact bF (v := .int k (k.wrap (a.tdiv b))) (by unfold dZ; simp only [if_neg hb]) rfl
theorem zBS (h : q07 a b = some c) : bJ P .rem t t2 (fvv (.int k a)) (fvv (.int k b)) ph = some (fvv (.int k c)) := by
 unfold q07 at h;split at h
 ·cases h
 ·rename_i hb;cases h;exact bF (v := .int k (a.tmod b)) (by unfold dZ; simp only [if_neg hb]) rfl
theorem zAL {x : Bool} : aO P (fun a => .unOp .not t a) (fvv (.bool x)) = some (fvv (.bool !x)) := rfl
end
end Go.Idl
namespace Go.Idl
variable [Gc]
variable {P : Program} {G : Nat -> Bool} {nat : xG} {tab : fM} {nm : Nm}
variable {b kx m v x y : PV} {env env' : List PV} {k l : Nat} {o : Oper} {ob : PO} {ph ph' : PHp} {t : TypeId} {ts : Array TypeId}
def dl1 : PV -> List Nat
 | .own k _ _ _ => [k]
 | .ref k _ _ => [k]
 | .mp k => [k]
 | _ => []
noncomputable def dlO (o : Oper) (env : List PV) : List Nat := o.op.operands.toList.flatMap fun x => dl1 (qN env x)
theorem qC6 {x : Operand} (hx : x ∈ o.op.operands) (hk : k ∈ dl1 (qN env x)) : k ∈ dlO o env := List.mem_flatMap.2 ⟨x, zRY.1 hx, hk⟩
theorem qBC {ps : List (Nat × Operand)} (h : ∀ x ∈ ps.map (·.2), qN env x = qN env' x) : (ps.map fun p => (p.1, qN env p.2)) = ps.map fun p => (p.1, qN env' p.2) :=
 zRT fun p hp => by rw [h p.2 (zQ9.2 ⟨p, hp, rfl⟩)]
theorem qTC (P : Program) {x : Operand} (h : qN env x = qN env' x) (ha : (pl (qN env x)).isSome = true) : (qT2 env).val x = (qT2 env').val x := by
 obtain ⟨a, ha⟩ := zR0.1 ha;rw [dL P ha, dL P (h ▸ ha)]
theorem qKZ {b : Builtin} {args : Array Operand} {ty : TypeId} (h : ∀ x ∈ args, qN env x = qN env' x) :
 vL P b ⟨.builtin b, args, ts⟩ (args.toList.map (qN env)) env ty ph = vL P b ⟨.builtin b, args, ts⟩ (args.toList.map (qN env')) env' ty ph := by
 have e : args.toList.map (qN env) = args.toList.map (qN env') := zRT fun x hx => h x (zRY.2 hx)
 unfold vL;rw [<- e]
 cases hp : plL (args.toList.map (qN env)) with
 | none => rfl
 | some vs =>
   simp only
   have : kW P (cop (.call ⟨.builtin b, args, ts⟩) ty) (qT2 env) H00 = kW P (cop (.call ⟨.builtin b, args, ts⟩) ty) (qT2 env') H00 := by
    refine sS (fun cs b h => by cases h) fun x hx => ?_
    have hx' : x ∈ args := by simpa [Op.operands, Call.operands, cop] using hx
    obtain ⟨a, ha⟩ := qGS hp (qN env x) (zQ9.2 ⟨x, by simpa using hx', rfl⟩);exact qTC P (h x hx') (by rw [ha]; rfl)
   rw [this]
theorem qUA {o : Oper} (h : ∀ x ∈ o.op.operands, qN env x = qN env' x) : qDM P o env k ph = qDM P o env' k ph := by
 obtain ⟨d, op, ty, pos, aft, g⟩ := o;cases op <;> simp only [Op.operands] at h <;> simp only [qDM]
 case move x => rw [h x (by simp)]
 case assign x => rw [h x (by simp)]
 case pick c a b => rw [h c (by simp), h a (by simp), h b (by simp)]
 case box el x => rw [h x (by simp)]
 case build t ps => rw [qBC fun x hx => h x (by simpa using hx)]
 case buildSlice t n ps => rw [qBC fun x hx => h x (by simpa using hx)]
 case load t a => rw [h a (by simp)]
 case store t a x => rw [h a (by simp), h x (by simp)]
 case binOp op t x y t2 => rw [h x (by simp), h y (by simp)]
 case unOp op t x => rw [h x (by simp)]
 case convert s t x => rw [h x (by simp)]
 case makeFunc fn first cap =>
  rw [zRT (l := first.toList) fun x hx => h x (zS5.2 (.inl (zRY.2 hx))), zRT (l := cap.toList) fun x hx => h x (zS5.2 (.inr (zRY.2 hx)))]
 case makeSlice t l c => rw [h l (by simp), h c (by simp)]
 case slice t x lo hi mx =>
  cases mx with
  | some m => rfl
  | none =>
    have e1 : lo.map (qN env) = lo.map (qN env') := by cases lo <;> simp_all
    have e2 : hi.map (qN env) = hi.map (qN env') := by cases hi <;> simp_all
    have e3 : (lo.toList ++ hi.toList).map (qN env) = (lo.toList ++ hi.toList).map (qN env') := by cases lo <;> cases hi <;> simp_all
    have e4 : lo.map (fun a => Operand.const ((pl (qN env a)).getD undef)) = lo.map fun a => Operand.const ((pl (qN env' a)).getD undef) := by cases lo <;> simp_all
    have e5 : hi.map (fun a => Operand.const ((pl (qN env a)).getD undef)) = hi.map fun a => Operand.const ((pl (qN env' a)).getD undef) := by cases hi <;> simp_all
    simp only [h x (by simp), e1, e2, e3, e4, e5]
 case fieldAddr t x i => rw [h x (by simp)]
 case indexAddr t x ix => rw [h x (by simp), h ix (by simp)]
 case index t x ix => rw [h x (by simp), h ix (by simp)]
 case extract t i => rw [h t (by simp)]
 case makeMap t r => cases r <;> rfl
 case lookup t x kx ok => rw [h x (by simp), h kx (by simp)]
 case insert t m kx x => rw [h m (by simp), h kx (by simp), h x (by simp)]
 case mapEntry t m kx => rw [h m (by simp), h kx (by simp)]
 case entryStore t m st x => rw [h m (by simp), h st (by simp), h x (by simp)]
 case range t x => rw [h x (by simp)]
 case call c =>
  obtain ⟨cal, args, ts⟩ := c;simp only [Call.operands] at h;have ha : ∀ x ∈ args, qN env x = qN env' x := fun x hx => h x (by cases cal <;> simp [hx])
  have e : args.toList.map (qN env) = args.toList.map (qN env') := zRT fun x hx => ha x (zRY.2 hx)
  cases cal with
  | builtin b =>
    have hD := qKZ (P := P) (b := b) (ts := ts) (ty := ty) (ph := ph) ha;simp only [u6]
    cases b <;> simp only [e] at hD ⊢ <;> first | rfl | exact hD | skip
    rw [<- e] at hD;rw [<- e]
    cases hl : args.toList.map (qN env) with
    | nil => rfl
    | cons x l =>
      cases l with
      | nil =>
        simp only;rw [hl] at hD;rw [hD]
      | cons => rfl
  | invoke r n => rfl
  | value f => rfl
theorem gX (h : l ≠ k) : qB l ((k, ob) :: ph) = qB l ph := by
 have : (l == k) = false := by simpa using h
 show cond (l == k) (some ob) (qB l ph) = _;rw [this]; rfl
theorem qC8 (h : qKE k ob v ph = some (y, ph')) (hl : l ≠ k) : qB l ph' = qB l ph := by
 obtain ⟨_, rfl⟩ := uJ h;exact gX hl
theorem qFU {r : PO × Nat × List MapEntry} (h : wJ P m ph = some (k, r)) : m = .mp k := by
 unfold wJ at h;split at h
 ·split at h
  ·rename_i ob _
   cases hc : (spec P ob.el && Nat.beq ob.el 1000000001) with
   | false => rw [hc] at h; cases h
   | true =>
     rw [hc] at h;simp only [cond_true] at h;split at h
     ·cases h; rfl
     ·cases h
  ·cases h
 ·cases h
theorem qI0 (h : l ≠ k) : qB l (xN k ob ph) = qB l ph := by rw [zZ, if_neg (fun e => h e.1)]
theorem qKX (h : jJ P t m kx x ph = some ph') (hl : l ∉ dl1 m) : qB l ph' = qB l ph := by
 unfold jJ at h;split at h
 case h_2 => cases h
 rename_i kt et k ob c es kv xv hu hm hkv hxv;have e := qFU hm;subst e;have hne : l ≠ k := fun e => hl (by rw [e]; simp [dl1])
 cases hc : qY xv with
 | false => rw [hc] at h; cases h
 | true =>
   rw [hc] at h;simp only [cond_true] at h;split at h
   ·split at h
    ·rename_i e _
     cases hs : Instr.sameBits 10000 e.key kv with
     | false => rw [hs] at h; cases h
     | true => rw [hs] at h; cases h; exact qI0 hne
    ·cases h
   ·cases h; exact qI0 hne
   ·cases h
theorem qNH (h : kD P t m kx ph = some (y, ph')) (hl : l ∉ dl1 m) : qB l ph' = qB l ph := by
 unfold kD at h;split at h
 case h_2 => cases h
 rename_i kt et k ob c es kv hu hm hkv;have e := qFU hm;subst e;have hne : l ≠ k := fun e => hl (by rw [e]; simp [dl1])
 split at h
 ·split at h
  ·rename_i e _;have h := (kE h).2;cases h; exact qI0 hne
  ·cases h
 ·split at h
  ·rename_i z _;have h := (kE h).2;cases h; exact qI0 hne
  ·cases h
 ·cases h
theorem qD2 (h : kD P t m kx ph = some (y, ph')) : kI P t m kx false ph' = kI P t m kx false ph := by
 unfold kD at h;split at h
 case h_2 => cases h
 rename_i kt et k ob c es kv hu hm hkv;have e := qFU hm;subst e
 have hob : qB k ph = some ob ∧ (spec P ob.el && Nat.beq ob.el 1000000001) = true := by
  unfold wJ at hm;simp only at hm;split at hm
  ·rename_i ob' ho;obtain ⟨c1, h2⟩ := kE hm;split at h2
   ·cases h2; exact ⟨ho, c1⟩
   ·cases h2
  ·cases hm
 have hm' : ∀ c' es', wJ P (.mp k) (xN k { ob with cs := kQ c' es' } ph) = some (k, { ob with cs := kQ c' es' }, c', es') := fun c' es' => by
  unfold wJ;simp only [zZ, hob.1, zT0, and_self, if_true, hob.2, cond_true, qGA]
 split at h
 ·rename_i i hi;split at h
  ·rename_i e he;obtain ⟨hc, h⟩ := kE h;rw [zQM] at hc;cases h;unfold kI;simp only [hu, hm', hm, hkv, qU0 hc.2, hi, zU5, he, if_true];rfl
  ·cases h
 ·rename_i hi;split at h
  ·rename_i z hz;obtain ⟨hc, h⟩ := kE h;rw [zQM] at hc;cases h;unfold kI;simp only [hu, hm', hm, hkv, qU0 hc.2, hi, hz, hc.1, cond_true];simp [q3X]
  ·cases h
 ·cases h
theorem qGE {st : PV} (h : kN P m st x ph = some ph') (hl : l ∉ dl1 m) : qB l ph' = qB l ph := by
 unfold kN at h;split at h
 case h_2 => cases h
 rename_i k ob c es ki born xv hm hst hxv;have e := qFU hm;subst e;have hne : l ≠ k := fun e => hl (by rw [e]; simp [dl1])
 cases hc : qY xv with
 | false => rw [hc] at h; cases h
 | true =>
   rw [hc] at h;simp only [cond_true] at h;split at h
   ·cases h; exact qI0 hne
   ·cases h
theorem zCJ (h : qDM P o env k ph = some (v, ph')) (hk : l ≠ k) (hd : l ∉ dlO o env) : qB l ph' = qB l ph := by
 obtain ⟨d, op, ty, pos, aft, g⟩ := o;have one : ∀ {r : Option PV}, pp1 ph r = some (v, ph') -> qB l ph' = qB l ph := fun h => by rw [(yA h).2]
 have nin : ∀ x ∈ op.operands, l ∉ dl1 (qN env x) := fun x hx hl => hd (qC6 (o := ⟨d, op, ty, pos, aft, g⟩) hx hl)
 cases op <;> simp only [qDM] at h <;> (try (cases h; done)) <;> (try (exact one h))
 case move => cases h; rfl
 case assign => cases h; rfl
 case pick => split at h <;> cases h; rfl
 case alloc el =>
  unfold qEU at h;split at h
  ·exact qC8 (uX h).2 hk
  ·cases h
 case box el x =>
  unfold q91 at h
  cases hc : (!(spec P el) && (pnt (qN env x) && (zU (qN env x)).all p9)) with
  | true => rw [hc] at h; exact qC8 h hk
  | false => rw [hc] at h; cases h
 case buildSlice t n ps =>
  unfold jT at h;split at h
  ·split at h
   ·rename_i s z _ _
    cases hc : (Nat.beq z.length (s + 1) && Nat.ble (n * (s + 1)) 65536) with
    | true =>
      rw [hc] at h;simp only [cond_true] at h;split at h
      ·exact qC8 h hk
      ·cases h
    | false => rw [hc] at h; cases h
   ·cases h
  ·cases h
 case store t a x =>
  unfold ppS at h;split at h
  ·rename_i ph1 hs;cases h;unfold bB at hs;split at hs
   ·rename_i k' tt off ha;have hne : l ≠ k' := fun e => nin a (by simp [Op.operands]) (by rw [ha, e]; simp [dl1])
    split at hs
    ·split at hs
     ·rename_i ob _ _ n _
      replace hs := (uX hs).2
      cases hc : (Nat.beq tt ob.cs.length && (Nat.beq n (zU (qN env x)).length && (Nat.ble (off + n) ob.cs.length && (pnt (qN env x) && (zU (qN env x)).all p9)))) with
      | true => rw [hc] at hs; cases hs; rw [zZ, if_neg (fun h => hne h.1)]
      | false => rw [hc] at hs; cases hs
     ·cases hs
    ·cases hs
   ·cases hs
  ·cases h
 case convert s t x =>
  cases hc : qTX (qN env x) with
  | true => rw [hc] at h; cases h
  | false => rw [hc] at h; exact one h
 case makeSlice t a b =>
  unfold vU at h;split at h
  ·rename_i el k1 n1 k2 m1 _ _ _
   cases hc : decide (n1 = m1) with
   | false => rw [hc] at h; cases h
   | true =>
     rw [hc] at h;simp only [cond_true] at h;split at h
     ·rename_i n s z _ _ _
      cases hc : (uF P el && Nat.beq z.length (s + 1)) with
      | true => rw [hc] at h; exact qC8 h hk
      | false => rw [hc] at h; cases h
     ·cases h
  ·cases h
 case slice t x lo hi mx =>
  cases mx with
  | some => cases h
  | none =>
    simp only at h;split at h
    ·split at h
     ·exact one h
     ·cases h
    ·exact one h
 case index => split at h <;> exact one h
 case makeMap t r =>
  cases r with
  | some _ => cases h
  | none =>
    unfold dM at h
    cases hc : spec P 1000000001 with
    | false => rw [hc] at h; cases h
    | true => rw [hc] at h; exact qC8 h hk
 case insert t m kx x =>
  unfold ppS at h;split at h
  ·rename_i ph1 hs;cases h;exact qKX hs (nin m (by simp [Op.operands]))
  ·cases h
 case mapEntry t m kx => exact qNH h (nin m (by simp [Op.operands]))
 case entryStore t m st x =>
  unfold ppS at h;split at h
  ·rename_i ph1 hs;cases h;exact qGE hs (nin m (by simp [Op.operands]))
  ·cases h
 case range t x =>
  unfold qEK at h;split at h
  ·split at h
   ·rename_i j ob c es hm
    cases hc : (spec P 1000000002 && !(j == k)) with
    | false => rw [hc] at h; cases h
    | true => rw [hc] at h; exact qC8 h hk
   ·cases h
  ·cases h
 case call c =>
  obtain ⟨cal, args, ts⟩ := c;split at h
  ·rename_i b hb;simp only at hb;subst hb
   have dry : vL P b ⟨.builtin b, args, ts⟩ (args.toList.map (qN env)) env ty ph = some (v, ph') -> qB l ph' = qB l ph := fun h => by
    unfold vL at h;split at h
    ·exact one h
    ·cases h
   have mem : ∀ x, x ∈ args.toList.map (qN env) -> l ∉ dl1 x := fun x hx => by
    obtain ⟨a, ha, rfl⟩ := zQ9.1 hx;exact nin a (by simpa [Op.operands, Call.operands] using ha)
   unfold u6 at h;split at h
   ·split at h
    ·rename_i x y hxy;have hx : l ∉ dl1 x := mem x (by rw [hxy]; simp);unfold gT at h
     have grow : ∀ {el s : Nat} {old : List PV} {n : Nat} {new : List PV} {mm kk : Nat} {php : PHp}, qB8 P el s old n new mm kk php = some (v, ph') -> l ≠ kk -> qB l ph' = qB l php := fun hg hkk => by
      unfold qB8 at hg;rename_i el s old n new mm kk php
      cases hc : (Nat.ble (n + mm) 1048576 && (uF P el && (Nat.beq (old.length) (n * s) && (Nat.beq new.length (mm * s) && new.all p9)))) with
      | true => rw [hc] at hg; exact qC8 hg hkk
      | false => rw [hc] at hg; cases hg
     split at h
     ·split at h
      ·split at h
       ·split at h
        ·rename_i el _ _ _ _ s _ _ mm new _;split at h
         ·cases h0 : Nat.beq mm 0 with
          | true => rw [h0] at h; cases h; rfl
          | false => rw [h0] at h; exact grow h hk
         ·rename_i j tt o n;have hj : l ≠ j := fun e => hx (by rw [e]; simp [dl1])
          split at h
          ·rename_i ob hl
           cases hc : (Nat.beq ob.el el && (Nat.beq (tt * (s + 1)) ob.cs.length && Nat.beq o 0)) with
           | false => rw [hc] at h; cases h
           | true =>
             rw [hc] at h;simp only [cond_true] at h
             cases h0 : Nat.beq mm 0 with
             | true => rw [h0] at h; cases h; rfl
             | false =>
               rw [h0] at h;simp only [cond_false] at h
               cases hr : Nat.ble (n + mm) tt with
               | true =>
                 rw [hr] at h;simp only [cond_true] at h
                 cases hc2 : (Nat.beq new.length (mm * (s + 1)) && new.all p9) with
                 | true => rw [hc2] at h; cases h; rw [zZ, if_neg (fun h => hj h.1)]
                 | false => rw [hc2] at h; cases h
               | false =>
                 rw [hr] at h;simp only [cond_false] at h
                 cases hn : Nat.beq n tt with
                 | false => rw [hn] at h; cases h
                 | true =>
                   rw [hn] at h;simp only [cond_true] at h
                   cases hg : ob.gr with
                   | true => rw [hg] at h; rw [grow h hj, wC, if_neg hj]
                   | false => rw [hg] at h; exact grow h hk
          ·cases h
         ·cases h
        ·cases h
       ·cases h
      ·cases h
     ·cases h
    ·cases h
   ·split at h
    ·cases hc : q0X P ts with
     | true => rw [hc] at h; exact dry h
     | false => rw [hc] at h; exact one h
    ·cases h
   ·exact dry h
   ·exact dry h
   ·cases h
  ·cases h
theorem q8G {a : PV} (h : dS P t a ph = some x) (hd : ∀ l ∈ dl1 a, qB l ph' = qB l ph) : dS P t a ph' = some x := by
 cases a <;> first | exact h | skip
 rename_i k tt off;have := hd k (by simp [dl1]);unfold dS at h ⊢;simp only [this];exact h
theorem q40 {tt : Nat} (h : qB k ph' = qB k ph) : live? k tt ph' = live? k tt ph := by unfold live?; rw [h]
theorem q3N {a : PV} {lo hi : Option PV} (h : wR P t a lo hi ph = some x) (hd : ∀ l ∈ dl1 a, qB l ph' = qB l ph) : wR P t a lo hi ph' = some x := by
 unfold wR at h ⊢;split at h
 ·exact h
 ·exact h
 ·rename_i k tt o n;rw [hd k (by simp [dl1])]; exact h
 ·rename_i k tt;rw [hd k (by simp [dl1])]; exact h
 ·cases h
theorem qJP {a : PV} {i : Nat} (h : zX P t a i ph = some x) (hd : ∀ l ∈ dl1 a, qB l ph' = qB l ph) : zX P t a i ph' = some x := by
 cases a <;> first | exact h | skip
 rename_i k tt off;have := q40 (tt := tt) (hd k (by simp [dl1]));unfold zX at h ⊢;simp only [this];exact h
theorem qIZ {a ix : PV} (h : zA P t a ix ph = some x) (hd : ∀ l ∈ dl1 a, qB l ph' = qB l ph) : zA P t a ix ph' = some x := by
 unfold zA at h ⊢;split at h
 ·split at h
  ·exact h
  ·rename_i k tt o n;rw [hd k (by simp [dl1])]; exact h
  ·rename_i k tt off;rw [q40 (tt := tt) (hd k (by simp [dl1]))]; exact h
  ·exact h
  ·cases h
 ·cases h
theorem zB6 {a : PV} (h : q3M P ts a ph = some x) (hd : ∀ l ∈ dl1 a, qB l ph' = qB l ph) : q3M P ts a ph' = some x := by
 unfold q3M at h ⊢;split at h
 ·split at h
  ·split at h
   ·exact h
   ·exact h
   ·rename_i k tt o n;rw [hd k (by simp [dl1])]; exact h
   ·cases h
  ·exact h
 ·cases h
theorem q86 {a : PV} (h : qDR P ts a ph = some x) (hd : ∀ l ∈ dl1 a, qB l ph' = qB l ph) : qDR P ts a ph' = some x := by
 have e : tY P a ph' = tY P a ph := by
  cases a <;> first | rfl | skip
  rename_i k;unfold tY;simp only [hd k (by simp [dl1])]
 unfold qDR at h ⊢;rw [e];split at h
 ·exact h
 ·exact zB6 h hd
theorem qVD {m : PV} {ok : Bool} (h : kI P t m kx ok ph = some x) (hd : ∀ l ∈ dl1 m, qB l ph' = qB l ph) : kI P t m kx ok ph' = some x := by
 have e : wJ P m ph' = wJ P m ph := by
  cases m <;> first | rfl | skip
  rename_i k;unfold wJ;simp only [hd k (by simp [dl1])]
 unfold kI at h ⊢;rw [e]; exact h
theorem q6K {a : PV} {b : Bool} (h : isNil (P := P) a ph = some b) (hd : ∀ l ∈ dl1 a, qB l ph' = qB l ph) : isNil (P := P) a ph' = some b := by
 unfold isNil at h ⊢;split at h
 ·exact h
 ·exact h
 ·rename_i k tt o n;rw [hd k (by simp [dl1])]; exact h
 ·cases h
theorem q45 {a : PV} {r : Bool} (h : q0T P t a b ph = some r) (hd : ∀ l ∈ dl1 a, qB l ph' = qB l ph) : q0T P t a b ph' = some r := by
 unfold q0T at h ⊢;split at h
 ·cases hc : (y9 P t).isSome with
  | true => rw [hc] at h; exact q6K h hd
  | false => rw [hc] at h; cases h
 ·exact h
 ·cases h
theorem zC8 {op : BinOp} {t2 : TypeId} {a : PV} (h : bJ P op t t2 a b ph = some x) (hd : ∀ l ∈ dl1 a, qB l ph' = qB l ph) : bJ P op t t2 a b ph' = some x := by
 unfold bJ at h ⊢;split at h
 ·exact h
 ·split at h
  ·obtain ⟨r, h1, rfl⟩ := zQY.1 h;rw [q45 h1 hd]; rfl
  ·obtain ⟨r, h1, rfl⟩ := zQY.1 h;rw [q45 h1 hd]; rfl
  ·cases h
theorem zBZ {o : Oper} {env : List PV} {ph1 : PHp} (hf : yO o = false) (ha : qM o = false) (h : qDM P o env k ph = some (v, ph1)) :
 ph1 = ph ∧ ∀ (k' : Nat) (ph' : PHp), (∀ l ∈ dlO o env, qB l ph' = qB l ph) -> qDM P o env k' ph' = some (v, ph') := by
 obtain ⟨d, op, ty, pos, aft, g⟩ := o;have mem : ∀ {x : Operand} {ph' : PHp}, x ∈ op.operands -> (∀ l ∈ dlO ⟨d, op, ty, pos, aft, g⟩ env, qB l ph' = qB l ph) -> ∀ l ∈ dl1 (qN env x), qB l ph' = qB l ph := fun hx hd l hl => hd l (qC6 (o := ⟨d, op, ty, pos, aft, g⟩) hx hl)
 have one : ∀ {f : PHp -> Option PV}, pp1 ph (f ph) = some (v, ph1) -> (∀ {x ph'}, (∀ l ∈ dlO ⟨d, op, ty, pos, aft, g⟩ env, qB l ph' = qB l ph) -> f ph = some x -> f ph' = some x) -> ph1 = ph ∧ ∀ (k' : Nat) (ph' : PHp), (∀ l ∈ dlO ⟨d, op, ty, pos, aft, g⟩ env, qB l ph' = qB l ph) -> pp1 ph' (f ph') = some (v, ph') := fun h hk => by
  obtain ⟨h1, h2⟩ := yA h;exact ⟨h2, fun k' ph' hd => by rw [hk hd h1]; rfl⟩
 have hne : xH ⟨d, op, ty, pos, aft, g⟩ = .pure ∨ xH ⟨d, op, ty, pos, aft, g⟩ = .read := qG9 hf ha
 cases op <;> simp only [qDM] at h ⊢ <;> (try (cases h; done))
 case move => cases h; exact ⟨rfl, fun _ _ _ => rfl⟩
 case assign => cases h; exact ⟨rfl, fun _ _ _ => rfl⟩
 case pick c a b =>
  split at h
  ·rename_i t ht;cases h;refine ⟨rfl, fun _ _ _ => ?_⟩;simp only [ht]
  ·cases h
 case alloc => simp only [xH] at hne; split at hne <;> (rcases hne with h | h <;> cases h)
 case box => rcases hne with h | h <;> cases h
 case buildSlice => rcases hne with h | h <;> cases h
 case store => rcases hne with h | h <;> cases h
 case makeSlice => rcases hne with h | h <;> cases h
 case build t ps =>
  obtain ⟨h1, h2⟩ := yA h;exact ⟨h2, fun k' ph' hd => by rw [h1]; rfl⟩
 case load t a => exact one (f := fun q => dS P t (qN env a) q) h fun hd h => q8G h (mem (by simp [Op.operands]) hd)
 case binOp op t x y t2 => exact one (f := fun q => bJ P op t t2 (qN env x) (qN env y) q) h fun hd h => zC8 h (mem (by simp [Op.operands]) hd)
 case unOp op t x => exact one (f := fun _ => aO P (fun a => .unOp op t a) (qN env x)) h fun _ h => h
 case convert s t x =>
  cases hc : qTX (qN env x) with
  | true => rw [hc] at h; cases h
  | false =>
    rw [hc] at h;simp only [cond_false] at h ⊢;exact one (f := fun _ => aO P (fun a => .convert s t a) (qN env x)) h fun _ h => h
 case makeFunc fn a b => exact one (f := fun _ => j5 fn (a.toList.map (qN env)) (b.toList.map (qN env))) h fun _ h => h
 case slice t x lo hi mx =>
  cases mx with
  | some => cases h
  | none =>
    simp only at h ⊢;split at h
    ·rename_i s hs;split at h
     ·rename_i vs hvs;exact one (f := fun _ => qN9 P (.slice t (.const (.string s)) (lo.map fun a => .const ((pl (qN env a)).getD undef)) (hi.map fun a => .const ((pl (qN env a)).getD undef)) none)) h fun _ h => h
     ·cases h
    ·exact one (f := fun q => wR P t (qN env x) (lo.map (qN env)) (hi.map (qN env)) q) h fun hd h => q3N h (mem (by cases lo <;> cases hi <;> simp [Op.operands]) hd)
 case fieldAddr t x i => exact one (f := fun q => zX P t (qN env x) i q) h fun hd h => qJP h (mem (by simp [Op.operands]) hd)
 case indexAddr t x ix => exact one (f := fun q => zA P t (qN env x) (qN env ix) q) h fun hd h => qIZ h (mem (by simp [Op.operands]) hd)
 case index t x ix =>
  split at h
  ·rename_i s j hs hj;exact one (f := fun _ => qN9 P (.index t (.const (.string s)) (.const j))) h fun _ h => h
  ·exact one (f := fun _ => qE2 P t (qN env x) (qN env ix)) h fun _ h => h
 case extract t i => exact one (f := fun _ => cK (qN env t) i) h fun _ h => h
 case makeMap => rcases hne with h | h <;> cases h
 case lookup t x kx ok => exact one (f := fun q => kI P t (qN env x) (qN env kx) ok q) h fun hd h => qVD h (mem (by simp [Op.operands]) hd)
 case insert => rcases hne with h | h <;> cases h
 case mapEntry => rcases hne with h | h <;> cases h
 case entryStore => rcases hne with h | h <;> cases h
 case range => rcases hne with h | h <;> cases h
 case call c =>
  obtain ⟨cal, args, ts⟩ := c;split at h
  ·rename_i b hb;simp only at hb;subst hb
   have dry : ∀ {b : Builtin}, vL P b ⟨.builtin b, args, ts⟩ (args.toList.map (qN env)) env ty ph = some (v, ph1) -> ph1 = ph ∧ ∀ ph', vL P b ⟨.builtin b, args, ts⟩ (args.toList.map (qN env)) env ty ph' = some (v, ph') := fun h => by
    unfold vL at h ⊢;split at h
    ·obtain ⟨h1, h2⟩ := yA h;exact ⟨h2, fun ph' => by rw [h1]; rfl⟩
    ·cases h
   unfold u6 at h;split at h
   ·rcases hne with h | h <;> cases h
   ·split at h
    ·rename_i x hx
     obtain ⟨a1, ha1, rfl⟩ : ∃ a1, args = #[a1] ∧ x = qN env a1 := by
      cases hq : args.toList with
      | nil => rw [hq] at hx; cases hx
      | cons a l =>
        rw [hq] at hx
        cases l with
        | nil =>
          simp only [zQ0, zTC, zRP, and_true] at hx
          exact ⟨a, by have e9 : args = args.toList.toArray := by simp
                       rw [e9, hq], hx.symm⟩
        | cons => cases hx
     subst ha1
     cases hc : q0X P ts with
     | true =>
       rw [hc] at h;obtain ⟨h1, h2⟩ := dry h;refine ⟨h1, fun k' ph' hd => ?_⟩;unfold u6;simp only [zQ0, zTC, hc, cond_true];exact h2 ph'
     | false =>
       rw [hc] at h;obtain ⟨h1, h2⟩ := yA h;refine ⟨h2, fun k' ph' hd => ?_⟩;unfold u6;simp only [zQ0, zTC, hc, cond_false];rw [q86 h1 (mem (by simp [Op.operands, Call.operands]) hd)]; rfl
    ·cases h
   ·obtain ⟨h1, h2⟩ := dry h;exact ⟨h1, fun k' ph' hd => h2 ph'⟩
   ·obtain ⟨h1, h2⟩ := dry h;exact ⟨h1, fun k' ph' hd => h2 ph'⟩
   ·cases h
  ·cases h
end Go.Idl
