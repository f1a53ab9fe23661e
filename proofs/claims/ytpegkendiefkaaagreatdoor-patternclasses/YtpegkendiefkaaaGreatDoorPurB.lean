/- Runs told by plain values, part two. Conditions: none. -/
import Derived.Test.YtpegkendiefkaaaGreatDoorPur7
set_option linter.all false
namespace Go.Idl
variable [Gc]
variable {P : Program} {Z : Nat -> Prop} {H : IH} {M : Nat -> Option (Nat × PO)} {m : Nat -> Nat} {ph : PHp}
variable {env : List PV} {zHR : Env} {k : Nat} {o : Oper} {ph' : PHp} {y : PV}
theorem yA {o : Option PV} (h : pp1 ph o = some (y, ph')) : o = some y ∧ ph' = ph := by
 unfold pp1 at h;split at h
 ·cases h; exact ⟨rfl, rfl⟩
 ·cases h
theorem VRL.of {env : List PV} {zHR : Env} (he : VRL P Z H M env zHR) : ∀ (l : List Operand), VRL P Z H M (l.map (qN env)) (l.map zHR.val)
 | [] => .nil
 | x :: l => .cons (qK he x) (VRL.of he l)
theorem qHJ (h : yH k env = true) (x : Operand) : noK k (qN env x) = true := by
 cases x with
 | tmp t =>
   show noK k ((zL env t).getD .unk) = true;rw [qF]
   cases he : env[t]? with
   | none => rfl
   | some y => exact vR h he
 | const v =>
   show noK k (ofC v) = true;unfold ofC q7X;split
   ·rename_i cs; cases kV okC cs.toList with
    | true => exact pY k _
    | false => rfl
   ·rename_i cs; cases kV okC cs.toList with
    | true => exact pY k _
    | false => rfl
   ·cases okC v <;> rfl
 | global g => rfl
 | func g => rfl
theorem qP9 {k : Nat} {env : List PV} (h : yH k env = true) : ∀ (l : List (Nat × Operand)), yH k ((l.map fun p => (p.1, qN env p.2)).map (·.2)) = true
 | [] => rfl
 | p :: l => by simp only [zUB, yH, qHJ h, qP9 h l, zU3]
theorem Res.up {p q : Nat -> Bool} {v : PV} {s : Option zHW} (h : Res P Z H m ph p v ph' s) (hq : ∀ j, p j = true -> q j = true) : Res P Z H m ph q v ph' s := by
 obtain ⟨u, H', Z', m', h1, h2, h3, h4, h5⟩ := h
 exact ⟨u, H', Z', m', h1, h2, h3, h4, fun j b ob hM => by
  rcases h5 j b ob hM with h | h | h
  ·exact .inl h
  ·exact .inr (.inl h)
  ·exact .inr (.inr (hq j h))⟩
def nw (o : Op) (k : Nat) : Nat -> Bool := fun j => needs o && (j == k)
theorem q6Y (hp : Hp P Z H (own m ph)) (hb : H.base <= H.size) (he : VRL P Z H (own m ph) env zHR) (hn : needs o.op = true -> yH k env = true ∧ eO k ph = true) (h : qDS P o env k ph = some (y, ph')) :
 Res P Z H m ph (nw o.op k) y ph' (iop P o zHR H) := by
 obtain ⟨d, op, ty, pos, aft, g⟩ := o;have fin : ∀ {x : PV} {s : Option zHW}, (∃ u, s = some (.val u H) ∧ VR P Z H (own m ph) x u) -> Res P Z H m ph (nw op k) x ph s := fun ⟨u, h1, h2⟩ => .same h1 hp h2
 have zKR : ∀ {x : PV} {s : Option Value}, (∃ u, s = some u ∧ VR P Z H (own m ph) x u) -> Res P Z H m ph (nw op k) x ph (zHW.ofO H s) := fun ⟨u, h1, h2⟩ => .same (by rw [h1]; rfl) hp h2
 cases op <;> simp only [qDS] at h <;> (try (cases h; done)) <;> simp only at hn fin zKR
 case move x => cases h; exact fin ⟨_, rfl, qK he x⟩
 case assign x => cases h; exact fin ⟨_, rfl, qK he x⟩
 case pick c a b =>
  split at h
  ·rename_i t ht;cases h;have hc := qK he c;rw [ht] at hc;have hv := yS hc rfl;refine fin ⟨cond t (zHR.val a) (zHR.val b), ?_, ?_⟩
   ·show qOT (zHR.val c) _ _ H = _;rw [hv]; rfl
   ·cases t
    ·exact qK he b
    ·exact qK he a
  ·cases h
 case alloc el =>
  obtain ⟨n1, n2⟩ := hn rfl;exact (qXL hp hb n2 h).up fun j hj => hj
 case box el x =>
  obtain ⟨n1, n2⟩ := hn rfl;exact (q70 hp hb n2 (qK he x) (qHJ n1 x) h).up fun j hj => hj
 case build t ps =>
  obtain ⟨h1, rfl⟩ := yA h;exact zKR (qYN (qW6 he _) h1)
 case buildSlice t len ps =>
  obtain ⟨n1, n2⟩ := hn rfl;exact (qDZ hp hb n2 (qW6 he _) (qP9 n1 _) h).up fun j hj => hj
 case load t a =>
  obtain ⟨h1, rfl⟩ := yA h;exact zKR (qRP hp (qK he a) h1)
 case store t a x =>
  unfold ppS at h;split at h
  ·rename_i ph1 hs;cases h;exact qW8 hp (qK he a) (qK he x) hs
  ·cases h
 case binOp op t x z t2 =>
  obtain ⟨h1, rfl⟩ := yA h;exact fin (q6O (qK he x) (qK he z) h1)
 case unOp op t x =>
  obtain ⟨h1, rfl⟩ := yA h;exact fin (qQN (qK he x) rfl h1)
 case convert s t x =>
  cases hpt : qTO (qN env x) with
  | true => rw [hpt] at h; cases h
  | false =>
  rw [hpt] at h;obtain ⟨h1, rfl⟩ := yA h;have hx := qK he x;obtain ⟨u, h2, h3⟩ := qQN (o := ⟨d, .convert s t x, ty, pos, aft, g⟩) (env := zHR) hx rfl h1;refine fin ⟨u, ?_, h3⟩;show fO P _ s t (zHR.val x) zHR H = _;unfold fO;split
  ·rename_i a ha;exfalso;unfold bH at h1;split at h1
   ·rename_i b hb';have hv := yS hx hb';rw [ha] at hv;subst hv;unfold pl at hb';split at hb'
    ·rename_i x0 hx0;cases hb';rw [hx0] at hpt;cases hpt
    ·split at hb' <;> cases hb'
    ·cases hb'
   ·cases h1
  ·exact h2
 case makeFunc fn first cap =>
  obtain ⟨h1, rfl⟩ := yA h;exact fin (qK8 (by simpa using VRL.of he first.toList) (by simpa using VRL.of he cap.toList) h1)
 case makeSlice t l c =>
  obtain ⟨n1, n2⟩ := hn rfl;exact (qFW hp hb n2 (qK he l) (qK he c) h).up fun j hj => hj
 case slice t x lo hi mx =>
  cases mx with
  | some mx => cases h
  | none =>
    simp only at h;split at h
    ·rename_i s hs;have hx := qK he x;rw [hs] at hx;have hv := yS hx rfl;split at h
     ·rename_i vs hvs;obtain ⟨h1, rfl⟩ := yA h
      have zPM : ∀ (w : Option Operand), (∀ a, w = some a -> a ∈ lo.toList ++ hi.toList) -> (w.map fun a => (Operand.const ((pl (qN env a)).getD undef))).map (Env.val []) = w.map zHR.val := fun w hw => by
       cases w with
       | none => rfl
       | some a =>
         obtain ⟨b, hb'⟩ := qHX hvs (qN env a) (zUN.2 ⟨a, hw a rfl, rfl⟩);simp only [zT7, hb', zWH];rw [yS (qK he a) hb'];rfl
      have hlo := zPM lo (fun a ha => by subst ha; simp);have hhi := zPM hi (fun a ha => by subst ha; simp)
      obtain ⟨u, h2, h3⟩ := qUD (M := own m _) (Z := Z) (H := H) (o := ⟨d, .slice t x lo hi none, ty, pos, aft, g⟩) (env := zHR) (by
       have hex : execOp zHR.val ⟨d, .slice t x lo hi none, ty, pos, aft, g⟩ = execOp (Env.val []) (cop (.slice t (.const (.string s)) (lo.map fun a => .const ((pl (qN env a)).getD undef)) (hi.map fun a => .const ((pl (qN env a)).getD undef)) none)) := by
        show (do let x <- Instr.sliceAt t (zHR.val x) (lo.map zHR.val) (hi.map zHR.val) none; pure (Next.value x)) = (do let x <- Instr.sliceAt t (.string s) ((lo.map fun a => (Operand.const ((pl (qN env a)).getD undef))).map (Env.val [])) ((hi.map fun a => (Operand.const ((pl (qN env a)).getD undef))).map (Env.val [])) none; pure (Next.value x));rw [hlo, hhi, hv]
       have hpl : kS zHR.val (Op.slice t x lo hi none).operands.toList = kS (Env.val []) (cop (.slice t (.const (.string s)) (lo.map fun a => .const ((pl (qN env a)).getD undef)) (hi.map fun a => .const ((pl (qN env a)).getD undef)) none)).op.operands.toList := by
        rw [xG, xG];cases lo <;> cases hi <;> simp_all [Op.operands, cop, Env.val]
       unfold jF;rw [hex]
       simp only [hpl]) h1
      refine fin ⟨u, ?_, h3⟩;show wZ P _ t (zHR.val x) _ _ _ zHR H = _;rw [hv];exact h2
     ·cases h
    ·rename_i v hne;obtain ⟨h1, rfl⟩ := yA h;obtain ⟨u, h2, h3⟩ := qST hp (qK he x) (q83.of he lo) (q83.of he hi) h1;exact fin ⟨u, qNG h2, h3⟩
 case fieldAddr t x i =>
  obtain ⟨h1, rfl⟩ := yA h;exact zKR (qHW (qK he x) h1)
 case indexAddr t x ix =>
  obtain ⟨h1, rfl⟩ := yA h;exact zKR (qF1 hp (qK he x) (qK he ix) h1)
 case index t x ix =>
  split at h
  ·rename_i s j hs hj;obtain ⟨h1, rfl⟩ := yA h;have hx := qK he x;rw [hs] at hx;have hv := yS hx rfl;have hv2 := yS (qK he ix) hj;obtain ⟨u, h2, h3⟩ := qUD (M := own m _) (Z := Z) (H := H) (o := ⟨d, .index t x ix, ty, pos, aft, g⟩) (env := zHR) (by rw [<- hv, <- hv2]; rfl) h1;refine fin ⟨u, ?_, h3⟩;show uE P _ t (zHR.val x) _ zHR H = _;rw [hv];exact h2
  ·obtain ⟨h1, rfl⟩ := yA h;obtain ⟨u, h2, h3⟩ := qX7 (qK he x) (qK he ix) h1;exact fin ⟨u, qM1 h2, h3⟩
 case makeMap t r =>
  obtain ⟨n1, n2⟩ := hn rfl
  cases r with
  | some _ => cases h
  | none => exact (qOS hp hb n2 h).up fun j hj => hj
 case lookup t x kx ok =>
  obtain ⟨h1, rfl⟩ := yA h;exact zKR (qSL hp (qK he x) (qK he kx) h1)
 case insert t mv kx x =>
  unfold ppS at h;split at h
  ·rename_i ph1 hs;cases h;exact qID hp (qK he mv) (qK he kx) (qK he x) hs
  ·cases h
 case mapEntry t mv kx => exact qLE hp (qK he mv) (qK he kx) h
 case entryStore t mv st x =>
  unfold ppS at h;split at h
  ·rename_i ph1 hs;cases h;exact qD5 hp (qK he mv) (qK he st) (qK he x) hs
  ·cases h
 case range t x =>
  obtain ⟨n1, n2⟩ := hn rfl;exact (qZS hp hb n2 (qK he x) h).up fun j hj => hj
 case extract t i =>
  obtain ⟨h1, rfl⟩ := yA h;exact fin (qMX (qK he t) h1)
 case call c =>
  obtain ⟨cal, args, ts⟩ := c;split at h
  ·rename_i b hbq;simp only at hbq;subst hbq;have two : ∀ x z, args.toList = [x, z] -> kS zHR.val args.toList = [zHR.val x, zHR.val z] := fun x z e => by rw [e]; rfl
   unfold gL at h;split at h
   ·-- append
    split at h
    ·rename_i x z hxz;obtain ⟨n1, n2⟩ := hn rfl
     obtain ⟨a1, a2, ha, rfl, rfl⟩ : ∃ a1 a2, args.toList = [a1, a2] ∧ x = qN env a1 ∧ z = qN env a2 := by
      cases hq : args.toList with
      | nil => rw [hq] at hxz; cases hxz
      | cons a l =>
        rw [hq] at hxz
        cases l with
        | nil => cases hxz
        | cons a2 l =>
          cases l with
          | nil => simp only [zUB, zWE, zU4, and_true] at hxz; exact ⟨a, a2, rfl, hxz.1.symm, hxz.2.symm⟩
          | cons => cases hxz
     have hr := qTD hp hb n2 (qK he a1) (qK he a2) (qHJ n1 a2) (qHJ n1 a1) h;obtain ⟨u, H', Z', m', e1, e2, e3, e4, e5⟩ := hr;refine Res.up (p := fun j => j == k) ⟨u, H', Z', m', ?_, e2, e3, e4, e5⟩ fun j hj => hj
     refine oD ?_;rw [two _ _ ha];rw [show ts.toList.toArray = ts from by simp] at e1;exact e1
    ·cases h
   ·-- len
    split at h
    ·rename_i x hx0
     obtain ⟨a1, ha, rfl⟩ : ∃ a1, args = #[a1] ∧ x = qN env a1 := by
      cases hq : args.toList with
      | nil => rw [hq] at hx0; cases hx0
      | cons a l =>
        rw [hq] at hx0
        cases l with
        | nil =>
          simp only [zUB, zWE, zU4, and_true] at hx0
          exact ⟨a, by have e9 : args = args.toList.toArray := by simp
                       rw [e9, hq], hx0.symm⟩
        | cons => cases hx0
     subst ha
     cases hst : q0E P ts with
     | true =>
       rw [hst] at h
       have hnone : yF P .len ⟨.builtin .len, #[a1], ts⟩ (kS zHR.val #[a1].toList) H = none := by
        show nS P ts [zHR.val a1] H = none;unfold q0E at hst;split at hst
        ·rename_i hu;unfold nS;rw [hu]
        ·cases hst
       obtain ⟨e9, hr⟩ := qDN (d := d) (pos := pos) (aft := aft) (g := g) he hnone h;subst e9;exact fin hr
     | false =>
       rw [hst] at h;obtain ⟨h1, rfl⟩ := yA h;exact fin (q0O hp (qK he a1) (fun hq => q7Q (qK he a1) hq) (fun w hw => oD hw) h1)
    ·cases h
   ·obtain ⟨e9, hr⟩ := qDN (d := d) (pos := pos) (aft := aft) (g := g) he rfl h;subst e9;exact fin hr
   ·obtain ⟨e9, hr⟩ := qDN (d := d) (pos := pos) (aft := aft) (g := g) he rfl h;subst e9;exact fin hr
   ·cases h
  ·cases h
theorem q7V (hp : Hp P Z H (own m ph)) (hb : H.base <= H.size) (he : VRL P Z H (own m ph) env zHR) (hn : needs o.op = true -> yH k env = true ∧ eO k ph = true) (h : q27 P o env k ph = some (y, ph')) :
 Res P Z H m ph (nw o.op k) y ph' (iop P o zHR H) := by
 unfold q27 at h;split at h
 ·rename_i it ho;obtain ⟨h1, rfl⟩ := yA h;obtain ⟨u, q1, q2⟩ := qZU hp (qK he it) h1;refine .same ?_ hp q2;unfold iop;rw [ho];show zHW.ofO H (qFB (zHR.val it) H) = _;rw [q1]; rfl
 ·exact q6Y hp hb he hn h
end Go.Idl
namespace Go.Idl
variable [Gc]
variable {P : Program} {Z : Nat -> Prop} {H : IH} {M : Nat -> Option (Nat × PO)} {m : Nat -> Nat} {ph : PHp}
variable {Z' : Nat -> Prop} {k : Nat} {ph' : PHp} {v : Value} {vs : List Value} {xs : List PV}
def qIQ (f : PHp -> PV -> Option (FV × PHp)) : List PV -> PHp -> Option (List FV × PHp)
 | [], ph => some ([], ph)
 | x :: l, ph => match f ph x with
   | some (y, ph1) => (match qIQ f l ph1 with
     | some (ys, ph2) => some (y :: ys, ph2)
     | none => none)
   | none => none
noncomputable def fz1 (P : Program) : Nat -> PHp -> PV -> Option (FV × PHp)
 | 0, ph, .f x => some (x, ph)
 | 0, _, _ => none
 | n + 1, ph, .f x => some (x, ph)
 | n + 1, ph, .own k t o c => (match qD k ph with
   | some ob => (match szT P ob.el with
     | some s => cond (Nat.beq (t * s) ob.cs.length) (match qIQ (fz1 P n) ((ob.cs.drop (o * s)).take (c * s)) (qGT k ph) with
       | some (cs, ph') => some (.l ob.el c cs, ph')
       | none => none) none
     | none => none)
   | none => none)
 | n + 1, _, _ => none
noncomputable def fzP (P : Program) (ph : PHp) (x : PV) : Option (PV × PHp) := match x with
 | .agg cs => (match qIQ (fz1 P 4) cs ph with
   | some (ys, ph') => some (.agg (ys.map .f), ph')
   | none => none)
 | x => (match fz1 P 4 ph x with
   | some (y, ph') => some (.f y, ph')
   | none => none)
noncomputable def fzA (P : Program) : List PV -> PHp -> Option (List PV × PHp)
 | [], ph => some ([], ph)
 | x :: l, ph => match fzP P ph x with
   | some (y, ph1) => (match fzA P l ph1 with
     | some (ys, ph2) => some (y :: ys, ph2)
     | none => none)
   | none => none
structure Fz (P : Program) (Z : Nat -> Prop) (H : IH) (m : Nat -> Nat) (ph : PHp) (Z' : Nat -> Prop) (ph' : PHp) : Prop where
 hp : Hp P Z' H (own m ph')
 zle : ∀ b, Z b -> Z' b
 sub : ∀ k ob, qD k ph' = some ob -> qD k ph = some ob
 zI3 : ∀ b, Z' b -> Z b ∨ qTG (own m ph) b
theorem Fz.refl (h : Hp P Z H (own m ph)) : Fz P Z H m ph Z ph := ⟨h, fun _ h => h, fun _ _ h => h, fun _ h => .inl h⟩
theorem Fz.zNQ (a : Fz P Z H m ph Z' ph') {r : Nat × PO} (h : own m ph' k = some r) : own m ph k = some r := by
 obtain ⟨b, ob⟩ := r;obtain ⟨h1, rfl⟩ := uO h;exact qQ (a.sub k ob h1)
theorem Fz.trans {Z1 Z2 : Nat -> Prop} {ph1 ph2 : PHp} (a : Fz P Z H m ph Z1 ph1) (b : Fz P Z1 H m ph1 Z2 ph2) : Fz P Z H m ph Z2 ph2 :=
 ⟨b.hp, fun x h => b.zle x (a.zle x h), fun k ob h => a.sub k ob (b.sub k ob h), fun x h => by
   rcases b.zI3 x h with h | ⟨k, ob, h1, h2⟩
   ·exact a.zI3 x h
   ·exact .inr ⟨k, ob, a.zNQ h1, h2⟩⟩
theorem Fz.kr (a : Fz P Z H m ph Z' ph') (p : Nat -> Bool) : KR p (own m ph) (own m ph') := fun k b ob h => .inl ⟨ob, a.zNQ h, rfl, rfl, rfl⟩
theorem Fz.step (a : Fz P Z H m ph Z' ph') : Step Z H (own m ph) Z' H (own m ph') :=
 ⟨zT0 _, rfl, a.zle, fun _ _ _ => rfl, fun b h _ => a.zI3 b h, fun b ⟨k, ob, h1, h2⟩ _ => ⟨k, ob, a.zNQ h1, h2⟩⟩
theorem Fz.vrl (a : Fz P Z H m ph Z' ph') (h : VRL P Z H (Go.Idl.own m ph) xs vs) : VRL P Z' H (Go.Idl.own m ph') xs vs :=
 h.mono (p := fun _ => false) a.zle (zT0 _) (fun _ _ _ => rfl) (a.kr _) fun j hj => by cases hj
theorem Fz.del (h : Hp P Z H (own m ph)) {ob : PO} (hl : qD k ph = some ob) (hr : real ob) : Fz P Z H m ph (fun b => Z b ∨ b = m k) (qGT k ph) := by
 have hsub : ∀ j o, qD j (qGT k ph) = some o -> j ≠ k ∧ qD j ph = some o := fun j o h => by
  rw [wC] at h;split at h
  ·cases h
  ·rename_i hj; exact ⟨hj, h⟩
 have hown : ∀ j b o, own m (qGT k ph) j = some (b, o) -> j ≠ k ∧ own m ph j = some (b, o) := fun j b o h => by
  obtain ⟨h1, rfl⟩ := uO h;obtain ⟨h2, h3⟩ := hsub j o h1;exact ⟨h2, qQ h3⟩
 obtain ⟨w1, w2, w3⟩ := h.zM5 hl hr;refine ⟨⟨?_, ?_, ?_, h.gl.mono h.zlt (fun _ h => .inl h) fun _ _ _ => rfl⟩, fun b h => .inl h, fun j o h => (hsub j o h).2, ?_⟩
 ·rintro b (hb | rfl)
  ·exact h.zlt b hb
  ·exact w1
 ·intro j b o hj;obtain ⟨h1, h2⟩ := hown j b o hj
  rcases h.obj j b o h2 with h3 | ⟨a1, a2, a3, a4⟩
  ·exact .inl h3
  ·by_cases hro : o.gr = true ∧ o.cs = []
   ·exact .inl hro
   ·refine .inr ⟨a1, a2, ?_, a4.mono rfl fun _ a5 => a5.mono (p := fun _ => false) (fun _ h => .inl h) (zT0 _) (fun _ _ _ => rfl) (fun i b' o' hi => .inl ⟨o', (hown i b' o' hi).2, rfl, rfl, rfl⟩) (fun j hj => by cases hj)⟩;rintro (hz | rfl)
    ·exact a3 hz
    ·exact h.inj j k _ _ o ob h2 (qQ hl) hro hr h1 rfl
 ·intro j j' b b' o o' h1 h2 r1 r2 hne;exact h.inj j j' b b' o o' (hown j b o h1).2 (hown j' b' o' h2).2 r1 r2 hne
 ·rintro b (hz | rfl)
  ·exact .inl hz
  ·exact .inr ⟨k, ob, qQ hl, hr⟩
theorem Fz.drop (h : Hp P Z H (own m ph)) (hs : ∀ k ob, qD k ph' = some ob -> qD k ph = some ob) : Fz P Z H m ph Z ph' := by
 have hown : ∀ j b o, own m ph' j = some (b, o) -> own m ph j = some (b, o) := fun j b o h => by
  obtain ⟨h1, rfl⟩ := uO h;exact qQ (hs j o h1)
 refine ⟨⟨h.zlt, ?_, ?_, h.gl⟩, fun _ h => h, hs, fun _ h => .inl h⟩
 ·intro j b o hj
  rcases h.obj j b o (hown j b o hj) with h3 | ⟨a1, a2, a3, a4⟩
  ·exact .inl h3
  ·exact .inr ⟨a1, a2, a3, a4.mono rfl fun _ a5 => a5.mono (p := fun _ => false) (fun _ h => h) (zT0 _) (fun _ _ _ => rfl) (fun i b' o' hi => .inl ⟨o', hown i b' o' hi, rfl, rfl, rfl⟩) (fun j hj => by cases hj)⟩
 ·intro j j' b b' o o' h1 h2 r1 r2 hne;exact h.inj j j' b b' o o' (hown j b o h1) (hown j' b' o' h2) r1 r2 hne
structure FRL (Z : Nat -> Prop) (H : IH) (xs : List FV) (vs : List Value) : Prop where
 len : xs.length = vs.length
 val : ∀ (i : Nat) x v, xs[i]? = some x -> vs[i]? = some v -> FR Z H x v
theorem FRL.cons {x : FV} {xs : List FV} (h : FR Z H x v) (t : FRL Z H xs vs) : FRL Z H (x :: xs) (v :: vs) :=
 ⟨by simp [t.len], fun i y u h1 h2 => by
   cases i with
   | zero => simp at h1 h2; subst h1 h2; exact h
   | succ i => exact t.val i y u (by simpa using h1) (by simpa using h2)⟩
theorem FRL.map {xs : List FV} (h : FRL Z H xs vs) : VRL P Z H M (xs.map .f) vs := qZ0 h.len h.val
theorem qIL {f : PHp -> PV -> Option (FV × PHp)} (hf : ∀ {Z : Nat -> Prop} {ph : PHp} {x : PV} {y : FV} {ph' : PHp} {v : Value}, Hp P Z H (own m ph) -> VR P Z H (own m ph) x v -> f ph x = some (y, ph') -> ∃ Z', Fz P Z H m ph Z' ph' ∧ FR Z' H y v) :
 ∀ {xs : List PV} {vs : List Value} {Z : Nat -> Prop} {ph : PHp} {ys : List FV} {ph' : PHp}, Hp P Z H (own m ph) -> VRL P Z H (own m ph) xs vs -> qIQ f xs ph = some (ys, ph') -> ∃ Z', Fz P Z H m ph Z' ph' ∧ FRL Z' H ys vs
 | [], vs, Z, ph, ys, ph', hp, hx, h => by
   simp only [qIQ, zT5, Prod.mk.injEq] at h;obtain ⟨rfl, rfl⟩ := h;rw [hx.zHV];exact ⟨Z, .refl hp, rfl, fun i x v h => by simp at h⟩
 | x :: xs, _, Z, ph, ys, ph', hp, hx, h => by
   obtain ⟨v, vs, rfl, h1, h2⟩ := hx.zHU;unfold qIQ at h;split at h
   ·rename_i y ph1 hy;split at h
    ·rename_i ys' ph2 hys;cases h;obtain ⟨Z1, c1, r1⟩ := hf hp h1 hy;obtain ⟨Z2, c2, r2⟩ := qIL hf c1.hp (c1.vrl h2) hys;exact ⟨Z2, c1.trans c2, .cons (r1.mono c2.zle (zT0 _) fun _ _ _ => rfl) r2⟩
    ·cases h
   ·cases h
theorem qQR : ∀ (n : Nat) {Z : Nat -> Prop} {ph : PHp} {x : PV} {y : FV} {ph' : PHp} {v : Value}, Hp P Z H (own m ph) -> VR P Z H (own m ph) x v -> fz1 P n ph x = some (y, ph') -> ∃ Z', Fz P Z H m ph Z' ph' ∧ FR Z' H y v
 | n, Z, ph, .f x, y, ph', v, hp, hx, h => by
   have : some (x, ph) = some (y, ph') := by cases n <;> exact h
   cases this
   cases hx with
   | f hx => exact ⟨Z, .refl hp, hx⟩
 | 0, Z, ph, .agg _, y, ph', v, hp, hx, h => by cases h
 | 0, Z, ph, .tup _, y, ph', v, hp, hx, h => by cases h
 | 0, Z, ph, .own _ _ _ _, y, ph', v, hp, hx, h => by cases h
 | 0, Z, ph, .ref _ _ _, y, ph', v, hp, hx, h => by cases h
 | 0, Z, ph, .lp _ _, y, ph', v, hp, hx, h => by cases h
 | 0, Z, ph, .fn _ _ _, y, ph', v, hp, hx, h => by cases h
 | 0, Z, ph, .unk, y, ph', v, hp, hx, h => by cases h
 | 0, Z, ph, .yl _, y, ph', v, hp, hx, h => by cases h
 | 0, Z, ph, .mp _, y, ph', v, hp, hx, h => by cases h
 | n + 1, Z, ph, .agg _, y, ph', v, hp, hx, h => by cases h
 | n + 1, Z, ph, .tup _, y, ph', v, hp, hx, h => by cases h
 | n + 1, Z, ph, .ref _ _ _, y, ph', v, hp, hx, h => by cases h
 | n + 1, Z, ph, .lp _ _, y, ph', v, hp, hx, h => by cases h
 | n + 1, Z, ph, .fn _ _ _, y, ph', v, hp, hx, h => by cases h
 | n + 1, Z, ph, .unk, y, ph', v, hp, hx, h => by cases h
 | n + 1, Z, ph, .yl _, y, ph', v, hp, hx, h => by cases h
 | n + 1, Z, ph, .mp _, y, ph', v, hp, hx, h => by cases h
 | n + 1, Z, ph, .own k t o c, y, ph', v, hp, hx, h => by
   unfold fz1 at h;split at h
   ·rename_i ob hl;split at h
    ·rename_i s hs
     cases hc : Nat.beq (t * s) ob.cs.length with
     | false => rw [hc] at h; cases h
     | true =>
       rw [hc] at h;simp only [cond_true] at h;have he := zTZ hc;split at h
       ·rename_i cs ph1 hf;cases h;obtain ⟨hO, h0⟩ := gT hx hl hs he
        rcases hO with ⟨g1, rfl, rfl, rfl, rfl⟩ | ⟨g1, g2, g3, rfl⟩
        ·have hc0 : ob.cs = [] := zVP.1 (by omega);rw [hc0] at hf;have hf' : qIQ (fz1 P n) [] (qGT k ph) = some (cs, ph') := by simpa using hf
         have : some (([] : List FV), qGT k ph) = some (cs, ph') := hf';cases this;refine ⟨Z, .drop hp fun j o hj => ?_, .nil (fun _ => rfl) (fun x h => by cases h)⟩;rw [wC] at hj;split at hj
         ·cases hj
         ·exact hj
        ·have hre := oM he h0 g1;obtain ⟨w1, w2, w3, vs, q1, q2, q3⟩ := hp.real hl hre (jW hs);have hcut := Fz.del hp hl hre;have hle : (o + c) * s <= t * s := zVB _ g2;rw [zW2] at hle;obtain ⟨Z2, c2, r2⟩ := qIL (fun a b c => qQR n a b c) hcut.hp (hcut.vrl ((q2.drop (o * s)).take (c * s))) hf;refine ⟨Z2, hcut.trans c2, .l (vs := (vs.drop (o * s)).take (c * s)) (c2.zle _ (.inr rfl)) w1 (by omega) (by cases ob.gr <;> simp) ?_ r2.val⟩
         have hcl : cs.length = c * s := by
          rw [r2.len]; simp only [zU1, zWT]; rw [<- q2.len]; omega
         rw [hcl];exact jQ q1 (by rw [<- q2.len]; omega) rfl
       ·cases h
    ·cases h
   ·cases h
theorem qLR {x y : PV} (hp : Hp P Z H (own m ph)) (hx : VR P Z H (own m ph) x v) (h : fzP P ph x = some (y, ph')) : ∃ Z', Fz P Z H m ph Z' ph' ∧ VR P Z' H (fun _ => none) y v := by
 unfold fzP at h;split at h
 ·rename_i cs;split at h
  ·rename_i ys ph1 hf;cases h
   cases hx with
   | agg hl hc =>
     rename_i vs;obtain ⟨Z', c1, r1⟩ := qIL (vs := vs.toList) (fun a b c => qQR 4 a b c) hp ⟨by simpa using hl, fun i x v a b => hc i x v a (by simpa using b)⟩ hf;have := (r1.map (P := P) (M := fun _ => none)).toA;exact ⟨Z', c1, by simpa using this⟩
  ·cases h
 ·split at h
  ·rename_i y' ph1 hf;cases h;obtain ⟨Z', c1, r1⟩ := qQR 4 hp hx hf;exact ⟨Z', c1, .f r1⟩
  ·cases h
theorem VRL.none {H' : IH} (h : VRL P Z H (fun _ => none) xs vs) (hz : ∀ b, Z b -> Z' b) (hs : H.size <= H'.size) (hg : ∀ b, Z b -> b < H.size -> H'.get b = H.get b) {M : Nat -> Option (Nat × PO)} (hn : ∀ k, M k = none) : VRL P Z' H' M xs vs :=
 h.mono (p := fun _ => false) hz hs hg (fun k b o hk => by rw [hn] at hk; cases hk) fun j hj => by cases hj
theorem qPD : ∀ {xs : List PV} {vs : List Value} {Z : Nat -> Prop} {ph : PHp} {ys : List PV} {ph' : PHp}, Hp P Z H (own m ph) -> VRL P Z H (own m ph) xs vs -> fzA P xs ph = some (ys, ph') -> ∃ Z', Fz P Z H m ph Z' ph' ∧ VRL P Z' H (fun _ => none) ys vs
 | [], vs, Z, ph, ys, ph', hp, hx, h => by
   simp only [fzA, zT5, Prod.mk.injEq] at h;obtain ⟨rfl, rfl⟩ := h;rw [hx.zHV];exact ⟨Z, .refl hp, .nil⟩
 | x :: xs, _, Z, ph, ys, ph', hp, hx, h => by
   obtain ⟨v, vs, rfl, h1, h2⟩ := hx.zHU;unfold fzA at h;split at h
   ·rename_i y ph1 hy;split at h
    ·rename_i ys' ph2 hys;cases h;obtain ⟨Z1, c1, r1⟩ := qLR hp h1 hy;obtain ⟨Z2, c2, r2⟩ := qPD c1.hp (c1.vrl h2) hys;exact ⟨Z2, c1.trans c2, .cons (r1.mono (p := fun _ => false) c2.zle (zT0 _) (fun _ _ _ => rfl) (.refl _ _) fun j hj => by cases hj) r2⟩
    ·cases h
   ·cases h
end Go.Idl
namespace Go.Idl
variable [Gc]
variable {P : Program} {Z : Nat -> Prop} {H : IH} {M : Nat -> Option (Nat × PO)} {m : Nat -> Nat} {ph : PHp} {G : Nat -> Bool}
variable {H' : IH} {M' : Nat -> Option (Nat × PO)} {Z' : Nat -> Prop} {cs env : List PV} {zHR : Env} {t : TypeId} {v : Value} {vs : Array Value} {x : PV}
theorem Hp.old (h : Hp P Z H (own m ph)) (ho : Old H H') (hz : ∀ b, Z b -> Z' b) (hz1 : ∀ b, Z' b -> b < H'.size) (hz2 : ∀ b, Z' b -> b < H.size -> Z b) : Hp P Z' H' (own m ph) := by
 refine ⟨hz1, fun k b ob hk => ?_, h.inj, h.gl.mono h.zlt hz fun b _ hb => ho.get b hb⟩
 rcases h.obj k b ob hk with h1 | ⟨a1, a2, a3, a4⟩
 ·exact .inl h1
 ·exact .inr ⟨zUA a1 ho.size, by rw [ho.base]; exact a2, fun h => a3 (hz2 b h a1), a4.mono (ho.get b a1) fun _ a5 => a5.mono (p := fun _ => false) hz ho.size (fun b _ hb => ho.get b hb) (.refl _ _) (fun j hj => by cases hj)⟩
theorem Step.old (ho : Old H H') (hz : ∀ b, Z b -> Z' b) (hz2 : ∀ b, Z' b -> b < H.size -> Z b) : Step Z H M Z' H' M :=
 ⟨ho.size, ho.base, hz, fun b hb _ => ho.get b hb, fun b h hb => .inl (hz2 b h hb), fun _ h _ => h⟩
def vZ : PV -> Bool
 | .f (.v _) => true
 | .agg cs => (qVI cs).isSome
 | .tup cs => (plL cs).isSome
 | _ => false
theorem qM6 (h : VR P Z H M x v) (hp : (pl1 x).isSome = true) (Z' : Nat -> Prop) (H' : IH) (M' : Nat -> Option (Nat × PO)) : VR P Z' H' M' x v := by
 unfold pl1 at hp;split at hp
 ·cases h with
  | f h => cases h with
    | v a b => exact .f (.v a b)
 ·cases hp
theorem qHV (Z' : Nat -> Prop) (H' : IH) (M' : Nat -> Option (Nat × PO)) : ∀ {xs : List PV} {vs : List Value}, VRL P Z H M xs vs -> (qVI xs).isSome = true -> VRL P Z' H' M' xs vs
 | [], vs, h, _ => by rw [h.zHV]; exact .nil
 | x :: xs, _, h, hp => by
   obtain ⟨v, vs, rfl, h1, h2⟩ := h.zHU;unfold qVI at hp;split at hp
   ·rename_i a ha;split at hp
    ·rename_i as has;exact .cons (qM6 h1 (by rw [ha]; rfl) _ _ _) (qHV Z' H' M' h2 (by rw [has]; rfl))
    ·cases hp
   ·cases hp
theorem VR.zJ7 (h : VR P Z H M (.agg cs) v) : ∃ vs, v = .agg vs ∧ VRL P Z H M cs vs.toList := by
 cases h with
 | agg hl hc => exact ⟨_, rfl, by simpa using hl, fun i x v a b => hc i x v a (by simpa using b)⟩
theorem VR.zL7 (h : VR P Z H M (.tup cs) v) : ∃ vs, v = .tuple vs ∧ VRL P Z H M cs vs.toList := by
 cases h with
 | tup hl hc => exact ⟨_, rfl, by simpa using hl, fun i x v a b => hc i x v a (by simpa using b)⟩
theorem VRL.agg' (h : VRL P Z H M cs vs.toList) : VR P Z H M (.agg cs) (.agg vs) := .agg (by simpa using h.len) fun i x v a b => h.val i x v a (by simpa using b)
theorem VRL.zJX (h : VRL P Z H M cs vs.toList) : VR P Z H M (.tup cs) (.tuple vs) := .tup (by simpa using h.len) fun i x v a b => h.val i x v a (by simpa using b)
theorem zCK (h : VR P Z H M x v) (hp : (pl x).isSome = true) (Z' : Nat -> Prop) (H' : IH) (M' : Nat -> Option (Nat × PO)) : VR P Z' H' M' x v := by
 unfold pl at hp;split at hp
 ·exact qM6 h rfl _ _ _
 ·rename_i cs;obtain ⟨vs, rfl, hr⟩ := h.zJ7;refine (qHV Z' H' M' hr ?_).agg';split at hp
  ·rename_i as has; rw [has]; rfl
  ·cases hp
 ·cases hp
theorem qWZ (Z' : Nat -> Prop) (H' : IH) (M' : Nat -> Option (Nat × PO)) : ∀ {xs : List PV} {vs : List Value}, VRL P Z H M xs vs -> (plL xs).isSome = true -> VRL P Z' H' M' xs vs
 | [], vs, h, _ => by rw [h.zHV]; exact .nil
 | x :: xs, _, h, hp => by
   obtain ⟨v, vs, rfl, h1, h2⟩ := h.zHU;unfold plL at hp;split at hp
   ·rename_i a ha;split at hp
    ·rename_i as has;exact .cons (zCK h1 (by rw [ha]; rfl) _ _ _) (qWZ Z' H' M' h2 (by rw [has]; rfl))
    ·cases hp
   ·cases hp
theorem qTH (h : VR P Z H M x v) (hp : vZ x = true) (Z' : Nat -> Prop) (H' : IH) (M' : Nat -> Option (Nat × PO)) : VR P Z' H' M' x v := by
 unfold vZ at hp;split at hp
 ·exact qM6 h rfl _ _ _
 ·obtain ⟨vs, rfl, hr⟩ := h.zJ7;exact (qHV Z' H' M' hr hp).agg'
 ·obtain ⟨vs, rfl, hr⟩ := h.zL7;exact (qWZ Z' H' M' hr hp).zJX
 ·cases hp
def tX (P : Program) : Nat -> TypeId -> List TypeId
 | 0, t => [t]
 | n + 1, t => match P.underlying t with
   | some (.struct fields) => fields.toList.flatMap fun f => tX P n f.type
   | some (.array k el) => (List.replicate k (tX P n el)).flatten
   | _ => [t]
def rt0 (P : Program) (t : TypeId) : PV -> PV
 | .f (.v (.slice none 0 0)) => match xD P t with
   | some el => .f (.l el 0 [])
   | none => fvv (.slice none 0 0)
 | x => x
def rtL (f : TypeId -> PV -> PV) : List TypeId -> List PV -> List PV
 | t :: ts, x :: xs => f t x :: rtL f ts xs
 | _, xs => xs
def rt1 (P : Program) (t : TypeId) : PV -> PV
 | .agg cs => .agg (rtL (rt0 P) (tX P 8 t) cs)
 | x => rt0 P t x
def rtA (P : Program) (g : FuncId) (args : List PV) : List PV := match P.funcs[g]? with
 | some fn => rtL (rt1 P) fn.params.toList args
 | none => args
theorem qZ6 (h : VR P Z H M x v) : VR P Z H M (rt0 P t x) v := by
 unfold rt0;split
 ·split
  ·have := yS h rfl;subst this;exact .f (.nil (fun _ => rfl) fun _ h => by cases h)
  ·exact h
 ·exact h
theorem qEQ {f : TypeId -> PV -> PV} (hf : ∀ t x v, VR P Z H M x v -> VR P Z H M (f t x) v) : ∀ {ts : List TypeId} {xs : List PV} {vs : List Value}, VRL P Z H M xs vs -> VRL P Z H M (rtL f ts xs) vs
 | [], xs, vs, h => by cases xs <;> exact h
 | t :: ts, [], vs, h => h
 | t :: ts, x :: xs, vs, h => by
   obtain ⟨v, vs', rfl, h1, h2⟩ := h.zHU;exact .cons (hf t x v h1) (qEQ hf h2)
theorem qEB (h : VR P Z H M x v) : VR P Z H M (rt1 P t x) v := by
 unfold rt1;split
 ·obtain ⟨vs, rfl, hr⟩ := h.zJ7;exact (qEQ (fun t x v h => qZ6 h) hr).agg'
 ·exact qZ6 h
theorem zAI {g : FuncId} {xs : List PV} {vs : List Value} (h : VRL P Z H M xs vs) : VRL P Z H M (rtA P g xs) vs := by
 unfold rtA;split
 ·exact qEQ (fun t x v h => qEB h) h
 ·exact h
abbrev gY := FuncId -> List PV -> Option PV
def Ctr (P : Program) (k : List Value -> IH -> T (Value × IH)) (zJR : List PV) (r : PV) : Prop :=
 ∀ (Z : Nat -> Prop) (H : IH) (args : List Value), VRL P Z H (fun _ => none) zJR args -> (∀ b, Z b -> b < H.size) -> H.base <= H.size -> q45 Z H -> ∀ Q : Value × IH -> Prop,
  (∀ v H' (Z' : Nat -> Prop), Old H H' -> (∀ b, Z b -> Z' b) -> (∀ b, Z' b -> b < H'.size) -> (∀ b, Z' b -> b < H.size -> Z b) -> VR P Z' H' (fun _ => none) r v -> Q (v, H')) -> (k args H).holds Q
def q8R : PV -> Bool
 | .f _ => true
 | _ => false
def qT1 : PV -> Bool
 | .agg cs => cs.all q8R
 | x => q8R x
def q6L : PV -> Bool
 | .tup cs => cs.all qT1
 | x => qT1 x
theorem qRH (h : VR P Z H M x v) (hp : q8R x = true) : VR P Z H M' x v := by
 unfold q8R at hp;split at hp
 ·cases h with
  | f h => exact .f h
 ·cases hp
theorem nN (h : VR P Z H M x v) (hp : qT1 x = true) : VR P Z H M' x v := by
 unfold qT1 at hp;split at hp
 ·obtain ⟨vs, rfl, hr⟩ := h.zJ7;exact VRL.agg' ⟨hr.len, fun i x v a b => qRH (hr.val i x v a b) (zT3.1 hp x (zUP a))⟩
 ·exact qRH h hp
theorem q38 (h : VR P Z H M x v) (hp : q6L x = true) : VR P Z H M' x v := by
 unfold q6L at hp;split at hp
 ·obtain ⟨vs, rfl, hr⟩ := h.zL7;exact VRL.zJX ⟨hr.len, fun i x v a b => nN (hr.val i x v a b) (zT3.1 hp x (zUP a))⟩
 ·exact nN h hp
def q1D (P : Program) (nat : xI) (tab : gY) : Prop := ∀ g zJR r, tab g zJR = some r -> enters P g = true ∧ q6L r = true ∧ ∃ k, nat g = some k ∧ Ctr P k zJR r
structure Nm where
 b : Nat
 p : Nat -> Bool
def zCP (P : Program) (g : FuncId) : Bool := match P.funcs[g]? with
 | some fn => fn.body.isNone && !(fn.name == "internal/abi.NoEscape" && fn.origin == "")
 | none => false
def qZC (P : Program) (G : Nat -> Bool) (nm : Nm) (g : FuncId) (args : List PV) (ph : PHp) (R : PV -> PHp -> Prop) : Prop :=
 (zCP P g = true ∧ ∃ vs v, plL args = some vs ∧ (zX vs && kV (xN 2) vs) = true ∧ yZ P (callFunc g vs.toArray) = some (.value v) ∧ qKZ v = true ∧ R (ofC v) ph) ∨
 enters P g = true ∧ ∀ (Z : Nat -> Prop) (H : IH) (m : Nat -> Nat) (zIK : List Value), Hp P Z H (own m ph) -> H.base <= H.size -> VRL P Z H (own m ph) args zIK ->
  rX P G g zIK H fun r => ∃ Z' m' pv ph', Hp P Z' r.2 (own m' ph') ∧ VR P Z' r.2 (own m' ph') pv r.1 ∧ Step Z H (own m ph) Z' r.2 (own m' ph') ∧ KR nm.p (own m ph) (own m' ph') ∧ R pv ph'
inductive PE where
 | fail
 | ok (v : PV) (ph : PHp)
 | call (g : FuncId) (args : List PV) (ph : PHp)
 | rnd (l : Nat) (args : List PV) (ph : PHp)
inductive PT where
 | fail
 | ret (env : List PV) (ph : PHp)
 | chk (c : Bool) (t : PT)
 | call (nm : Nm) (g : FuncId) (args : List PV) (ph : PHp) (k : PV -> PHp -> PT)
 | rnd (l : Nat) (args : List PV) (ph : PHp) (k : PV -> PHp -> PT)
def PT.holds (P : Program) (G : Nat -> Bool) (Q : List PV -> PHp -> Prop) : PT -> Prop
 | .fail => False
 | .ret env ph => Q env ph
 | .chk c t => c = true ∧ t.holds P G Q
 | .call nm g args ph k => ∃ R, qZC P G nm g args ph R ∧ ∀ v ph', R v ph' -> (k v ph').holds P G Q
 | .rnd _ _ _ _ => False
noncomputable def aK (P : Program) (tab : gY) (g : FuncId) (args : List PV) (ph : PHp) : PE := match fzA P args ph with
 | some (zIS, ph1) => (match tab g (rtA P g zIS) with
   | some r => .ok r (cond (vZ r) ph ph1)
   | none => .fail)
 | none => .fail
noncomputable def mI (P : Program) (tab : gY) (inl : FuncId -> Bool) (g : FuncId) (args : List PV) (ph : PHp) : PE := cond (inl g) (.call g args ph) (aK P tab g args ph)
noncomputable def pR (P : Program) (tab : gY) (inl : FuncId -> Bool) (fv : PV) (args : List PV) (ph : PHp) : PE := match fv with
 | .f (.v (.func (.func g) a c)) => cond (a.toList.isEmpty && c.toList.isEmpty) (mI P tab inl g args ph) .fail
 | .yl l => .rnd l args ph
 | .fn g first cap => mI P tab inl g (first ++ (args ++ cap)) ph
 | _ => .fail
def peO : Option (PV × PHp) -> PE
 | some r => .ok r.1 r.2
 | none => .fail
noncomputable def gZ (P : Program) (tab : gY) (inl : FuncId -> Bool) (k : Nat) (o : Oper) (env : List PV) (ph : PHp) : PE := match o.op with
 | .call ⟨.value f, args, _⟩ => pR P tab inl (qN env f) (args.toList.map (qN env)) ph
 | _ => peO (q27 P o env k ph)
def qQ2 (want : Bool) : PV -> Option Bool
 | .f (.v (.bool b)) => some (b == want)
 | .tup cs => cond cs.isEmpty (some false) none
 | _ => none
noncomputable def qRT (w : Bool) (env : List PV) : Option Tmp -> Option Bool
 | some t => (match zL env t with
   | some v => qQ2 w v
   | none => none)
 | none => some false
noncomputable def fC (ds : List (Option Tmp)) (o : Oper) (env : List PV) : Option Bool := match o.guard with
 | none => some true
 | some (j, w) => qRT w env (qSZ ds j)
def wid (b : Nat) : Nat := cond (Nat.blt b 1000) 1 (cond (Nat.blt b 1000000) 1000 (cond (Nat.blt b 1000000000) 1000000 1000000000))
def inB (b k : Nat) : Bool := Nat.beq ((k / 1000) % wid b) (b / 1000)
def inP (nm : Nm) (k : Nat) : Bool := nm.p k
def qVR (nm : Nm) (g : FuncId) : Nm := ⟨nm.b + wid nm.b * 1000 * (g + 1), fun k => inB (nm.b + wid nm.b * 1000 * (g + 1)) k && nm.p k⟩
def clean (p : Nat -> Bool) (env : List PV) : PHp -> Bool
 | [] => true
 | (k, _) :: ph => (!p k || yH k env) && clean p env ph
def zM (nm : Nm) (d : Option Tmp) : Nat := match d with
 | some t => nm.b + t
 | none => nm.b
def fresh (nm : Nm) (k : Nat) (env : List PV) (ph : PHp) : Bool := inP nm k && (yH k env && eO k ph)
def q6Z (c : Bool) (k : Nat) (nm : Nm) (env : List PV) (ph : PHp) (t : PT) : PT := cond c (.chk (fresh nm k env ph) t) t
noncomputable def pops (P : Program) (tab : gY) (inl : FuncId -> Bool) (nm : Nm) (ds : List (Option Tmp)) : List Oper -> List PV -> PHp -> PT
 | [], env, ph => .ret env ph
 | o :: l, env, ph => wN (fC ds o env)
    (match gZ P tab inl (zM nm o.dst) o env ph with
     | .fail => .fail
     | .ok v ph' => q6Z (needs o.op) (zM nm o.dst) nm env ph (pops P tab inl nm ds l (yO env o.dst v) ph')
     | .call g args ph' => .call (qVR nm g) g args ph' fun v ph2 => .chk (clean (qVR nm g).p env ph2) (pops P tab inl nm ds l (yO env o.dst v) ph2)
     | .rnd x args ph' => .rnd x args ph' fun v ph2 => pops P tab inl nm ds l (yO env o.dst v) ph2)
    (pops P tab inl nm ds l (yO env o.dst (.tup [])) ph) .fail
theorem KR.trans {p : Nat -> Bool} {M1 M2 M3 : Nat -> Option (Nat × PO)} (a : KR p M1 M2) (b : KR p M2 M3) : KR p M1 M3 := fun k b' ob' h => by
 rcases b k b' ob' h with ⟨ob, h1, h2, h3, h4⟩ | ⟨b1, ob, h1, h2, h3, hb1⟩ | h
 ·rcases a k b' ob h1 with ⟨o2, q1, q2, q3, q4⟩ | ⟨b2, o2, q1, q2, q3, qb2⟩ | q
  ·exact .inl ⟨o2, q1, q2.trans h2, q3.trans h3, q4.trans h4⟩
  ·exact .inr (.inl ⟨b2, o2, q1, by omega, q3.trans h3, qb2⟩)
  ·exact .inr (.inr q)
 ·rcases a k b1 ob h1 with ⟨o2, q1, q2, q3, q4⟩ | ⟨b2, o2, q1, q2, q3, qb2⟩ | q
  ·exact .inr (.inl ⟨b1, o2, q1, by omega, q3.trans h3, fun hh => hb1 (by rw [<- q3]; exact hh)⟩)
  ·exact .inr (.inl ⟨b2, o2, q1, by omega, q3.trans h3, fun hh => (qb2 hh).trans (hb1 (by rw [<- q3]; exact hh))⟩)
  ·exact .inr (.inr q)
 ·exact .inr (.inr h)
theorem KR.up {p q : Nat -> Bool} {M1 M2 : Nat -> Option (Nat × PO)} (a : KR p M1 M2) (h : ∀ k, p k = true -> q k = true) : KR q M1 M2 := fun k b ob hk => by
 rcases a k b ob hk with h1 | h1 | h1
 ·exact .inl h1
 ·exact .inr (.inl h1)
 ·exact .inr (.inr (h k h1))
theorem VRL.zIE (h : VRL P Z H M env zHR) (hx : VR P Z H M x v) (d : Option Tmp) : VRL P Z H M (yO env d x) (zHR.zIE d v) := by
 cases d with
 | none => exact h
 | some t =>
   show VRL P Z H M (yT env t x) (yT zHR t v);rw [qV, qV]; exact h.set hx t
theorem qC4 {ops : Array Oper} {o : Oper} {b : Bool} (he : VRL P Z H M env zHR) (h : fC (ops.toList.map (·.dst)) o env = some b) : xY ops o zHR = some b := by
 rw [qMQ];unfold fC at h;unfold qPS;split at h
 ·rename_i hg;rw [hg]; exact h
 ·rename_i j w hg;rw [hg];simp only;unfold qRT at h;unfold qR7;split at h
  ·rename_i t ht;rw [ht];simp only;split at h
   ·rename_i v hv;rw [qF] at hv;obtain ⟨u, h1, h2⟩ := he.get hv;unfold zCG;rw [qF, h1];unfold qQ2 at h;split at h
    ·have := yS h2 rfl;subst this;exact h
    ·rename_i cs
     cases hc : cs.isEmpty with
     | false => rw [hc] at h; cases h
     | true =>
       rw [hc] at h;obtain ⟨vs, rfl, hr⟩ := h2.zL7
       have : cs = [] := by cases cs with
        | nil => rfl
        | cons => cases hc
       subst this;have h3 := hr.zHV;have : vs = #[] := by simpa using h3
       subst this;exact h
    ·cases h
   ·cases h
  ·rename_i ht;rw [ht]; exact h
end Go.Idl
namespace Go.Idl
variable [Gc]
variable {P : Program} {Z : Nat -> Prop} {H : IH} {m : Nat -> Nat} {ph : PHp} {G : Nat -> Bool} {nat : xI} {tab : gY} {inl : FuncId -> Bool} {nm : Nm}
variable {F : Fence} {K : Act -> World -> Prop} {Q : Value × IH -> Prop} {Qx : Exit -> Act -> World -> Prop} {a : Act} {args : List Value} {as env : List PV} {f : Inj} {g : FuncId} {zHR : Env} {o : Oper} {zH7 : Array Operand} {ph' : PHp} {ts : Array TypeId} {w : World} {x : Operand}
def uQ : Job -> IH -> T Out := fun _ _ => .fail
theorem qI5 (hs : fG P G nat) : vP P G (kF uQ nat) := by
 intro g args args' H f w Q hR hG ha h;unfold kF at h;split at h
 ·rename_i k hk; exact hs g k hk args args' H f w Q hR hG ha h
 ·exact h.elim
theorem qBW : jB P G uQ := by
 intro l args args' H f w e Q hR hG he ha hq;exact hq.elim
theorem qNA : fG P G fun _ => none := fun g k h => by cases h
noncomputable def qFK (g : FuncId) (args : List Value) (H : IH) (Q : Value × IH -> Prop) : xI := by
 classical
 exact fun g1 => if g1 = g then some (fun a h => if a = args ∧ h = H then .sp Q .ret else .fail) else none
theorem zBN {H : IH} (h : rX P G g args H Q) : fG P G (qFK g args H Q) := by
 classical
 intro g1 k hk zPN args' H1 f1 w1 Q1 hR1 hG1 ha1 hq1;unfold qFK at hk;split at hk
 ·rename_i hg1;subst hg1;cases hk;change T.holds Q1 (if zPN = args ∧ H1 = H then T.sp Q T.ret else T.fail) at hq1;split at hq1
  ·rename_i hc;obtain ⟨rfl, rfl⟩ := hc;exact (h.mono fun r hr => hq1 r hr) args' f1 w1 hR1 hG1 ha1
  ·exact hq1.elim
 ·cases hk
theorem q62 {H : IH} : kF uQ (qFK g args H Q) g args H = .sp Q .ret := by
 classical
 unfold kF qFK;simp
def target (fv : PV) (args : List PV) : Option (FuncId × List PV) := match fv with
 | .f (.v (.func (.func g) a c)) => cond (a.toList.isEmpty && c.toList.isEmpty) (some (g, args)) none
 | .fn g first cap => some (g, first ++ (args ++ cap))
 | _ => none
theorem oP {fv : PV} {args : List PV} {r : PE} (h : pR P tab inl fv args ph = r) (hr : r ≠ .fail) (hr2 : ∀ x a p, r ≠ .rnd x a p) : ∃ g as, target fv args = some (g, as) ∧ mI P tab inl g as ph = r := by
 unfold pR at h;unfold target;split at h
 ·rename_i g a c
  cases hc : (a.toList.isEmpty && c.toList.isEmpty) with
  | false => rw [hc] at h; exact absurd h.symm hr
  | true => rw [hc] at h; exact ⟨g, args, (by simp only; rw [hc]; rfl), h⟩
 ·exact absurd h.symm (hr2 _ _ _)
 ·exact ⟨_, _, rfl, h⟩
 ·exact absurd h.symm hr
theorem qLF (he : VRL P Z H (own m ph) env zHR) (h : target (qN env x) (zH7.toList.map (qN env)) = some (g, as)) (hent : enters P g = true) :
 ∃ zIK, yJ P o ⟨.value x, zH7, ts⟩ zHR H = some (.enter g zIK H) ∧ VRL P Z H (own m ph) as zIK := by
 have hx := qK he x;have ha := VRL.of he zH7.toList;unfold target at h;split at h
 ·rename_i g' a c hfv;rw [hfv] at hx;have hv := yS hx rfl
  cases hc : (a.toList.isEmpty && c.toList.isEmpty) with
  | false => rw [hc] at h; cases h
  | true =>
    rw [hc] at h; cases h;rw [zTY] at hc;have e1 : a.toList = [] := by simpa using hc.1
    have e2 : c.toList = [] := by simpa using hc.2
    refine ⟨_, qJI hv hent, ?_⟩;rw [e1, e2, xG];simpa [mO] using ha
 ·rename_i g' first cap hfv
  cases h;rw [hfv] at hx
  cases hv : zHR.val x with
  | func fn fs cs =>
    rw [hv] at hx
    cases hx with
    | fn hf hc hfc hcc =>
      refine ⟨_, qJI hv hent, ?_⟩;rw [mO, mO, xG];exact VRL.append ⟨by simpa using hf, fun i x v a b => hfc i x v a (by simpa using b)⟩ (ha.append ⟨by simpa using hc, fun i x v a b => hcc i x v a (by simpa using b)⟩)
  | _ => rw [hv] at hx; cases hx
 ·cases h
theorem q9K (nm : Nm) {k : Nat} (h : fresh nm k env ph = true) : inP nm k = true ∧ yH k env = true ∧ eO k ph = true := by
 unfold fresh at h;simp only [zTY] at h;exact h
theorem qT3 (hF : oV F) (hns : fG P G nat) (ht : q1D P nat tab) {v : PV} (hR : Rel P f H w) (hG : aZ G f) (zHX : qE P f zHR a.tmps.toList)
 (hok : o.op.operands.toList.all (gD (zN f)) = true) (hp : Hp P Z H (own m ph)) (hb : H.base <= H.size) (he : VRL P Z H (own m ph) env zHR) (hx : gZ P tab inl (zM nm o.dst) o env ph = .ok v ph') (hn : needs o.op = true -> fresh nm (zM nm o.dst) env ph = true)
 (hK : ∀ (Z' : Nat -> Prop) (m' : Nat -> Nat) (u : Value) (H' : IH) (f' : Inj) (v' : Value) (w' : World), Hp P Z' H' (own m' ph') -> VR P Z' H' (own m' ph') v u -> VRL P Z' H' (own m' ph') env zHR -> Step Z H (own m ph) Z' H' (own m' ph') -> KR (inP nm) (own m ph) (own m' ph') ->
   Rel P f' H' w' -> Grow f H w f' H' w' -> zHQ P f' u v' -> K (a.put o.dst v') w') : o.wpIn F 0 P a w K Qx := by
 have plain : peO (q27 P o env (zM nm o.dst) ph) = .ok v ph' -> o.wpIn F 0 P a w K Qx := fun hx => by
  unfold peO at hx;split at hx
  ·rename_i r hr;cases hx;obtain ⟨u, H', Z', m', h1, h2, h3, h4, h5⟩ := q7V hp hb he (fun h => (q9K nm (hn h)).2) hr;refine uI (run := uQ) (nat := fun _ => none) (G := G) (Q := fun r => r = (u, H')) hF (qI5 qNA) qBW hR hG zHX hok ?_ ?_
   ·unfold qAB; rw [h1]; rfl
   ·rintro r v' w' f' rfl k1 k2 k3;refine hK Z' m' u H' f' v' w' h2 h3 ?_ h4 ?_ k1 k2 k3
    ·refine he.mono h4.zle h4.size (hp.zI9 h4) h5 fun j hj => ?_
     unfold nw at hj;rw [zTY] at hj;have : j = zM nm o.dst := by simpa using hj.2
     subst this;exact (q9K nm (hn hj.1)).2.1
    ·refine h5.up fun j hj => ?_
     unfold nw at hj;rw [zTY] at hj;have : j = zM nm o.dst := by simpa using hj.2
     subst this;exact (q9K nm (hn hj.1)).1
  ·cases hx
 unfold gZ at hx;split at hx
 ·rename_i x zH7 ts hop;obtain ⟨g, as, h1, h2⟩ := oP hx (fun h => by cases h) (fun _ _ _ h => by cases h);unfold mI at h2
  cases hi : inl g with
  | true => rw [hi] at h2; cases h2
  | false =>
    rw [hi] at h2;simp only [cond_false] at h2;unfold aK at h2;split at h2
    ·rename_i zIS ph1 hfz;split at h2
     ·rename_i r hr
      have hv : r = v ∧ cond (vZ r) ph ph1 = ph' := by
       injection h2 with e1 e2;exact ⟨e1, e2⟩
      obtain ⟨rfl, hph⟩ := hv;obtain ⟨hent, hfr, k, hk, zNR⟩ := ht g _ r hr;obtain ⟨zIK, q1, q2⟩ := qLF (o := o) (ts := ts) he h1 hent;obtain ⟨Z1, c1, r1⟩ := qPD hp q2 hfz
      let Q : Value × IH -> Prop := fun x => ∃ Z' : Nat -> Prop, Old H x.2 ∧ (∀ b, Z1 b -> Z' b) ∧ (∀ b, Z' b -> b < x.2.size) ∧ (∀ b, Z' b -> b < H.size -> Z1 b) ∧ VR P Z' x.2 (fun _ => none) r x.1
      have hQ : (k zIK H).holds Q := zNR Z1 H zIK (zAI r1) c1.hp.zlt hb c1.hp.gl Q fun v H' Z' a1 a2 a3 a4 a5 => ⟨Z', a1, a2, a3, a4, a5⟩
      refine uI (run := uQ) (nat := nat) (G := G) (Q := Q) hF (qI5 hns) qBW hR hG zHX hok ?_ ?_
      ·have : iop P o zHR H = some (.enter g zIK H) := by
        unfold iop; rw [hop]; exact q1
       unfold qAB;rw [this];show (kF uQ nat g zIK H).holds Q;unfold kF;rw [hk];exact hQ
      ·rintro ⟨u, H'⟩ v' w' f' ⟨Z', a1, a2, a3, a4, a5⟩ k1 k2 k3
       cases hpl : vZ r with
       | true =>
         rw [hpl] at hph;have hph : ph = ph' := hph;subst hph;have z1 : ∀ b, Z b -> b < H'.size := fun b hb => zUA (hp.zlt b hb) a1.size
         exact hK Z m u H' f' v' w' (hp.old a1 (fun _ h => h) z1 (fun _ h _ => h)) (qTH a5 hpl _ _ _) (he.mono (p := fun _ => false) (fun _ h => h) a1.size (fun b _ hb => a1.get b hb) (.refl _ _) (fun j hj => by cases hj)) (.old a1 (fun _ h => h) (fun _ h _ => h)) (.refl _ _) k1 k2 k3
       | false =>
         rw [hpl] at hph;have hph : ph1 = ph' := hph;subst hph;exact hK Z' m u H' f' v' w' (c1.hp.old a1 a2 a3 a4) (q38 a5 hfr) ((c1.vrl he).mono (p := fun _ => false) a2 a1.size (fun b _ hb => a1.get b hb) (.refl _ _) (fun j hj => by cases hj)) (c1.step.trans (.old a1 a2 a4)) (c1.kr _) k1 k2 k3
     ·cases h2
    ·cases h2
 ·exact plain hx
theorem q4D {f : Operand} {env : Env} {fs cs : Array Value} (hv : env.val f = .func (.func g) fs cs) (hx : zCP P g = true) : aA P ⟨.value f, zH7, ts⟩ env H = none := by
 unfold zCP at hx;unfold aA;simp only [hv];split at hx
 ·rename_i fn hfn;rw [zTY, zU0] at hx;simp only [hfn]
  have h1 : fn.body.isSome = false := by
   cases hb : fn.body with
   | none => rfl
   | some c => rw [hb] at hx; cases hx.1
  rw [h1, hx.2];simp
 ·cases hx
theorem qNC : ∀ {xs ys : List PV} {vs : List Value}, plL (xs ++ ys) = some vs -> ∃ a b, vs = a ++ b ∧ plL xs = some a ∧ plL ys = some b
 | [], ys, vs, h => ⟨[], vs, rfl, rfl, h⟩
 | x :: xs, ys, vs, h => by
   rw [zWU] at h;unfold plL at h;split at h
   ·rename_i v hv;split at h
    ·rename_i l hl;cases h;obtain ⟨a, b, rfl, h1, h2⟩ := qNC hl;refine ⟨v :: a, b, rfl, ?_, h2⟩;unfold plL;rw [hv, h1]
    ·cases h
   ·cases h
theorem q76 {vs : List Value} {v : Value} (hop : o.op = .call ⟨.value x, zH7, ts⟩) (he : VRL P Z H (own m ph) env zHR) (h : target (qN env x) (zH7.toList.map (qN env)) = some (g, as)) (hx : zCP P g = true) (hp : plL as = some vs) (zPO : (zX vs && kV (xN 2) vs) = true)
 (hs : yZ P (callFunc g vs.toArray) = some (.value v)) (hd : qKZ v = true) : iop P o zHR H = some (.val v H) := by
 have hx0 := qK he x;have ha := VRL.of he zH7.toList;rw [zTY] at zPO;obtain ⟨hpl, hp2⟩ := zPO
 have key : ∀ fs cs, zHR.val x = .func (.func g) fs cs -> fs.toList ++ (kS zHR.val zH7.toList ++ cs.toList) = vs -> zG (zHR.val x) = true -> iop P o zHR H = some (.val v H) := fun fs cs hv hvs hpv => by
  unfold iop;rw [hop];show yJ P o ⟨.value x, zH7, ts⟩ zHR H = _;unfold yJ;rw [q4D hv hx];unfold jF
  have hpo : zX (kS zHR.val o.op.operands.toList) = true := by
   rw [hop];have e : (Op.call ⟨.value x, zH7, ts⟩).operands.toList = x :: zH7.toList := by simp [Op.operands, Call.operands]
   rw [e, xG, zUB];rw [xG] at hvs
   have : zX (zH7.toList.map zHR.val) = true := by
    rw [<- hvs] at hpl;unfold zX at hpl ⊢;rw [xH] at hpl ⊢;exact fun a ha => hpl a (by simp only [zUQ]; exact .inr (.inl ha))
   unfold zX at this ⊢;rw [xM, hpv, this]; rfl
  rw [if_pos hpo]
  have he : execOp zHR.val o = (do let d <- resolve zHR.val ⟨.value x, zH7, ts⟩ o.type; invoke d.target d.args) := by
   unfold execOp;rw [hop]
  have hr : resolve zHR.val ⟨.value x, zH7, ts⟩ o.type = pure { target := .fn (.func g) cs, args := fs ++ zH7.map zHR.val } := by
   unfold resolve Deferred.ofValue;simp only [hv]
  have : execOp zHR.val o = callFunc g vs.toArray := by
   rw [he, hr];show invoke (.fn (.func g) cs) (fs ++ zH7.map zHR.val) = _;unfold invoke;simp only
   congr 1
   apply Array.toList_inj.1;rw [<- hvs, xG];simp
  rw [this, hs];show qCX H v = _;unfold qCX;rw [hd]; rfl
 unfold target at h;split at h
 ·rename_i g' a c hfv;rw [hfv] at hx0;have hv := yS hx0 rfl
  cases hc : (a.toList.isEmpty && c.toList.isEmpty) with
  | false => rw [hc] at h; cases h
  | true =>
    rw [hc] at h; cases h;rw [zTY] at hc;have e1 : a.toList = [] := by simpa using hc.1
    have e2 : c.toList = [] := by simpa using hc.2
    have e3 : a = #[] := by simpa using e1
    have e4 : c = #[] := by simpa using e2
    subst e3 e4;refine key _ _ hv ?_ (by rw [hv]; rfl);have := qK0 ha (by simpa using hp);rw [xG];simpa using this
 ·rename_i g' first cap hfv
  cases h;rw [hfv] at hx0;obtain ⟨a, b, rfl, p1, p2⟩ := qNC hp;obtain ⟨b, c, rfl, p3, p4⟩ := qNC p2
  cases hv : zHR.val x with
  | func fn fs cs =>
    rw [hv] at hx0
    cases hx0 with
    | fn hf hc hfc hcc =>
      have q1 := qK0 (vs := fs.toList) ⟨by simpa using hf, fun i x v a b => hfc i x v a (by simpa using b)⟩ p1;have q2 := qK0 (vs := cs.toList) ⟨by simpa using hc, fun i x v a b => hcc i x v a (by simpa using b)⟩ p4;have q3 := qK0 ha (by simpa using p3);refine key fs cs hv (by rw [q1, q2, xG]; rw [<- q3]) ?_;rw [hv];rw [xH] at hp2;show (q9U (.func g) && (kV (xN 2) fs.toList && kV (xN 2) cs.toList)) = true;rw [zTY, zTY, xH, xH];exact ⟨rfl, fun y hy => hp2 y (by rw [q1] at hy; simp [hy]), fun y hy => hp2 y (by rw [q2] at hy; simp [hy])⟩
  | _ => rw [hv] at hx0; cases hx0
 ·cases h
theorem qQG {p : Nat -> Bool} {env : List PV} : ∀ {ph : PHp} {k : Nat}, clean p env ph = true -> (p k && (qD k ph).isSome) = true -> yH k env = true
 | [], k, _, h => by simp [qD] at h
 | (j, o) :: ph, k, h, hk => by
   have h : ((!p j || yH j env) && clean p env ph) = true := h;rw [zTY] at h hk;obtain ⟨hk1, hk2⟩ := hk;have hk2 : (cond (k == j) (some o) (qD k ph)).isSome = true := hk2
   cases e : k == j with
   | true =>
     have : k = j := by simpa using e
     subst this;have := h.1;rw [hk1] at this;simpa using this
   | false =>
     rw [e] at hk2;exact qQG h.2 (by rw [hk1]; exact hk2)
theorem KR.act {p : Nat -> Bool} {M : Nat -> Option (Nat × PO)} {m : Nat -> Nat} {ph : PHp} (h : KR p M (own m ph)) : KR (fun k => p k && (qD k ph).isSome) M (own m ph) := fun k b ob hk => by
 rcases h k b ob hk with q | q | q
 ·exact .inl q
 ·exact .inr (.inl q)
 ·obtain ⟨hl, _⟩ := uO hk;exact .inr (.inr (by show (p k && (qD k ph).isSome) = true; rw [q, hl]; rfl))
theorem q7J (hF : oV F) {R : PV -> PHp -> Prop} (hR : Rel P f H w) (hG : aZ G f) (zHX : qE P f zHR a.tmps.toList)
 (hok : o.op.operands.toList.all (gD (zN f)) = true) (hp : Hp P Z H (own m ph)) (hb : H.base <= H.size) (he : VRL P Z H (own m ph) env zHR) (hx : gZ P tab inl (zM nm o.dst) o env ph = .call g as ph') (hc : qZC P G (qVR nm g) g as ph' R) (hcl : ∀ v ph2, R v ph2 -> clean (qVR nm g).p env ph2 = true)
 (hK : ∀ (Z' : Nat -> Prop) (m' : Nat -> Nat) (v : PV) (ph2 : PHp) (u : Value) (H' : IH) (f' : Inj) (v' : Value) (w' : World), R v ph2 -> Hp P Z' H' (own m' ph2) -> VR P Z' H' (own m' ph2) v u -> VRL P Z' H' (own m' ph2) env zHR -> Step Z H (own m ph) Z' H' (own m' ph2) -> KR (inP nm) (own m ph) (own m' ph2) ->
   Rel P f' H' w' -> Grow f H w f' H' w' -> zHQ P f' u v' -> K (a.put o.dst v') w') : o.wpIn F 0 P a w K Qx := by
 unfold gZ at hx;split at hx
 ·rename_i x zH7 ts hop;obtain ⟨g1, as1, h1, h2⟩ := oP hx (fun h => by cases h) (fun _ _ _ h => by cases h);unfold mI at h2
  cases hi : inl g1 with
  | false =>
    rw [hi] at h2;exfalso;have h2 : aK P tab g1 as1 ph = .call g as ph' := h2;unfold aK at h2;split at h2
    ·split at h2 <;> cases h2
    ·cases h2
  | true =>
    rw [hi] at h2;have h2 : PE.call g1 as1 ph = .call g as ph' := h2;cases h2
    rcases hc with ⟨hxt, vs, xv, x1, x2, x3, x4, x5⟩ | ⟨hent, hc⟩
    ·refine uI (run := uQ) (nat := fun _ => none) (G := G) (Q := fun r => r = (xv, H)) hF (qI5 qNA) qBW hR hG zHX hok ?_ ?_
     ·unfold qAB; rw [q76 hop he h1 hxt x1 x2 x3 x4]; rfl
     ·rintro r v' w' f' rfl k1 k2 k3;exact hK Z m _ _ xv H f' v' w' x5 hp (oK xv) he (.refl _ _ _) (.refl _ _) k1 k2 k3
    obtain ⟨zIK, q1, q2⟩ := qLF (o := o) (ts := ts) he h1 hent;have hci := hc Z H m zIK hp hb q2;refine uI (run := uQ) (nat := qFK g zIK H _) (G := G) hF (qI5 (zBN hci)) qBW hR hG zHX hok (Q := fun r => ∃ Z' m' pv ph', Hp P Z' r.2 (own m' ph') ∧ VR P Z' r.2 (own m' ph') pv r.1 ∧ Step Z H (own m ph) Z' r.2 (own m' ph') ∧ KR (qVR nm g).p (own m ph) (own m' ph') ∧ R pv ph') ?_ ?_
    ·have : iop P o zHR H = some (.enter g zIK H) := by
      unfold iop; rw [hop]; exact q1
     unfold qAB;rw [this];show (kF uQ (qFK g zIK H _) g zIK H).holds _;rw [q62];intro r hr;exact hr
    ·rintro ⟨u, H'⟩ v' w' f' ⟨Z', m', pv, ph2, b1, b2, b3, b4, b5⟩ k1 k2 k3
     exact hK Z' m' pv ph2 u H' f' v' w' b5 b1 b2 (he.mono b3.zle b3.size (hp.zI9 b3) (KR.act b4) fun j hj => qQG (hcl _ _ b5) hj) b3 (b4.up fun k h => by
      have h : (inB _ k && nm.p k) = true := h;rw [zTY] at h
      exact h.2) k1 k2 k3
 ·unfold peO at hx;split at hx <;> cases hx
end Go.Idl
namespace Go.Idl
variable [Gc]
variable {P : Program} {G : Nat -> Bool} {nat : xI} {tab : gY} {inl : FuncId -> Bool} {nm : Nm} {rd : Bool} {good : FuncId -> Bool}
structure zIN (P : Program) (good : FuncId -> Bool) (nat : xI) (G : Nat -> Bool) (tab : gY) : Prop where
 s : Setup P good nat G
 t : q1D P nat tab
abbrev PQ := zIX -> List PV -> PHp -> Prop
def Runs (P : Program) (G : Nat -> Bool) (rd : Bool) (nm : Nm) (c : Code) (env : List PV) (ph : PHp) (Q : PQ) : Prop :=
 ∀ (Z : Nat -> Prop) (H : IH) (m : Nat -> Nat) (zHR : Env), Hp P Z H (own m ph) -> H.base <= H.size -> VRL P Z H (own m ph) env zHR ->
  Holds P G rd c zHR H fun o => ∃ Z' m' env' ph', Hp P Z' o.H (own m' ph') ∧ VRL P Z' o.H (own m' ph') env' o.env ∧ Step Z H (own m ph) Z' o.H (own m' ph') ∧ KR (inP nm) (own m ph) (own m' ph') ∧ Q o.e env' ph'
theorem Runs.mono {c : Code} {env : List PV} {ph : PHp} {Q Q' : PQ} (h : Runs P G rd nm c env ph Q) (hq : ∀ e env ph, Q e env ph -> Q' e env ph) : Runs P G rd nm c env ph Q' :=
 fun Z H m zHR hp hb he => (h Z H m zHR hp hb he).mono fun o ⟨Z', m', env', ph', a, b, c, d, e⟩ => ⟨Z', m', env', ph', a, b, c, d, hq _ _ _ e⟩
inductive WkP : List PV -> List PV -> Prop
 | nil : WkP [] []
 | same {x : PV} {l m : List PV} (h : WkP l m) : WkP (x :: l) (x :: m)
 | any {x : PV} {l m : List PV} (h : WkP l m) : WkP (x :: l) (.unk :: m)
theorem WkP.rel {Z : Nat -> Prop} {H : IH} {M : Nat -> Option (Nat × PO)} {l m : List PV} (h : WkP l m) : ∀ {vs : List Value}, VRL P Z H M l vs -> VRL P Z H M m vs := by
 induction h with
 | nil => intro vs hx; exact hx
 | same _ ih => intro vs hx; obtain ⟨v, vs', rfl, h1, h2⟩ := hx.zHU; exact .cons h1 (ih h2)
 | any _ ih => intro vs hx; obtain ⟨v, vs', rfl, h1, h2⟩ := hx.zHU; exact .cons .unk (ih h2)
def qAX (p q : PHp) : Prop := ∀ k ob, qD k p = some ob -> qD k q = some ob
theorem qAX.refl (p : PHp) : qAX p p := fun _ _ h => h
def aO {σ ρ : Type} : Nat -> (σ -> Option (σ ⊕ ρ)) -> σ -> Option ρ
 | 0, _, _ => none
 | n + 1, f, s => match f s with
   | some (.inl s') => aO n f s'
   | some (.inr r) => some r
   | none => none
theorem qFS {σ ρ : Type} {f : σ -> Option (σ ⊕ ρ)} : ∀ {n : Nat} {s : σ} {r : ρ}, aO n f s = some r -> aO (n + 1) f s = some r
 | 0, _, _, h => by cases h
 | n + 1, s, r, h => by
   unfold aO at h ⊢
   cases hf : f s with
   | none => rw [hf] at h; cases h
   | some x =>
     rw [hf] at h
     cases x with
     | inl s' => exact qFS h
     | inr r => exact h
theorem qRV {σ ρ : Type} {f : σ -> Option (σ ⊕ ρ)} {n k : Nat} {s : σ} {r : ρ} (h : aO n f s = some r) (hk : n <= k) : aO k f s = some r := by
 induction hk with
 | refl => exact h
 | step _ ih => exact qFS ih
open Classical in
noncomputable def qJ {σ ρ : Type} (f : σ -> Option (σ ⊕ ρ)) (s : σ) : Option ρ := if h : ∃ r n, aO n f s = some r then some (Classical.choose h) else none
theorem qGL {σ ρ : Type} {f : σ -> Option (σ ⊕ ρ)} {n : Nat} {s : σ} {r : ρ} (h : aO n f s = some r) : qJ f s = some r := by
 have he : ∃ r n, aO n f s = some r := ⟨r, n, h⟩
 unfold qJ;rw [dif_pos he];obtain ⟨k, hk⟩ := Classical.choose_spec he;have h1 := qRV h (Nat.le_max_left n k);have h2 := qRV hk (Nat.le_max_right n k);rw [h1] at h2;exact h2.symm
theorem aW {σ ρ : Type} {f : σ -> Option (σ ⊕ ρ)} {s : σ} {r : ρ} (h : qJ f s = some r) : ∃ n, aO n f s = some r := by
 unfold qJ at h;split at h
 ·rename_i he;cases h;exact Classical.choose_spec he
 ·cases h
theorem qO {σ ρ : Type} (f : σ -> Option (σ ⊕ ρ)) (s : σ) : qJ f s = (match f s with
 | some (.inl s') => qJ f s'
 | some (.inr r) => some r
 | none => none) := by
 cases hf : f s with
 | none =>
   cases hl : qJ f s with
   | none => rfl
   | some r =>
     obtain ⟨n, hn⟩ := aW hl
     cases n with
     | zero => cases hn
     | succ n => unfold aO at hn; rw [hf] at hn; cases hn
 | some x =>
   cases x with
   | inr r => exact qGL (n := 1) (by unfold aO; rw [hf])
   | inl s' =>
     simp only
     cases hl : qJ f s' with
     | some r =>
       obtain ⟨n, hn⟩ := aW hl;exact qGL (n := n + 1) (by unfold aO; rw [hf]; exact hn)
     | none =>
       cases hl2 : qJ f s with
       | none => rfl
       | some r =>
         obtain ⟨n, hn⟩ := aW hl2
         cases n with
         | zero => cases hn
         | succ n => unfold aO at hn; rw [hf] at hn; rw [qGL hn] at hl; cases hl
end Go.Idl
namespace Go.Idl
variable [Gc]
variable {P : Program} {G : Nat -> Bool} {nat : xI} {tab : gY} {nm : Nm} {good : FuncId -> Bool} {Z : Nat -> Prop} {H : IH} {M : Nat -> Option (Nat × PO)}
variable {env xs : List PV} {g : FuncId} {zHR : Env} {m : Nat -> Nat} {ph : PHp} {v : Value} {vs : List Value} {x y : PV}
theorem FR.inter {Z0 : Nat -> Prop} {x : FV} (h0 : FR Z0 H x v) : ∀ {S : (Nat -> Prop) -> Prop}, (∀ Z, S Z -> FR Z H x v) -> FR (fun b => ∀ Z, S Z -> Z b) H x v := by
 induction h0 with
 | v hp h1 => exact fun _ => .v hp h1
 | nil h0 hs => exact fun _ => .nil h0 hs
 | @l el n cs b o sp c vs hz hb hn hs hl hc ih =>
   intro S hS;by_cases he : cs = [] ∧ n = 0
   ·obtain ⟨rfl, rfl⟩ := he;exact .nil (fun h => by cases h) (fun x h => by cases h; exact hs)
   ·refine .l (fun Z hZ => ?_) hb hn hs hl fun i x v h1 h2 => ih i x v h1 h2 fun Z hZ => ?_
    ·cases hS Z hZ with
     | nil => exact absurd ⟨rfl, rfl⟩ he
     | l hz => exact hz
    ·cases hS Z hZ with
     | nil => simp at h1
     | l _ _ _ _ hl' hc' =>
       rw [hl] at hl'; cases hl';exact hc' i x v h1 h2
theorem VR.inter {Z0 : Nat -> Prop} {x : PV} {v : Value} (h0 : VR P Z0 H (fun _ => none) x v) : ∀ {S : (Nat -> Prop) -> Prop}, (∀ Z, S Z -> VR P Z H (fun _ => none) x v) -> VR P (fun b => ∀ Z, S Z -> Z b) H (fun _ => none) x v := by
 induction h0 with
 | f h => exact fun hS => .f (h.inter fun Z hZ => by cases hS Z hZ with | f h => exact h)
 | agg hl hc ih => exact fun hS => .agg hl fun i x v h1 h2 => ih i x v h1 h2 fun Z hZ => by cases hS Z hZ with | agg _ hc' => exact hc' i x v h1 h2
 | tup hl hc ih => exact fun hS => .tup hl fun i x v h1 h2 => ih i x v h1 h2 fun Z hZ => by cases hS Z hZ with | tup _ hc' => exact hc' i x v h1 h2
 | own h1 h => exact fun _ => .own h1 fun b ob hM => by cases hM
 | ref h1 h => exact fun _ => .ref h1 fun b ob hM => by cases hM
 | mp h1 h => exact fun _ => .mp h1 fun b ob hM => by cases hM
 | @lp cs off b o vs hz hb hl hc =>
   intro S hS
   have key : ∀ Z, S Z -> ∃ b' o' vs', b' = b ∧ o' = o ∧ Z b' ∧ H.loads b' o' cs.length = some vs' ∧ ∀ (i : Nat) x v, cs[i]? = some x -> vs'[i]? = some v -> FR Z H x v := fun Z hZ => by
    generalize hq : (Value.pointer (some ⟨b, o + off, none⟩)) = q at hS;have h := hS Z hZ
    cases h with
    | lp hz' hb' hl' hc' =>
      simp only [Value.pointer.injEq, zT5, Addr.mk.injEq, and_true] at hq;obtain ⟨rfl, hq⟩ := hq;exact ⟨_, _, _, rfl, by omega, hz', hl', hc'⟩
   refine .lp (fun Z hZ => ?_) hb hl fun i x v h1 h2 => (hc i x v h1 h2).inter fun Z hZ => ?_
   ·obtain ⟨b', o', vs', rfl, rfl, q, _⟩ := key Z hZ; exact q
   ·obtain ⟨b', o', vs', rfl, rfl, _, q2, q3⟩ := key Z hZ;rw [hl] at q2; cases q2;exact q3 i x v h1 h2
 | fn hf hc hfc hcc i1 i2 => exact fun hS => .fn hf hc (fun i x v h1 h2 => i1 i x v h1 h2 fun Z hZ => by cases hS Z hZ with | fn _ _ q _ => exact q i x v h1 h2) (fun i x v h1 h2 => i2 i x v h1 h2 fun Z hZ => by cases hS Z hZ with | fn _ _ _ q => exact q i x v h1 h2)
 | yl => exact fun _ => .yl
 | unk => exact fun _ => .unk
def q6E (P : Program) (H : IH) (xs : List PV) (vs : List Value) : Nat -> Prop := fun b => ∀ Z, VRL P Z H (fun _ => none) xs vs -> Z b
theorem q55 (h : VRL P Z H (fun _ => none) xs vs) : VRL P (q6E P H xs vs) H (fun _ => none) xs vs :=
 ⟨h.len, fun i x v h1 h2 => (h.val i x v h1 h2).inter (S := fun Z => VRL P Z H (fun _ => none) xs vs) fun Z hZ => hZ.val i x v h1 h2⟩
theorem qYJ (h : VRL P Z H (fun _ => none) xs vs) {b : Nat} (hb : q6E P H xs vs b) : Z b := hb Z h
noncomputable def q4J (P : Program) (env : List PV) (ph : PHp) : ResultVar -> Option PV
 | .tmp t => some ((zL env t).getD .unk)
 | .cell a t => eG P t ((zL env a).getD .unk) ph
noncomputable def qH2 (P : Program) (env : List PV) (ph : PHp) : List ResultVar -> Option (List PV)
 | [] => some []
 | r :: l => match q4J P env ph r with
   | some v => (match qH2 P env ph l with
     | some vs => some (v :: vs)
     | none => none)
   | none => none
def qD4 : List PV -> PV
 | [v] => v
 | vs => .tup vs
noncomputable def gU (P : Program) (fn : Func) (env : List PV) (ph : PHp) : Option PV := (qH2 P env ph fn.results.toList).map fun xs => qD4 (rtL (rt1 P) fn.resultTypes.toList xs)
theorem q2E {r : ResultVar} (hp : Hp P Z H (own m ph)) (he : VRL P Z H (own m ph) env zHR) (h : q4J P env ph r = some x) : ∃ v, q2L P zHR H r = some v ∧ VR P Z H (own m ph) x v := by
 cases r with
 | tmp t => cases h; exact ⟨_, rfl, qK he (.tmp t)⟩
 | cell a t => exact qRP hp (qK he (.tmp a)) h
theorem qQ3 {m : Nat -> Nat} {ph : PHp} {env : List PV} {zHR : Env} (hp : Hp P Z H (own m ph)) (he : VRL P Z H (own m ph) env zHR) : ∀ {l : List ResultVar} {xs : List PV}, qH2 P env ph l = some xs -> ∃ vs, qND P zHR H l = some vs ∧ VRL P Z H (own m ph) xs vs
 | [], xs, h => by cases h; exact ⟨[], rfl, .nil⟩
 | r :: l, xs, h => by
   unfold qH2 at h;split at h
   ·rename_i x hx;split at h
    ·rename_i xs' hxs;cases h;obtain ⟨v, h1, h2⟩ := q2E hp he hx;obtain ⟨vs, h3, h4⟩ := qQ3 hp he hxs;exact ⟨v :: vs, by unfold qND; rw [h1, h3], .cons h2 h4⟩
    ·cases h
   ·cases h
theorem qB2 {fn : Func} (hp : Hp P Z H (own m ph)) (he : VRL P Z H (own m ph) env zHR) (h : gU P fn env ph = some x) : ∃ v, yU P fn zHR H = some v ∧ VR P Z H (own m ph) x v := by
 unfold gU at h;obtain ⟨xs, h1, rfl⟩ := zT6.1 h;obtain ⟨vs, h2, h3⟩ := qQ3 hp he h1
 replace h3 := qEQ (f := rt1 P) (ts := fn.resultTypes.toList) (fun t x v h => qEB h) h3
 revert h3
 generalize rtL (rt1 P) fn.resultTypes.toList xs = xs;intro h3;refine ⟨one vs, by unfold yU; rw [h2]; rfl, ?_⟩
 match xs, h3 with
 | [], h3 => rw [h3.zHV]; exact VRL.zJX (vs := #[]) .nil
 | [x], h3 =>
   obtain ⟨v, vs', rfl, a, b⟩ := h3.zHU;rw [b.zHV]; exact a
 | x :: y :: l, h3 =>
   obtain ⟨v, vs', rfl, a, b⟩ := h3.zHU;obtain ⟨v2, vs2, rfl, a2, b2⟩ := b.zHU;exact VRL.zJX (vs := (v :: v2 :: vs2).toArray) (by simpa using VRL.cons a (VRL.cons a2 b2))
noncomputable def fzR (P : Program) (ph : PHp) : PV -> Option PV
 | .tup xs => (match fzA P xs ph with
   | some (ys, _) => some (.tup ys)
   | none => none)
 | x => (match fzP P ph x with
   | some (y, _) => some y
   | none => none)
theorem zAE (hp : Hp P Z H (own m ph)) (hx : VR P Z H (own m ph) x v) (h : fzR P ph x = some y) : ∃ Z' ph', Fz P Z H m ph Z' ph' ∧ VR P Z' H (fun _ => none) y v := by
 unfold fzR at h;split at h
 ·split at h
  ·rename_i ys ph' hf;cases h;obtain ⟨vs, rfl, hr⟩ := hx.zL7;obtain ⟨Z', h1, h2⟩ := qPD hp hr hf;exact ⟨Z', ph', h1, h2.zJX⟩
  ·cases h
 ·split at h
  ·rename_i y' ph' hf;cases h;obtain ⟨Z', h1, h2⟩ := qLR hp hx hf;exact ⟨Z', ph', h1, h2⟩
  ·cases h
structure PEn (α : Type) where
 p : α -> PV
 inj : ∀ x y, p x = p y -> x = y
 uniq : ∀ (P : Program) (Z Z' : Nat -> Prop) (H : IH) (x y : α) (v : Value), VR P Z H (fun _ => none) (p x) v -> VR P Z' H (fun _ => none) (p y) v -> x = y
structure AEn (α : Type) where
 p : α -> List PV
 inj : ∀ x y, p x = p y -> x = y
 uniq : ∀ (P : Program) (Z Z' : Nat -> Prop) (H : IH) (x y : α) (vs : List Value), VRL P Z H (fun _ => none) (p x) vs -> VRL P Z' H (fun _ => none) (p y) vs -> x = y
open Classical in
noncomputable def ofF {α β : Type} (a : AEn α) (F : α -> Option β) (r : β -> PV) (xs : List PV) : Option PV :=
 if h : ∃ x, xs = a.p x then (F (Classical.choose h)).map r else none
theorem q5E {α β : Type} {a : AEn α} {F : α -> Option β} {r : β -> PV} (x : α) : ofF a F r (a.p x) = (F x).map r := by
 have h : ∃ y, a.p x = a.p y := ⟨x, rfl⟩
 unfold ofF;rw [dif_pos h];rw [<- a.inj _ _ (Classical.choose_spec h)]
theorem q68 {α β : Type} {a : AEn α} {F : α -> Option β} {r : β -> PV} (h : ofF a F r xs = some y) : ∃ x z, xs = a.p x ∧ F x = some z ∧ y = r z := by
 unfold ofF at h;split at h
 ·rename_i he;obtain ⟨z, h1, h2⟩ := zT6.1 h;exact ⟨_, z, Classical.choose_spec he, h1, h2.symm⟩
 ·cases h
def zAU (tab : gY) (g : FuncId) (F : List PV -> Option PV) : gY := fun x xs => cond (Nat.beq x g) (F xs) (tab x xs)
def q9Y {α β : Type} (P : Program) (a : AEn α) (F : α -> Option β) (x : α) (args : List Value) (H : IH) : Prop := (∃ Z : Nat -> Prop, VRL P Z H (fun _ => none) (a.p x) args ∧ ∀ b, Z b -> b < H.size) ∧ H.base <= H.size ∧ GlH H ∧ ∃ y, F x = some y
def q0W {α β : Type} (P : Program) (a : AEn α) (F : α -> Option β) (r : β -> PV) (x : α) (args : List Value) (H : IH) (v : Value) (H' : IH) : Prop := Old H H' ∧ ∃ y, F x = some y ∧ ∃ Z' : Nat -> Prop, (∀ b, Z' b -> b < H'.size) ∧ (∀ b, Z' b -> b < H.size -> q6E P H (a.p x) args b ∨ q9W b) ∧ VR P Z' H' (fun _ => none) (r y) v
def zFO {α β : Type} (P : Program) (G : Nat -> Bool) (g : FuncId) (nm : Nm) (a : AEn α) (F : α -> Option β) (r : β -> PV) : Prop :=
 ∃ fn c, P.funcs[g]? = some fn ∧ fn.body = some c ∧ ∀ x y, F x = some y -> ∃ N, fn.ntmps = N ∧ Runs P G false nm c (a.p x ++ List.replicate (N - (a.p x).length) .unk) [] fun e env ph => (e = .normal ∨ e = .ret) ∧ ∃ r0, gU P fn env ph = some r0 ∧ fzR P ph r0 = some (r y)
theorem zIN.zJE {α β : Type} (s : zIN P good nat G tab) (a : AEn α) (F : α -> Option β) (r : β -> PV) (hent : enters P g = true) (hfr : ∀ y, q6L (r y) = true)
 (h : ∀ (x : α) (y : β) (args : List Value) (H : IH), F x = some y -> (∃ Z : Nat -> Prop, VRL P Z H (fun _ => none) (a.p x) args ∧ ∀ b, Z b -> b < H.size) -> H.base <= H.size -> GlH H -> rX P G g args H fun q => q0W P a F r x args H q.1 q.2) :
 zIN P good (zJM nat g (fun (x : α × List Value) args H => x.2 = args ∧ q9Y P a F x.1 args H) (fun x H v H' => q0W P a F r x.1 x.2 H v H')) G (zAU tab g (ofF a F r)) := by
 have uniq : ∀ (x y : α × List Value) (args : List Value) (H : IH), (x.2 = args ∧ q9Y P a F x.1 args H) -> (y.2 = args ∧ q9Y P a F y.1 args H) -> x = y := by
  rintro ⟨x, as⟩ ⟨y, bs⟩ args H ⟨e1, ⟨Z1, h1, _⟩, _⟩ ⟨e2, ⟨Z2, h2, _⟩, _⟩;simp only at e1 e2 h1 h2;subst e1 e2;rw [a.uniq P Z1 Z2 H x y _ h1 h2]
 refine ⟨s.s.zJM _ _ ?_, ?_⟩
 ·rintro ⟨x, as⟩ args H ⟨e1, ⟨Z0, h0, hz0⟩, hb, hgl, y, hy⟩;simp only at e1 h0 hy;subst e1;exact h x y as H hy ⟨Z0, h0, hz0⟩ hb hgl
 ·intro g' zJR r' ht;unfold zAU at ht
  cases hg : Nat.beq g' g with
  | false =>
    rw [hg] at ht;obtain ⟨t1, t2, k, t3, t4⟩ := s.t g' zJR r' ht;refine ⟨t1, t2, k, ?_, t4⟩;unfold zJM; rw [hg]; exact t3
  | true =>
    rw [hg] at ht;have hg' : g' = g := zTZ hg;subst hg';obtain ⟨x, y, rfl, hF, rfl⟩ := q68 ht;refine ⟨hent, hfr y, _, by unfold zJM; rw [hg]; rfl, ?_⟩;intro Z H args hv hz hb hgl Q hQ
    have hpre : (fun (x : α × List Value) args H => x.2 = args ∧ q9Y P a F x.1 args H) (x, args) args H := ⟨rfl, ⟨Z, hv, hz⟩, hb, hgl.h hz, y, hF⟩
    rw [zAD uniq hpre];rintro ⟨v, H'⟩ ⟨o1, y', hy', Z', o2, o3, o4⟩;simp only at hy' o4;rw [hF] at hy'; cases hy';refine hQ v H' (fun b => Z b ∨ Z' b) o1 (fun b h => .inl h) ?_ ?_ ?_
    ·rintro b (h | h)
     ·exact zUA (hz b h) o1.size
     ·exact o2 b h
    ·rintro b (h | h) hlt
     ·exact h
     ·rcases o3 b h hlt with q | ⟨o, q⟩
      ·exact qYJ hv q
      ·exact (hgl b o q).1
    ·exact o4.mono (p := fun _ => false) (fun _ h => .inr h) (zT0 _) (fun _ _ _ => rfl) (.refl _ _) fun j hj => by cases hj
theorem zIN.add {α β : Type} (s : zIN P good nat G tab) {nm : Nm} (a : AEn α) (F : α -> Option β) (r : β -> PV) (hent : enters P g = true) (hfr : ∀ y, q6L (r y) = true) (h : zFO P G g nm a F r) :
 zIN P good (zJM nat g (fun (x : α × List Value) args H => x.2 = args ∧ q9Y P a F x.1 args H) (fun x H v H' => q0W P a F r x.1 x.2 H v H')) G (zAU tab g (ofF a F r)) :=
 s.zJE a F r hent hfr fun x y as H hy ⟨Z0, h0, hz0⟩ hb hgl => by
  obtain ⟨fn, c, q1, q2, q3⟩ := h;obtain ⟨N, hN, hrun⟩ := q3 x y hy;have hf := (q55 h0).mono (p := fun _ => false) (Z' := fun b => q6E P H (a.p x) as b ∨ q9W b) (fun _ h => .inl h) (zT0 _) (fun _ _ _ => rfl) (.refl _ _) (fun j hj => by cases hj)
  have zRW : ∀ b, q6E P H (a.p x) as b ∨ q9W b -> b < H.size := fun b hb => by
   rcases hb with hb | ⟨o, hb⟩
   ·exact hz0 b (qYJ h0 hb)
   ·exact (hgl b o hb).1
  refine rX.of q1 q2 hN ?_
  have hp0 : Hp P (fun b => q6E P H (a.p x) as b ∨ q9W b) H (own (fun _ => 0) []) := ⟨zRW, fun k b ob hk => (by cases hk), fun k k' b b' ob ob' hk => (by cases hk), fun g o hg => ⟨.inr ⟨o, hg⟩, (hgl g o hg).2⟩⟩
  have e0 : own (fun _ => 0) [] = fun _ => none := rfl
  have hlen := h0.len
  have zHX : VRL P (fun b => q6E P H (a.p x) as b ∨ q9W b) H (own (fun _ => 0) []) (a.p x ++ List.replicate (N - (a.p x).length) .unk) (as ++ List.replicate (N - as.length) undef) := by
   rw [hlen];refine VRL.append hf ⟨by simp, fun i z v h1 h2 => ?_⟩;rw [zX2] at h1;split at h1
   ·cases h1; exact .unk
   ·cases h1
  refine (hrun _ H _ _ hp0 hb zHX).mono ?_;rintro o ⟨Z', m', env', ph', a1, b1, c1, d1, he, r0, hr0, hfz⟩;refine ⟨he, ?_⟩;obtain ⟨v, v1, v2⟩ := qB2 a1 b1 hr0;obtain ⟨Z2, ph2, w1, w2⟩ := zAE a1 v2 hfz;have noO : ∀ b, ¬ qTG (own (fun _ => 0) []) b := fun b ⟨k, ob, hk, _⟩ => by cases hk
  refine ⟨v, v1, ⟨c1.size, c1.base, fun b hb => c1.keep b hb (noO b)⟩, y, hy, Z2, w1.hp.zlt, fun b hb hlt => ?_, w2⟩;rcases w1.zI3 b hb with h | h
  ·rcases c1.zI3 b h hlt with h | h
   ·exact h
   ·exact absurd h (noO b)
  ·exact absurd (c1.onew b h hlt) (noO b)
end Go.Idl
namespace Go.Idl
variable [Gc]
variable {P : Program} {G : Nat -> Bool} {nat : xI} {tab : gY} {inl : FuncId -> Bool} {nm : Nm} {good : FuncId -> Bool} {Z : Nat -> Prop} {H : IH} {M : Nat -> Option (Nat × PO)}
variable {args : List PV} {c : Int} {ph' : PHp} {v : Value} {w : Bool} {ws : List Value} {xs : List FV}
theorem q0I {x : Value} (h : FR Z H (.v x) v) : v = x := by cases h; rfl
theorem FRL.zHU {x : FV} (h : FRL Z H (x :: xs) ws) : ∃ v vs, ws = v :: vs ∧ FR Z H x v ∧ FRL Z H xs vs := by
 cases ws with
 | nil => have := h.len; simp at this
 | cons v vs => exact ⟨v, vs, rfl, h.val 0 x v rfl rfl, by have := h.len; simpa using this, fun i y u h1 h2 => h.val (i + 1) y u (by simpa using h1) (by simpa using h2)⟩
theorem FRL.split {ys : List FV} (h : FRL Z H (xs ++ ys) ws) : FRL Z H xs (ws.take xs.length) ∧ FRL Z H ys (ws.drop xs.length) := by
 have hl := h.len;rw [zUK] at hl;refine ⟨⟨by simp; omega, fun i x v h1 h2 => ?_⟩, ⟨by simp; omega, fun i x v h1 h2 => ?_⟩⟩
 ·have hi := (zT2.1 h1).1;rw [zVI, if_pos hi] at h2;exact h.val i x v (by rw [zU7 hi]; exact h1) h2
 ·rw [zVR] at h2;exact h.val (xs.length + i) x v (by rw [zVF (by omega)]; simpa using h1) h2
theorem qJ5 {el n n' : Nat} {cs cs' : List FV} {Z' : Nat -> Prop} (a : FR Z H (.l el n cs) v) (b : FR Z' H (.l el n' cs') v) : n = n' ∧ ∃ vs vs', FRL Z H cs vs ∧ FRL Z' H cs' vs' ∧ (cs.length = cs'.length -> vs = vs') := by
 cases a with
 | nil h0 hs =>
   cases b with
   | nil => exact ⟨rfl, [], [], ⟨rfl, fun i x v h => by simp at h⟩, ⟨rfl, fun i x v h => by simp at h⟩, fun _ => rfl⟩
   | l hz hb hn hs' hl hc => exact ⟨rfl, [], _, ⟨rfl, fun i x v h => by simp at h⟩, ⟨(kC hl).symm, hc⟩, fun e => by
      have := kC hl;rw [<- e] at this
      exact (zVP.1 this).symm⟩
 | l hz hb hn hs hl hc =>
   cases b with
   | nil => exact ⟨rfl, _, [], ⟨(kC hl).symm, hc⟩, ⟨rfl, fun i x v h => by simp at h⟩, fun e => by
      have := kC hl;rw [e] at this
      exact zVP.1 this⟩
   | l hz' hb' hn' hs' hl' hc' => exact ⟨rfl, _, _, ⟨(kC hl).symm, hc⟩, ⟨(kC hl').symm, hc'⟩, fun e => by
      rw [e] at hl;rw [hl] at hl'
      exact zVT hl'⟩
theorem zBC : ∀ (l m : List FV), l.map PV.f = m.map PV.f -> l = m
 | [], [], _ => rfl
 | [], y :: m, h => by cases h
 | x :: l, [], h => by cases h
 | x :: l, y :: m, h => by
   simp only [zUB, zU4, PV.f.injEq] at h;rw [h.1, zBC l m h.2]
theorem qML {vs : List Value} (h : VRL P Z H M (xs.map .f) vs) : FRL Z H xs vs := ⟨by simpa using h.len, fun i x v h1 h2 => by
 have := h.val i (.f x) v (by simp [h1]) h2
 cases this with
 | f h => exact h⟩
section
variable {ds : List (Option Tmp)} {o : Oper} {l : List Oper} {env : List PV} {ph : PHp}
noncomputable def qR1 (P : Program) (tab : gY) (inl : FuncId -> Bool) (nm : Nm) (ds : List (Option Tmp)) (o : Oper) (l : List Oper) (env : List PV) (ph : PHp) : PE -> PT
 | .fail => .fail
 | .ok v ph' => q6Z (needs o.op) (zM nm o.dst) nm env ph (pops P tab inl nm ds l (yO env o.dst v) ph')
 | .call g args ph' => .call (qVR nm g) g args ph' fun v ph2 => .chk (clean (qVR nm g).p env ph2) (pops P tab inl nm ds l (yO env o.dst v) ph2)
 | .rnd x args ph' => .rnd x args ph' fun v ph2 => pops P tab inl nm ds l (yO env o.dst v) ph2
noncomputable def pgo (P : Program) (tab : gY) (inl : FuncId -> Bool) (nm : Nm) (ds : List (Option Tmp)) (o : Oper) (l : List Oper) (env : List PV) (ph : PHp) (c : Option Bool) : PT :=
 wN c (qR1 P tab inl nm ds o l env ph (gZ P tab inl (zM nm o.dst) o env ph)) (pops P tab inl nm ds l (yO env o.dst (.tup [])) ph) .fail
theorem qUK : pops P tab inl nm ds (o :: l) env ph = pgo P tab inl nm ds o l env ph (fC ds o env) := by
 unfold pops pgo qR1;cases gZ P tab inl (zM nm o.dst) o env ph <;> rfl
theorem q2Z : pgo P tab inl nm ds o l env ph (some true) = qR1 P tab inl nm ds o l env ph (gZ P tab inl (zM nm o.dst) o env ph) := Eq.trans rfl rfl
theorem qV9 : pgo P tab inl nm ds o l env ph (some false) = pops P tab inl nm ds l (yO env o.dst (.tup [])) ph := Eq.trans rfl rfl
theorem qOW {v : PV} : qR1 P tab inl nm ds o l env ph (.ok v ph') = q6Z (needs o.op) (zM nm o.dst) nm env ph (pops P tab inl nm ds l (yO env o.dst v) ph') := Eq.trans rfl rfl
theorem qSW {g : FuncId} : qR1 P tab inl nm ds o l env ph (.call g args ph') = .call (qVR nm g) g args ph' fun v ph2 => .chk (clean (qVR nm g).p env ph2) (pops P tab inl nm ds l (yO env o.dst v) ph2) := Eq.trans rfl rfl
theorem qU6 {x : Nat} : qR1 P tab inl nm ds o l env ph (.rnd x args ph') = .rnd x args ph' fun v ph2 => pops P tab inl nm ds l (yO env o.dst v) ph2 := Eq.trans rfl rfl
noncomputable def qQD (w : Bool) : Option PV -> Option Bool
 | some v => qQ2 w v
 | none => none
theorem qMU {t : Tmp} : qRT w env (some t) = qQD w (zL env t) := by
 show (match zL env t with | some v => qQ2 w v | none => none) = qQD w (zL env t);cases zL env t <;> rfl
theorem qC7 {b : Bool} : qQD w (some (fvv (.bool b))) = some (b == w) := rfl
theorem qSH : qQD w (some (.tup [])) = some false := rfl
theorem qSE {t : Tmp} {v : PV} : yO env (some t) v = yT env t v := rfl
theorem nP (n : Nat) : Nat.beq n n = true := by simp
end
section
variable {t t2 : TypeId} {k : IntKind} {a b : Int} {ph : PHp}
theorem bB {op : BinOp} (h : mG op k a b = some v) (hv : ofC v = fvv v) : bC P op t t2 (fvv (.int k a)) (fvv (.int k b)) ph = some (fvv v) := by
 rw [<- hv];unfold bC;simp only [fvv, pl, zCX, cond_false];rw [q6R h]; rfl
theorem zBE : bC P .lss t t2 (fvv (.int k a)) (fvv (.int k b)) ph = some (fvv (.bool (decide (a < b)))) := bB rfl rfl
theorem zAM : bC P .leq t t2 (fvv (.int k a)) (fvv (.int k b)) ph = some (fvv (.bool (decide (a <= b)))) := bB rfl rfl
theorem zB0 : bC P .gtr t t2 (fvv (.int k a)) (fvv (.int k b)) ph = some (fvv (.bool (decide (b < a)))) := bB rfl rfl
theorem q94 : bC P .geq t t2 (fvv (.int k a)) (fvv (.int k b)) ph = some (fvv (.bool (decide (b <= a)))) := bB rfl rfl
theorem zCB : bC P .eql t t2 (fvv (.int k a)) (fvv (.int k b)) ph = some (fvv (.bool (a == b))) := bB rfl rfl
theorem zCH : bC P .neq t t2 (fvv (.int k a)) (fvv (.int k b)) ph = some (fvv (.bool (a != b))) := bB rfl rfl
theorem q9H : bC P .add t t2 (fvv (.int k a)) (fvv (.int k b)) ph = some (fvv (.int k (k.wrap (a + b)))) := bB rfl rfl
theorem q9V : bC P .sub t t2 (fvv (.int k a)) (fvv (.int k b)) ph = some (fvv (.int k (k.wrap (a - b)))) := bB rfl rfl
theorem zA8 : bC P .mul t t2 (fvv (.int k a)) (fvv (.int k b)) ph = some (fvv (.int k (k.wrap (a * b)))) := bB rfl rfl
def qAE (k : IntKind) (a b : Int) : Option Int := if b = 0 then none else some (k.wrap (a.tdiv b))
def qP1 (a b : Int) : Option Int := if b = 0 then none else some (a.tmod b)
theorem zAL (h : qAE k a b = some c) : bC P .quo t t2 (fvv (.int k a)) (fvv (.int k b)) ph = some (fvv (.int k c)) := by
 unfold qAE at h;split at h
 ·cases h
 ·rename_i hb;cases h;exact bB (v := .int k (k.wrap (a.tdiv b))) (by unfold mG; simp only [if_neg hb]) rfl
theorem zBG (h : qP1 a b = some c) : bC P .rem t t2 (fvv (.int k a)) (fvv (.int k b)) ph = some (fvv (.int k c)) := by
 unfold qP1 at h;split at h
 ·cases h
 ·rename_i hb;cases h;exact bB (v := .int k (a.tmod b)) (by unfold mG; simp only [if_neg hb]) rfl
theorem q9M {x : Bool} : bH P (fun a => .unOp .not t a) (fvv (.bool x)) = some (fvv (.bool !x)) := rfl
end
end Go.Idl
namespace Go.Idl
variable [Gc]
variable {P : Program} {G : Nat -> Bool} {nat : xI} {tab : gY} {nm : Nm}
variable {b kx m v x y : PV} {env env' : List PV} {k l : Nat} {o : Oper} {ob : PO} {ph ph' : PHp} {t : TypeId} {ts : Array TypeId}
def dl1 : PV -> List Nat
 | .own k _ _ _ => [k]
 | .ref k _ _ => [k]
 | .mp k => [k]
 | _ => []
noncomputable def dlO (o : Oper) (env : List PV) : List Nat := o.op.operands.toList.flatMap fun x => dl1 (qN env x)
theorem qBB {x : Operand} (hx : x ∈ o.op.operands) (hk : k ∈ dl1 (qN env x)) : k ∈ dlO o env := List.mem_flatMap.2 ⟨x, zU9.1 hx, hk⟩
theorem qDC {ps : List (Nat × Operand)} (h : ∀ x ∈ ps.map (·.2), qN env x = qN env' x) : (ps.map fun p => (p.1, qN env p.2)) = ps.map fun p => (p.1, qN env' p.2) :=
 zU5 fun p hp => by rw [h p.2 (zUN.2 ⟨p, hp, rfl⟩)]
theorem qS1 (P : Program) {x : Operand} (h : qN env x = qN env' x) (ha : (pl (qN env x)).isSome = true) : (qTJ env).val x = (qTJ env').val x := by
 obtain ⟨a, ha⟩ := zVD.1 ha;rw [bX P ha, bX P (h ▸ ha)]
theorem qJV {b : Builtin} {args : Array Operand} {ty : TypeId} (h : ∀ x ∈ args, qN env x = qN env' x) :
 vL P b ⟨.builtin b, args, ts⟩ (args.toList.map (qN env)) env ty ph = vL P b ⟨.builtin b, args, ts⟩ (args.toList.map (qN env')) env' ty ph := by
 have e : args.toList.map (qN env) = args.toList.map (qN env') := zU5 fun x hx => h x (zU9.2 hx)
 unfold vL;rw [<- e]
 cases hp : plL (args.toList.map (qN env)) with
 | none => rfl
 | some vs =>
   simp only
   have : jF P (cop (.call ⟨.builtin b, args, ts⟩) ty) (qTJ env) H00 = jF P (cop (.call ⟨.builtin b, args, ts⟩) ty) (qTJ env') H00 := by
    refine sF (fun cs b h => by cases h) fun x hx => ?_
    have hx' : x ∈ args := by simpa [Op.operands, Call.operands, cop] using hx
    obtain ⟨a, ha⟩ := qHX hp (qN env x) (zUN.2 ⟨x, by simpa using hx', rfl⟩);exact qS1 P (h x hx') (by rw [ha]; rfl)
   rw [this]
theorem qSS {o : Oper} (h : ∀ x ∈ o.op.operands, qN env x = qN env' x) : qDS P o env k ph = qDS P o env' k ph := by
 obtain ⟨d, op, ty, pos, aft, g⟩ := o;cases op <;> simp only [Op.operands] at h <;> simp only [qDS]
 case move x => rw [h x (by simp)]
 case assign x => rw [h x (by simp)]
 case pick c a b => rw [h c (by simp), h a (by simp), h b (by simp)]
 case box el x => rw [h x (by simp)]
 case build t ps => rw [qDC fun x hx => h x (by simpa using hx)]
 case buildSlice t n ps => rw [qDC fun x hx => h x (by simpa using hx)]
 case load t a => rw [h a (by simp)]
 case store t a x => rw [h a (by simp), h x (by simp)]
 case binOp op t x y t2 => rw [h x (by simp), h y (by simp)]
 case unOp op t x => rw [h x (by simp)]
 case convert s t x => rw [h x (by simp)]
 case makeFunc fn first cap =>
  rw [zU5 (l := first.toList) fun x hx => h x (zWG.2 (.inl (zU9.2 hx))), zU5 (l := cap.toList) fun x hx => h x (zWG.2 (.inr (zU9.2 hx)))]
 case makeSlice t l c => rw [h l (by simp), h c (by simp)]
 case slice t x lo hi mx =>
  cases mx with
  | some m => rfl
  | none =>
    have e1 : lo.map (qN env) = lo.map (qN env') := by cases lo <;> simp_all
    have e2 : hi.map (qN env) = hi.map (qN env') := by cases hi <;> simp_all
    have e3 : (lo.toList ++ hi.toList).map (qN env) = (lo.toList ++ hi.toList).map (qN env') := by cases lo <;> cases hi <;> simp_all
    have e4 : lo.map (fun a => Operand.const ((pl (qN env a)).getD undef)) = lo.map fun a => Operand.const ((pl (qN env' a)).getD undef) := by cases lo <;> simp_all
    have e5 : hi.map (fun a => Operand.const ((pl (qN env a)).getD undef)) = hi.map fun a => Operand.const ((pl (qN env' a)).getD undef) := by cases hi <;> simp_all
    simp only [h x (by simp), e1, e2, e3, e4, e5]
 case fieldAddr t x i => rw [h x (by simp)]
 case indexAddr t x ix => rw [h x (by simp), h ix (by simp)]
 case index t x ix => rw [h x (by simp), h ix (by simp)]
 case extract t i => rw [h t (by simp)]
 case makeMap t r => cases r <;> rfl
 case lookup t x kx ok => rw [h x (by simp), h kx (by simp)]
 case insert t m kx x => rw [h m (by simp), h kx (by simp), h x (by simp)]
 case mapEntry t m kx => rw [h m (by simp), h kx (by simp)]
 case entryStore t m st x => rw [h m (by simp), h st (by simp), h x (by simp)]
 case range t x => rw [h x (by simp)]
 case call c =>
  obtain ⟨cal, args, ts⟩ := c;simp only [Call.operands] at h;have ha : ∀ x ∈ args, qN env x = qN env' x := fun x hx => h x (by cases cal <;> simp [hx])
  have e : args.toList.map (qN env) = args.toList.map (qN env') := zU5 fun x hx => ha x (zU9.2 hx)
  cases cal with
  | builtin b =>
    have hD := qJV (P := P) (b := b) (ts := ts) (ty := ty) (ph := ph) ha;simp only [gL]
    cases b <;> simp only [e] at hD ⊢ <;> first | rfl | exact hD | skip
    rw [<- e] at hD;rw [<- e]
    cases hl : args.toList.map (qN env) with
    | nil => rfl
    | cons x l =>
      cases l with
      | nil =>
        simp only;rw [hl] at hD;rw [hD]
      | cons => rfl
  | invoke r n => rfl
  | value f => rfl
theorem fB (h : l ≠ k) : qD l ((k, ob) :: ph) = qD l ph := by
 have : (l == k) = false := by simpa using h
 show cond (l == k) (some ob) (qD l ph) = _;rw [this]; rfl
theorem qBP (h : qJ6 k ob v ph = some (y, ph')) (hl : l ≠ k) : qD l ph' = qD l ph := by
 obtain ⟨_, rfl⟩ := uM h;exact fB hl
theorem qF7 {r : PO × Nat × List MapEntry} (h : vX P m ph = some (k, r)) : m = .mp k := by
 unfold vX at h;split at h
 ·split at h
  ·rename_i ob _
   cases hc : (spec P ob.el && Nat.beq ob.el 1000000001) with
   | false => rw [hc] at h; cases h
   | true =>
     rw [hc] at h;simp only [cond_true] at h;split at h
     ·cases h; rfl
     ·cases h
  ·cases h
 ·cases h
theorem qIS (h : l ≠ k) : qD l (xP k ob ph) = qD l ph := by rw [zZ, if_neg (fun e => h e.1)]
theorem qKB (h : jM P t m kx x ph = some ph') (hl : l ∉ dl1 m) : qD l ph' = qD l ph := by
 unfold jM at h;split at h
 case h_2 => cases h
 rename_i kt et k ob c es kv xv hu hm hkv hxv;have e := qF7 hm;subst e;have hne : l ≠ k := fun e => hl (by rw [e]; simp [dl1])
 cases hc : qY xv with
 | false => rw [hc] at h; cases h
 | true =>
   rw [hc] at h;simp only [cond_true] at h;split at h
   ·split at h
    ·rename_i e _
     cases hs : Instr.sameBits 10000 e.key kv with
     | false => rw [hs] at h; cases h
     | true => rw [hs] at h; cases h; exact qIS hne
    ·cases h
   ·cases h; exact qIS hne
   ·cases h
theorem qOD (h : kD P t m kx ph = some (y, ph')) (hl : l ∉ dl1 m) : qD l ph' = qD l ph := by
 unfold kD at h;split at h
 case h_2 => cases h
 rename_i kt et k ob c es kv hu hm hkv;have e := qF7 hm;subst e;have hne : l ≠ k := fun e => hl (by rw [e]; simp [dl1])
 split at h
 ·split at h
  ·rename_i e _;have h := (kE h).2;cases h; exact qIS hne
  ·cases h
 ·split at h
  ·rename_i z _;have h := (kE h).2;cases h; exact qIS hne
  ·cases h
 ·cases h
theorem qDV (h : kD P t m kx ph = some (y, ph')) : kI P t m kx false ph' = kI P t m kx false ph := by
 unfold kD at h;split at h
 case h_2 => cases h
 rename_i kt et k ob c es kv hu hm hkv;have e := qF7 hm;subst e
 have hob : qD k ph = some ob ∧ (spec P ob.el && Nat.beq ob.el 1000000001) = true := by
  unfold vX at hm;simp only at hm;split at hm
  ·rename_i ob' ho;obtain ⟨c1, h2⟩ := kE hm;split at h2
   ·cases h2; exact ⟨ho, c1⟩
   ·cases h2
  ·cases hm
 have hm' : ∀ c' es', vX P (.mp k) (xP k { ob with cs := kN c' es' } ph) = some (k, { ob with cs := kN c' es' }, c', es') := fun c' es' => by
  unfold vX;simp only [zZ, hob.1, zW6, and_self, if_true, hob.2, cond_true, qF9]
 split at h
 ·rename_i i hi;split at h
  ·rename_i e he;obtain ⟨hc, h⟩ := kE h;rw [zTY] at hc;cases h;unfold kI;simp only [hu, hm', hm, hkv, qT9 hc.2, hi, zYF, he, if_true];rfl
  ·cases h
 ·rename_i hi;split at h
  ·rename_i z hz;obtain ⟨hc, h⟩ := kE h;rw [zTY] at hc;cases h;unfold kI;simp only [hu, hm', hm, hkv, qT9 hc.2, hi, hz, hc.1, cond_true];simp [q00]
  ·cases h
 ·cases h
theorem qGB {st : PV} (h : kM P m st x ph = some ph') (hl : l ∉ dl1 m) : qD l ph' = qD l ph := by
 unfold kM at h;split at h
 case h_2 => cases h
 rename_i k ob c es ki born xv hm hst hxv;have e := qF7 hm;subst e;have hne : l ≠ k := fun e => hl (by rw [e]; simp [dl1])
 cases hc : qY xv with
 | false => rw [hc] at h; cases h
 | true =>
   rw [hc] at h;simp only [cond_true] at h;split at h
   ·cases h; exact qIS hne
   ·cases h
theorem q99 (h : qDS P o env k ph = some (v, ph')) (hk : l ≠ k) (hd : l ∉ dlO o env) : qD l ph' = qD l ph := by
 obtain ⟨d, op, ty, pos, aft, g⟩ := o;have one : ∀ {r : Option PV}, pp1 ph r = some (v, ph') -> qD l ph' = qD l ph := fun h => by rw [(yA h).2]
 have nin : ∀ x ∈ op.operands, l ∉ dl1 (qN env x) := fun x hx hl => hd (qBB (o := ⟨d, op, ty, pos, aft, g⟩) hx hl)
 cases op <;> simp only [qDS] at h <;> (try (cases h; done)) <;> (try (exact one h))
 case move => cases h; rfl
 case assign => cases h; rfl
 case pick => split at h <;> cases h; rfl
 case alloc el =>
  unfold qFA at h;split at h
  ·exact qBP (gF h).2 hk
  ·cases h
 case box el x =>
  unfold q85 at h
  cases hc : (!(spec P el) && (pnt (qN env x) && (zT (qN env x)).all rT)) with
  | true => rw [hc] at h; exact qBP h hk
  | false => rw [hc] at h; cases h
 case buildSlice t n ps =>
  unfold jR at h;split at h
  ·split at h
   ·rename_i s z _ _
    cases hc : (Nat.beq z.length (s + 1) && Nat.ble (n * (s + 1)) 65536) with
    | true =>
      rw [hc] at h;simp only [cond_true] at h;split at h
      ·exact qBP h hk
      ·cases h
    | false => rw [hc] at h; cases h
   ·cases h
  ·cases h
 case store t a x =>
  unfold ppS at h;split at h
  ·rename_i ph1 hs;cases h;unfold bE at hs;split at hs
   ·rename_i k' tt off ha;have hne : l ≠ k' := fun e => nin a (by simp [Op.operands]) (by rw [ha, e]; simp [dl1])
    split at hs
    ·split at hs
     ·rename_i ob _ _ n _
      replace hs := (gF hs).2
      cases hc : (Nat.beq tt ob.cs.length && (Nat.beq n (zT (qN env x)).length && (Nat.ble (off + n) ob.cs.length && (pnt (qN env x) && (zT (qN env x)).all rT)))) with
      | true => rw [hc] at hs; cases hs; rw [zZ, if_neg (fun h => hne h.1)]
      | false => rw [hc] at hs; cases hs
     ·cases hs
    ·cases hs
   ·cases hs
  ·cases h
 case convert s t x =>
  cases hc : qTO (qN env x) with
  | true => rw [hc] at h; cases h
  | false => rw [hc] at h; exact one h
 case makeSlice t a b =>
  unfold vV at h;split at h
  ·rename_i el k1 n1 k2 m1 _ _ _
   cases hc : decide (n1 = m1) with
   | false => rw [hc] at h; cases h
   | true =>
     rw [hc] at h;simp only [cond_true] at h;split at h
     ·rename_i n s z _ _ _
      cases hc : (wT P el && Nat.beq z.length (s + 1)) with
      | true => rw [hc] at h; exact qBP h hk
      | false => rw [hc] at h; cases h
     ·cases h
  ·cases h
 case slice t x lo hi mx =>
  cases mx with
  | some => cases h
  | none =>
    simp only at h;split at h
    ·split at h
     ·exact one h
     ·cases h
    ·exact one h
 case index => split at h <;> exact one h
 case makeMap t r =>
  cases r with
  | some _ => cases h
  | none =>
    unfold dF at h
    cases hc : spec P 1000000001 with
    | false => rw [hc] at h; cases h
    | true => rw [hc] at h; exact qBP h hk
 case insert t m kx x =>
  unfold ppS at h;split at h
  ·rename_i ph1 hs;cases h;exact qKB hs (nin m (by simp [Op.operands]))
  ·cases h
 case mapEntry t m kx => exact qOD h (nin m (by simp [Op.operands]))
 case entryStore t m st x =>
  unfold ppS at h;split at h
  ·rename_i ph1 hs;cases h;exact qGB hs (nin m (by simp [Op.operands]))
  ·cases h
 case range t x =>
  unfold qFR at h;split at h
  ·split at h
   ·rename_i j ob c es hm
    cases hc : (spec P 1000000002 && !(j == k)) with
    | false => rw [hc] at h; cases h
    | true => rw [hc] at h; exact qBP h hk
   ·cases h
  ·cases h
 case call c =>
  obtain ⟨cal, args, ts⟩ := c;split at h
  ·rename_i b hb;simp only at hb;subst hb
   have dry : vL P b ⟨.builtin b, args, ts⟩ (args.toList.map (qN env)) env ty ph = some (v, ph') -> qD l ph' = qD l ph := fun h => by
    unfold vL at h;split at h
    ·exact one h
    ·cases h
   have mem : ∀ x, x ∈ args.toList.map (qN env) -> l ∉ dl1 x := fun x hx => by
    obtain ⟨a, ha, rfl⟩ := zUN.1 hx;exact nin a (by simpa [Op.operands, Call.operands] using ha)
   unfold gL at h;split at h
   ·split at h
    ·rename_i x y hxy;have hx : l ∉ dl1 x := mem x (by rw [hxy]; simp);unfold aC at h
     have grow : ∀ {el s : Nat} {old : List PV} {n : Nat} {new : List PV} {mm kk : Nat} {php : PHp}, qB8 P el s old n new mm kk php = some (v, ph') -> l ≠ kk -> qD l ph' = qD l php := fun hg hkk => by
      unfold qB8 at hg;rename_i el s old n new mm kk php
      cases hc : (Nat.ble (n + mm) 1048576 && (wT P el && (Nat.beq (old.length) (n * s) && (Nat.beq new.length (mm * s) && new.all rT)))) with
      | true => rw [hc] at hg; exact qBP hg hkk
      | false => rw [hc] at hg; cases hg
     split at h
     ·split at h
      ·split at h
       ·split at h
        ·rename_i el _ _ _ _ s _ _ mm new _;split at h
         ·cases h0 : Nat.beq mm 0 with
          | true => rw [h0] at h; cases h; rfl
          | false => rw [h0] at h; exact grow h hk
         ·rename_i j tt o n;have hj : l ≠ j := fun e => hx (by rw [e]; simp [dl1])
          split at h
          ·rename_i ob hl
           cases hc : (Nat.beq ob.el el && (Nat.beq (tt * (s + 1)) ob.cs.length && Nat.beq o 0)) with
           | false => rw [hc] at h; cases h
           | true =>
             rw [hc] at h;simp only [cond_true] at h
             cases h0 : Nat.beq mm 0 with
             | true => rw [h0] at h; cases h; rfl
             | false =>
               rw [h0] at h;simp only [cond_false] at h
               cases hr : Nat.ble (n + mm) tt with
               | true =>
                 rw [hr] at h;simp only [cond_true] at h
                 cases hc2 : (Nat.beq new.length (mm * (s + 1)) && new.all rT) with
                 | true => rw [hc2] at h; cases h; rw [zZ, if_neg (fun h => hj h.1)]
                 | false => rw [hc2] at h; cases h
               | false =>
                 rw [hr] at h;simp only [cond_false] at h
                 cases hn : Nat.beq n tt with
                 | false => rw [hn] at h; cases h
                 | true =>
                   rw [hn] at h;simp only [cond_true] at h
                   cases hg : ob.gr with
                   | true => rw [hg] at h; rw [grow h hj, wC, if_neg hj]
                   | false => rw [hg] at h; exact grow h hk
          ·cases h
         ·cases h
        ·cases h
       ·cases h
      ·cases h
     ·cases h
    ·cases h
   ·split at h
    ·cases hc : q0E P ts with
     | true => rw [hc] at h; exact dry h
     | false => rw [hc] at h; exact one h
    ·cases h
   ·exact dry h
   ·exact dry h
   ·cases h
  ·cases h
theorem q6P {a : PV} (h : eG P t a ph = some x) (hd : ∀ l ∈ dl1 a, qD l ph' = qD l ph) : eG P t a ph' = some x := by
 cases a <;> first | exact h | skip
 rename_i k tt off;have := hd k (by simp [dl1]);unfold eG at h ⊢;simp only [this];exact h
theorem q5U {tt : Nat} (h : qD k ph' = qD k ph) : live? k tt ph' = live? k tt ph := by unfold live?; rw [h]
theorem q14 {a : PV} {lo hi : Option PV} (h : uL P t a lo hi ph = some x) (hd : ∀ l ∈ dl1 a, qD l ph' = qD l ph) : uL P t a lo hi ph' = some x := by
 unfold uL at h ⊢;split at h
 ·exact h
 ·exact h
 ·rename_i k tt o n;rw [hd k (by simp [dl1])]; exact h
 ·rename_i k tt;rw [hd k (by simp [dl1])]; exact h
 ·cases h
theorem qKG {a : PV} {i : Nat} (h : zY P t a i ph = some x) (hd : ∀ l ∈ dl1 a, qD l ph' = qD l ph) : zY P t a i ph' = some x := by
 cases a <;> first | exact h | skip
 rename_i k tt off;have := q5U (tt := tt) (hd k (by simp [dl1]));unfold zY at h ⊢;simp only [this];exact h
theorem qIU {a ix : PV} (h : zB P t a ix ph = some x) (hd : ∀ l ∈ dl1 a, qD l ph' = qD l ph) : zB P t a ix ph' = some x := by
 unfold zB at h ⊢;split at h
 ·split at h
  ·exact h
  ·rename_i k tt o n;rw [hd k (by simp [dl1])]; exact h
  ·rename_i k tt off;rw [q5U (tt := tt) (hd k (by simp [dl1]))]; exact h
  ·exact h
  ·cases h
 ·cases h
theorem q9P {a : PV} (h : q0Z P ts a ph = some x) (hd : ∀ l ∈ dl1 a, qD l ph' = qD l ph) : q0Z P ts a ph' = some x := by
 unfold q0Z at h ⊢;split at h
 ·split at h
  ·split at h
   ·exact h
   ·exact h
   ·rename_i k tt o n;rw [hd k (by simp [dl1])]; exact h
   ·cases h
  ·exact h
 ·cases h
theorem q6M {a : PV} (h : qDX P ts a ph = some x) (hd : ∀ l ∈ dl1 a, qD l ph' = qD l ph) : qDX P ts a ph' = some x := by
 have e : tN P a ph' = tN P a ph := by
  cases a <;> first | rfl | skip
  rename_i k;unfold tN;simp only [hd k (by simp [dl1])]
 unfold qDX at h ⊢;rw [e];split at h
 ·exact h
 ·exact q9P h hd
theorem qXE {m : PV} {ok : Bool} (h : kI P t m kx ok ph = some x) (hd : ∀ l ∈ dl1 m, qD l ph' = qD l ph) : kI P t m kx ok ph' = some x := by
 have e : vX P m ph' = vX P m ph := by
  cases m <;> first | rfl | skip
  rename_i k;unfold vX;simp only [hd k (by simp [dl1])]
 unfold kI at h ⊢;rw [e]; exact h
theorem q8V {a : PV} {b : Bool} (h : isNil (P := P) a ph = some b) (hd : ∀ l ∈ dl1 a, qD l ph' = qD l ph) : isNil (P := P) a ph' = some b := by
 unfold isNil at h ⊢;split at h
 ·exact h
 ·exact h
 ·rename_i k tt o n;rw [hd k (by simp [dl1])]; exact h
 ·cases h
theorem q44 {a : PV} {r : Bool} (h : q0D P t a b ph = some r) (hd : ∀ l ∈ dl1 a, qD l ph' = qD l ph) : q0D P t a b ph' = some r := by
 unfold q0D at h ⊢;split at h
 ·cases hc : (xD P t).isSome with
  | true => rw [hc] at h; exact q8V h hd
  | false => rw [hc] at h; cases h
 ·exact h
 ·cases h
theorem zBF {op : BinOp} {t2 : TypeId} {a : PV} (h : bC P op t t2 a b ph = some x) (hd : ∀ l ∈ dl1 a, qD l ph' = qD l ph) : bC P op t t2 a b ph' = some x := by
 unfold bC at h ⊢;split at h
 ·exact h
 ·split at h
  ·obtain ⟨r, h1, rfl⟩ := zT6.1 h;rw [q44 h1 hd]; rfl
  ·obtain ⟨r, h1, rfl⟩ := zT6.1 h;rw [q44 h1 hd]; rfl
  ·cases h
theorem zAK {o : Oper} {env : List PV} {ph1 : PHp} (hf : yR o = false) (ha : qM o = false) (h : qDS P o env k ph = some (v, ph1)) :
 ph1 = ph ∧ ∀ (k' : Nat) (ph' : PHp), (∀ l ∈ dlO o env, qD l ph' = qD l ph) -> qDS P o env k' ph' = some (v, ph') := by
 obtain ⟨d, op, ty, pos, aft, g⟩ := o;have mem : ∀ {x : Operand} {ph' : PHp}, x ∈ op.operands -> (∀ l ∈ dlO ⟨d, op, ty, pos, aft, g⟩ env, qD l ph' = qD l ph) -> ∀ l ∈ dl1 (qN env x), qD l ph' = qD l ph := fun hx hd l hl => hd l (qBB (o := ⟨d, op, ty, pos, aft, g⟩) hx hl)
 have one : ∀ {f : PHp -> Option PV}, pp1 ph (f ph) = some (v, ph1) -> (∀ {x ph'}, (∀ l ∈ dlO ⟨d, op, ty, pos, aft, g⟩ env, qD l ph' = qD l ph) -> f ph = some x -> f ph' = some x) -> ph1 = ph ∧ ∀ (k' : Nat) (ph' : PHp), (∀ l ∈ dlO ⟨d, op, ty, pos, aft, g⟩ env, qD l ph' = qD l ph) -> pp1 ph' (f ph') = some (v, ph') := fun h hk => by
  obtain ⟨h1, h2⟩ := yA h;exact ⟨h2, fun k' ph' hd => by rw [hk hd h1]; rfl⟩
 have hne : xJ ⟨d, op, ty, pos, aft, g⟩ = .pure ∨ xJ ⟨d, op, ty, pos, aft, g⟩ = .read := qGX hf ha
 cases op <;> simp only [qDS] at h ⊢ <;> (try (cases h; done))
 case move => cases h; exact ⟨rfl, fun _ _ _ => rfl⟩
 case assign => cases h; exact ⟨rfl, fun _ _ _ => rfl⟩
 case pick c a b =>
  split at h
  ·rename_i t ht;cases h;refine ⟨rfl, fun _ _ _ => ?_⟩;simp only [ht]
  ·cases h
 case alloc => simp only [xJ] at hne; split at hne <;> (rcases hne with h | h <;> cases h)
 case box => rcases hne with h | h <;> cases h
 case buildSlice => rcases hne with h | h <;> cases h
 case store => rcases hne with h | h <;> cases h
 case makeSlice => rcases hne with h | h <;> cases h
 case build t ps =>
  obtain ⟨h1, h2⟩ := yA h;exact ⟨h2, fun k' ph' hd => by rw [h1]; rfl⟩
 case load t a => exact one (f := fun q => eG P t (qN env a) q) h fun hd h => q6P h (mem (by simp [Op.operands]) hd)
 case binOp op t x y t2 => exact one (f := fun q => bC P op t t2 (qN env x) (qN env y) q) h fun hd h => zBF h (mem (by simp [Op.operands]) hd)
 case unOp op t x => exact one (f := fun _ => bH P (fun a => .unOp op t a) (qN env x)) h fun _ h => h
 case convert s t x =>
  cases hc : qTO (qN env x) with
  | true => rw [hc] at h; cases h
  | false =>
    rw [hc] at h;simp only [cond_false] at h ⊢;exact one (f := fun _ => bH P (fun a => .convert s t a) (qN env x)) h fun _ h => h
 case makeFunc fn a b => exact one (f := fun _ => j4 fn (a.toList.map (qN env)) (b.toList.map (qN env))) h fun _ h => h
 case slice t x lo hi mx =>
  cases mx with
  | some => cases h
  | none =>
    simp only at h ⊢;split at h
    ·rename_i s hs;split at h
     ·rename_i vs hvs;exact one (f := fun _ => qOE P (.slice t (.const (.string s)) (lo.map fun a => .const ((pl (qN env a)).getD undef)) (hi.map fun a => .const ((pl (qN env a)).getD undef)) none)) h fun _ h => h
     ·cases h
    ·exact one (f := fun q => uL P t (qN env x) (lo.map (qN env)) (hi.map (qN env)) q) h fun hd h => q14 h (mem (by cases lo <;> cases hi <;> simp [Op.operands]) hd)
 case fieldAddr t x i => exact one (f := fun q => zY P t (qN env x) i q) h fun hd h => qKG h (mem (by simp [Op.operands]) hd)
 case indexAddr t x ix => exact one (f := fun q => zB P t (qN env x) (qN env ix) q) h fun hd h => qIU h (mem (by simp [Op.operands]) hd)
 case index t x ix =>
  split at h
  ·rename_i s j hs hj;exact one (f := fun _ => qOE P (.index t (.const (.string s)) (.const j))) h fun _ h => h
  ·exact one (f := fun _ => qEN P t (qN env x) (qN env ix)) h fun _ h => h
 case extract t i => exact one (f := fun _ => dV (qN env t) i) h fun _ h => h
 case makeMap => rcases hne with h | h <;> cases h
 case lookup t x kx ok => exact one (f := fun q => kI P t (qN env x) (qN env kx) ok q) h fun hd h => qXE h (mem (by simp [Op.operands]) hd)
 case insert => rcases hne with h | h <;> cases h
 case mapEntry => rcases hne with h | h <;> cases h
 case entryStore => rcases hne with h | h <;> cases h
 case range => rcases hne with h | h <;> cases h
 case call c =>
  obtain ⟨cal, args, ts⟩ := c;split at h
  ·rename_i b hb;simp only at hb;subst hb
   have dry : ∀ {b : Builtin}, vL P b ⟨.builtin b, args, ts⟩ (args.toList.map (qN env)) env ty ph = some (v, ph1) -> ph1 = ph ∧ ∀ ph', vL P b ⟨.builtin b, args, ts⟩ (args.toList.map (qN env)) env ty ph' = some (v, ph') := fun h => by
    unfold vL at h ⊢;split at h
    ·obtain ⟨h1, h2⟩ := yA h;exact ⟨h2, fun ph' => by rw [h1]; rfl⟩
    ·cases h
   unfold gL at h;split at h
   ·rcases hne with h | h <;> cases h
   ·split at h
    ·rename_i x hx
     obtain ⟨a1, ha1, rfl⟩ : ∃ a1, args = #[a1] ∧ x = qN env a1 := by
      cases hq : args.toList with
      | nil => rw [hq] at hx; cases hx
      | cons a l =>
        rw [hq] at hx
        cases l with
        | nil =>
          simp only [zUB, zWE, zU4, and_true] at hx
          exact ⟨a, by have e9 : args = args.toList.toArray := by simp
                       rw [e9, hq], hx.symm⟩
        | cons => cases hx
     subst ha1
     cases hc : q0E P ts with
     | true =>
       rw [hc] at h;obtain ⟨h1, h2⟩ := dry h;refine ⟨h1, fun k' ph' hd => ?_⟩;unfold gL;simp only [zUB, zWE, hc, cond_true];exact h2 ph'
     | false =>
       rw [hc] at h;obtain ⟨h1, h2⟩ := yA h;refine ⟨h2, fun k' ph' hd => ?_⟩;unfold gL;simp only [zUB, zWE, hc, cond_false];rw [q6M h1 (mem (by simp [Op.operands, Call.operands]) hd)]; rfl
    ·cases h
   ·obtain ⟨h1, h2⟩ := dry h;exact ⟨h1, fun k' ph' hd => h2 ph'⟩
   ·obtain ⟨h1, h2⟩ := dry h;exact ⟨h1, fun k' ph' hd => h2 ph'⟩
   ·cases h
  ·cases h
end Go.Idl
