/- Runs told by plain values, part two. Conditions: none. -/
import Derived.Test.YtpdlblofcdcikaaGreatDoorPur7
set_option linter.all false
namespace Go.Idl
variable [Gc]
variable {P : Program} {Z : Nat -> Prop} {H : IH} {M : Nat -> Option (Nat × PO)} {m : Nat -> Nat} {ph : PHp}
theorem qK4 {s n k : Nat} {a : Option Addr} {len c : Nat} {vs : List Value} (h : jA s n H (.slice a len c) = some vs) (hk : k <= n) : jA s k H (.slice a len c) = some (vs.take (k * s)) := by
 by_cases hk0 : k = 0
 ·subst hk0; simp [jA, xQ]
 ·unfold jA at h ⊢;rw [if_neg (by omega)] at h;rw [if_neg hk0];unfold wI at h ⊢
  cases a with
  | none => simp only at h; split at h <;> first | omega | cases h
  | some a =>
    simp only at h ⊢;unfold IH.loads at h ⊢;split at h
    ·rename_i cc el fz hg;split at h
     ·cases h;have : k * s <= n * s := Nat.mul_le_mul_right _ hk;rw [if_pos (by omega), List.take_take]
      congr 2; omega
     ·cases h
    ·cases h
theorem qX4 {j : Nat} {ob : PO} (hl : qC j ph = some ob) : own m (vO j ob ph) = own m ph := by
 funext k
 unfold own;rw [zW];by_cases h : k = j
 ·subst h; rw [if_pos ⟨rfl, by rw [hl]; rfl⟩, hl]
 ·rw [if_neg (fun h' => h h'.1)]
theorem qY9 {l : List PV} {i : Nat} : kE l i [] = l := by unfold kE; simp
theorem qXN {p : Nat -> Bool} {ts : List TypeId} {base x y : PV} {vb vx : Value} {ph' : PHp} (hp : Hp P Z H (own m ph)) (hbase : VR P Z H (own m ph) base vb) (hx : VR P Z H (own m ph) x vx) (h : qF7 P ts base x ph = some (y, ph')) :
 Res P Z H m ph p y ph' (qA3 P ts.toArray [vb, vx] H) := by
 unfold qF7 at h;split at h
 ·rename_i st xt;split at h
  ·rename_i el el2 he he2;split at h
   ·rename_i s hs;split at h
    ·rename_i mm new hnew;obtain ⟨vs, a, c, rfl, hf, hr, hlen⟩ := qN2 hp hx hnew
     have icp : ∀ bs n cap, qA3 P #[st, xt] [.slice bs n cap, .slice a mm c] H = uQ bs (Nat.min mm n) (vs.take (Nat.min mm n * (s + 1))) H := fun bs n cap => by
      unfold qA3;have hs' : szT P el = some (s + 1) := hs;simp only [zX he, hs', xQ, qK4 hf (Nat.min_le_left mm n)]
     split at h
     ·rename_i j tt o n;split at h
      ·rename_i ob hl
       cases hc : (Nat.beq ob.el el && (Nat.beq (tt * (s + 1)) ob.cs.length && (Nat.beq new.length (mm * (s + 1)) && new.all nH))) with
       | false => rw [hc] at h; cases h
       | true =>
         rw [hc] at h; cases h;simp only [Bool.and_eq_true] at hc;obtain ⟨c1, c2, c3, c4⟩ := hc;have e1 := Nat.eq_of_beq_eq_true c1;have e2 := Nat.eq_of_beq_eq_true c2;subst e1;have hv1 := hr.one c4;obtain ⟨hO, hpos⟩ := uS hbase hl hs e2;rw [show ([st, xt] : List TypeId).toArray = #[st, xt] from rfl]
         have same : ∀ s', (s' = some (.val (goInt (Nat.min mm n)) H)) -> new.take (Nat.min mm n * (s + 1)) = [] -> Res P Z H m ph p (fvv (.int .i64 ((Nat.min mm n : Nat) : Int))) (vO j { ob with cs := kE ob.cs (o * (s + 1)) (new.take (Nat.min mm n * (s + 1))) } ph) s' := fun s' hs' h0 => by
          rw [h0, qY9];have e : own m (vO j { ob with cs := ob.cs } ph) = own m ph := qX4 hl;refine ⟨goInt (Nat.min mm n), H, Z, m, hs', ?_, xR rfl, ?_, ?_⟩
          ·rw [e]; exact hp
          ·rw [e]; exact .refl _ _ _
          ·rw [e]; exact .refl _ _
         rcases hO with ⟨g1, rfl, rfl, rfl, rfl⟩ | ⟨g1, g2, g3, rfl⟩
         ·rw [icp];exact same _ rfl (by simp)
         ·have hre := bX e2 hpos g1;obtain ⟨w1, w2, w3, ws, q1, q2, q3⟩ := hp.real hl hre (jS hs);rw [icp];by_cases h0 : (vs.take (Nat.min mm n * (s + 1))) = []
          ·rw [h0];refine same _ rfl ?_;have := (hr.take (Nat.min mm n * (s + 1))).len;rw [h0] at this;exact List.length_eq_zero_iff.1 this
          ·have hle : (o + n) * (s + 1) <= tt * (s + 1) := Nat.mul_le_mul_right _ g2;rw [Nat.add_mul] at hle;have hmn : Nat.min mm n * (s + 1) <= n * (s + 1) := Nat.mul_le_mul_right _ (Nat.min_le_right mm n);have hlt : (new.take (Nat.min mm n * (s + 1))).length <= n * (s + 1) := by simp only [List.length_take]; omega
           have h1 : (vs.take (Nat.min mm n * (s + 1))).all oneCell = true := by
            rw [List.all_eq_true] at hv1 ⊢;exact fun x hx => hv1 x (List.mem_of_mem_take hx)
           obtain ⟨r1, r2, r3⟩ := hp.put (cs := kE ob.cs (o * (s + 1)) (new.take (Nat.min mm n * (s + 1)))) hl hre (jS hs) (dV (by omega)) (q2.over (hr.take (Nat.min mm n * (s + 1))) (o * (s + 1))) (qAA q3 h1);refine ⟨goInt (Nat.min mm n), _, Z, m, ?_, r1, xR rfl, r2, r3 _⟩;unfold uQ
           have hne : (vs.take (Nat.min mm n * (s + 1))).isEmpty = false := by
            cases hq : vs.take (Nat.min mm n * (s + 1)) with
            | nil => exact absurd hq h0
            | cons => rfl
           simp only [hne, Bool.false_eq_true, if_false]
           have hst : H.stores (m j) (o * (s + 1)) (vs.take (Nat.min mm n * (s + 1))) = some (H.put (m j) (.cells (overwrite ws (o * (s + 1)) (vs.take (Nat.min mm n * (s + 1)))).toArray ob.el (cond ob.gr qX (0, 0)))) := by
            unfold IH.stores;rw [q1];simp only [];rw [if_pos];simp only [qR9, h1, w2, decide_true, Bool.and_true, Bool.true_and, decide_eq_true_eq, List.size_toArray];rw [<- q2.len, <- (hr.take (Nat.min mm n * (s + 1))).len]; omega
           rw [hst]
      ·cases h
     ·cases h;obtain ⟨ab, cb, rfl⟩ := qT0 hbase;have h0 : Nat.min mm 0 = 0 := Nat.min_zero mm;refine .same ?_ hp (xR (v := .int .i64 0) rfl);rw [show ([st, xt] : List TypeId).toArray = #[st, xt] from rfl, icp, h0];cases ab <;> simp [uQ, goInt]
     ·cases h;have := zU hbase rfl;subst this;have h0 : Nat.min mm 0 = 0 := Nat.min_zero mm;refine .same ?_ hp (xR (v := .int .i64 0) rfl);rw [show ([st, xt] : List TypeId).toArray = #[st, xt] from rfl, icp, h0];simp [uQ, goInt]
     ·cases h
    ·cases h
   ·cases h
  ·cases h
 ·cases h
theorem zP {o : Option PV} {y : PV} {ph' : PHp} (h : pp1 ph o = some (y, ph')) : o = some y ∧ ph' = ph := by
 unfold pp1 at h;split at h
 ·cases h; exact ⟨rfl, rfl⟩
 ·cases h
theorem VRL.of {env : List PV} {ienv : Env} (he : VRL P Z H M env ienv) : ∀ (l : List Operand), VRL P Z H M (l.map (qL env)) (l.map ienv.val)
 | [] => .nil
 | x :: l => .cons (qE he x) (VRL.of he l)
theorem qFS {k : Nat} {env : List PV} (h : yV k env = true) (x : Operand) : noK k (qL env x) = true := by
 cases x with
 | tmp t =>
   show noK k ((zM env t).getD .unk) = true;rw [qH]
   cases he : env[t]? with
   | none => rfl
   | some y => exact gD h he
 | const v =>
   show noK k (ofC v) = true;unfold ofC q29;split
   ·rename_i cs; cases kU okC cs.toList with
    | true => exact p9 k _
    | false => rfl
   ·rename_i cs; cases kU okC cs.toList with
    | true => exact p9 k _
    | false => rfl
   ·cases okC v <;> rfl
 | global g => rfl
 | func g => rfl
theorem qNO {k : Nat} {env : List PV} (h : yV k env = true) : ∀ (l : List (Nat × Operand)), yV k ((l.map fun p => (p.1, qL env p.2)).map (·.2)) = true
 | [] => rfl
 | p :: l => by simp only [List.map_cons, yV, qFS h, qNO h l, Bool.and_self]
theorem Res.up {p q : Nat -> Bool} {v : PV} {ph' : PHp} {s : Option Step1} (h : Res P Z H m ph p v ph' s) (hq : ∀ j, p j = true -> q j = true) : Res P Z H m ph q v ph' s := by
 obtain ⟨u, H', Z', m', h1, h2, h3, h4, h5⟩ := h
 exact ⟨u, H', Z', m', h1, h2, h3, h4, fun j b ob hM => by
  rcases h5 j b ob hM with h | h | h
  ·exact .inl h
  ·exact .inr (.inl h)
  ·exact .inr (.inr (hq j h))⟩
def nw (o : Op) (k : Nat) : Nat -> Bool := fun j => needs o && (j == k)
theorem q02 {o : Oper} {env : List PV} {ienv : Env} {k : Nat} {y : PV} {ph' : PHp} (hp : Hp P Z H (own m ph)) (hb : H.base <= H.size) (he : VRL P Z H (own m ph) env ienv) (hn : needs o.op = true -> yV k env = true ∧ pG k ph = true) (h : qHK P o env k ph = some (y, ph')) :
 Res P Z H m ph (nw o.op k) y ph' (iop P o ienv H) := by
 obtain ⟨d, op, ty, pos, aft, g⟩ := o;have fin : ∀ {x : PV} {s : Option Step1}, (∃ u, s = some (.val u H) ∧ VR P Z H (own m ph) x u) -> Res P Z H m ph (nw op k) x ph s := fun ⟨u, h1, h2⟩ => .same h1 hp h2
 have finO : ∀ {x : PV} {s : Option Value}, (∃ u, s = some u ∧ VR P Z H (own m ph) x u) -> Res P Z H m ph (nw op k) x ph (Step1.ofO H s) := fun ⟨u, h1, h2⟩ => .same (by rw [h1]; rfl) hp h2
 cases op <;> simp only [qHK] at h <;> (try (cases h; done)) <;> simp only at hn fin finO
 case move x => cases h; exact fin ⟨_, rfl, qE he x⟩
 case assign x => cases h; exact fin ⟨_, rfl, qE he x⟩
 case pick c a b =>
  split at h
  ·rename_i t ht;cases h;have hc := qE he c;rw [ht] at hc;have hv := zU hc rfl;refine fin ⟨cond t (ienv.val a) (ienv.val b), ?_, ?_⟩
   ·show qHS (ienv.val c) _ _ H = _;rw [hv]; rfl
   ·cases t
    ·exact qE he b
    ·exact qE he a
  ·cases h
 case alloc el =>
  obtain ⟨n1, n2⟩ := hn rfl;exact (qTR hp hb n2 h).up fun j hj => hj
 case box el x =>
  obtain ⟨n1, n2⟩ := hn rfl;exact (q0X hp hb n2 (qE he x) (qFS n1 x) h).up fun j hj => hj
 case build t ps =>
  obtain ⟨h1, rfl⟩ := zP h;exact finO (qRW (qRK he _) h1)
 case buildSlice t len ps =>
  obtain ⟨n1, n2⟩ := hn rfl;exact (qDG hp hb n2 (qRK he _) (qNO n1 _) h).up fun j hj => hj
 case load t a =>
  obtain ⟨h1, rfl⟩ := zP h;exact finO (qOO hp (qE he a) h1)
 case store t a x =>
  unfold ppS at h;split at h
  ·rename_i ph1 hs;cases h;exact qUO hp (qE he a) (qE he x) hs
  ·cases h
 case nilCheck x =>
  obtain ⟨h1, rfl⟩ := zP h;obtain ⟨h2, rfl⟩ := qI8 (qE he x) h1;exact fin ⟨_, h2, qE he x⟩
 case binOp op t x z t2 =>
  obtain ⟨h1, rfl⟩ := zP h;exact fin (q08 (qE he x) (qE he z) h1)
 case unOp op t x =>
  obtain ⟨h1, rfl⟩ := zP h;exact fin (qNP (qE he x) rfl h1)
 case convert s t x =>
  cases hpt : qQ7 (qL env x) with
  | true => rw [hpt] at h; cases h
  | false =>
  rw [hpt] at h;obtain ⟨h1, rfl⟩ := zP h;have hx := qE he x;obtain ⟨u, h2, h3⟩ := qNP (o := ⟨d, .convert s t x, ty, pos, aft, g⟩) (env := ienv) hx rfl h1;refine fin ⟨u, ?_, h3⟩;show vT P _ s t (ienv.val x) ienv H = _;unfold vT;split
  ·rename_i a ha;exfalso;unfold aZ at h1;split at h1
   ·rename_i b hb';have hv := zU hx hb';rw [ha] at hv;subst hv;unfold pl at hb';split at hb'
    ·rename_i x0 hx0;cases hb';rw [hx0] at hpt;cases hpt
    ·split at hb' <;> cases hb'
    ·cases hb'
   ·cases h1
  ·exact h2
 case makeFunc fn first cap =>
  obtain ⟨h1, rfl⟩ := zP h;exact fin (qH0 (by simpa using VRL.of he first.toList) (by simpa using VRL.of he cap.toList) h1)
 case makeSlice t l c =>
  obtain ⟨n1, n2⟩ := hn rfl;exact (qE5 hp hb n2 (qE he l) (qE he c) h).up fun j hj => hj
 case slice t x lo hi mx =>
  cases mx with
  | some mx => cases h
  | none =>
    simp only at h;split at h
    ·rename_i s hs;have hx := qE he x;rw [hs] at hx;have hv := zU hx rfl;split at h
     ·rename_i vs hvs;obtain ⟨h1, rfl⟩ := zP h
      have hopt : ∀ (w : Option Operand), (∀ a, w = some a -> a ∈ lo.toList ++ hi.toList) -> (w.map fun a => (Operand.const ((pl (qL env a)).getD undef))).map (Env.val []) = w.map ienv.val := fun w hw => by
       cases w with
       | none => rfl
       | some a =>
         obtain ⟨b, hb'⟩ := qGI hvs (qL env a) (List.mem_map.2 ⟨a, hw a rfl, rfl⟩);simp only [Option.map_some, hb', Option.getD_some];rw [zU (qE he a) hb'];rfl
      have hlo := hopt lo (fun a ha => by subst ha; simp);have hhi := hopt hi (fun a ha => by subst ha; simp)
      obtain ⟨u, h2, h3⟩ := qUK (M := own m _) (Z := Z) (H := H) (o := ⟨d, .slice t x lo hi none, ty, pos, aft, g⟩) (env := ienv) (by
       have hex : execOp ienv.val ⟨d, .slice t x lo hi none, ty, pos, aft, g⟩ = execOp (Env.val []) (cop (.slice t (.const (.string s)) (lo.map fun a => .const ((pl (qL env a)).getD undef)) (hi.map fun a => .const ((pl (qL env a)).getD undef)) none)) := by
        show (do let x <- Instr.sliceAt t (ienv.val x) (lo.map ienv.val) (hi.map ienv.val) none; pure (Next.value x)) = (do let x <- Instr.sliceAt t (.string s) ((lo.map fun a => (Operand.const ((pl (qL env a)).getD undef))).map (Env.val [])) ((hi.map fun a => (Operand.const ((pl (qL env a)).getD undef))).map (Env.val [])) none; pure (Next.value x));rw [hlo, hhi, hv]
       have hpl : xP ienv.val (Op.slice t x lo hi none).operands.toList = xP (Env.val []) (cop (.slice t (.const (.string s)) (lo.map fun a => .const ((pl (qL env a)).getD undef)) (hi.map fun a => .const ((pl (qL env a)).getD undef)) none)).op.operands.toList := by
        rw [y7, y7];cases lo <;> cases hi <;> simp_all [Op.operands, cop, Env.val]
       unfold xW;rw [hex]
       simp only [hpl]) h1
      refine fin ⟨u, ?_, h3⟩;show uI P _ t (ienv.val x) _ _ _ ienv H = _;rw [hv];exact h2
     ·cases h
    ·rename_i v hne;obtain ⟨h1, rfl⟩ := zP h;obtain ⟨u, h2, h3⟩ := qP2 hp (qE he x) (q3T.of he lo) (q3T.of he hi) h1;exact fin ⟨u, qMM h2, h3⟩
 case fieldAddr t x i =>
  obtain ⟨h1, rfl⟩ := zP h;exact finO (qHA (qE he x) h1)
 case field t x i =>
  obtain ⟨h1, rfl⟩ := zP h;exact finO (qRY (qE he x) h1)
 case indexAddr t x ix =>
  obtain ⟨h1, rfl⟩ := zP h;exact finO (qGX hp (qE he x) (qE he ix) h1)
 case index t x ix =>
  split at h
  ·rename_i s j hs hj;obtain ⟨h1, rfl⟩ := zP h;have hx := qE he x;rw [hs] at hx;have hv := zU hx rfl;have hv2 := zU (qE he ix) hj;obtain ⟨u, h2, h3⟩ := qUK (M := own m _) (Z := Z) (H := H) (o := ⟨d, .index t x ix, ty, pos, aft, g⟩) (env := ienv) (by rw [<- hv, <- hv2]; rfl) h1;refine fin ⟨u, ?_, h3⟩;show uF P _ t (ienv.val x) _ ienv H = _;rw [hv];exact h2
  ·obtain ⟨h1, rfl⟩ := zP h;obtain ⟨u, h2, h3⟩ := qUF (qE he x) (qE he ix) h1;exact fin ⟨u, qLG h2, h3⟩
 case makeMap t r =>
  obtain ⟨n1, n2⟩ := hn rfl
  cases r with
  | some _ => cases h
  | none => exact (qLL hp hb n2 h).up fun j hj => hj
 case lookup t x kx ok =>
  obtain ⟨h1, rfl⟩ := zP h;exact finO (qQF hp (qE he x) (qE he kx) h1)
 case mapUpdate t mv kx x =>
  unfold ppS at h;split at h
  ·rename_i ph1 hs;cases h;exact nS hp (qE he mv) (qE he kx) (qE he x) hs
  ·cases h
 case insert t mv kx x =>
  unfold ppS at h;split at h
  ·rename_i ph1 hs;cases h;exact nS hp (qE he mv) (qE he kx) (qE he x) hs
  ·cases h
 case mapEntry t mv kx => exact qH8 hp (qE he mv) (qE he kx) h
 case entryStore t mv st x =>
  unfold ppS at h;split at h
  ·rename_i ph1 hs;cases h;exact qDN hp (qE he mv) (qE he st) (qE he x) hs
  ·cases h
 case range t x =>
  obtain ⟨n1, n2⟩ := hn rfl;exact (qRQ hp hb n2 (qE he x) h).up fun j hj => hj
 case next it b =>
  cases b with
  | false => cases h
  | true => exact qXL hp (qE he it) h
 case extract t i =>
  obtain ⟨h1, rfl⟩ := zP h;exact fin (qL8 (qE he t) h1)
 case call c =>
  obtain ⟨cal, args, ts⟩ := c;split at h
  ·rename_i b hbq;simp only at hbq;subst hbq;have two : ∀ x z, args.toList = [x, z] -> xP ienv.val args.toList = [ienv.val x, ienv.val z] := fun x z e => by rw [e]; rfl
   unfold uY at h;split at h
   ·-- append
    split at h
    ·rename_i x z hxz;obtain ⟨n1, n2⟩ := hn rfl
     obtain ⟨a1, a2, ha, rfl, rfl⟩ : ∃ a1 a2, args.toList = [a1, a2] ∧ x = qL env a1 ∧ z = qL env a2 := by
      cases hq : args.toList with
      | nil => rw [hq] at hxz; cases hxz
      | cons a l =>
        rw [hq] at hxz
        cases l with
        | nil => cases hxz
        | cons a2 l =>
          cases l with
          | nil => simp only [List.map_cons, List.map_nil, List.cons.injEq, and_true] at hxz; exact ⟨a, a2, rfl, hxz.1.symm, hxz.2.symm⟩
          | cons => cases hxz
     have hr := qQ0 hp hb n2 (qE he a1) (qE he a2) (qFS n1 a2) (qFS n1 a1) h;obtain ⟨u, H', Z', m', e1, e2, e3, e4, e5⟩ := hr;refine Res.up (p := fun j => j == k) ⟨u, H', Z', m', ?_, e2, e3, e4, e5⟩ fun j hj => hj
     refine bB ?_;rw [two _ _ ha];rw [show ts.toList.toArray = ts from by simp] at e1;exact e1
    ·cases h
   ·-- copy
    split at h
    ·rename_i x z hxz
     obtain ⟨a1, a2, ha, rfl, rfl⟩ : ∃ a1 a2, args.toList = [a1, a2] ∧ x = qL env a1 ∧ z = qL env a2 := by
      cases hq : args.toList with
      | nil => rw [hq] at hxz; cases hxz
      | cons a l =>
        rw [hq] at hxz
        cases l with
        | nil => cases hxz
        | cons a2 l =>
          cases l with
          | nil => simp only [List.map_cons, List.map_nil, List.cons.injEq, and_true] at hxz; exact ⟨a, a2, rfl, hxz.1.symm, hxz.2.symm⟩
          | cons => cases hxz
     have hr := qXN (p := nw (.call ⟨.builtin .copy, args, ts⟩) k) hp (qE he a1) (qE he a2) h;obtain ⟨u, H', Z', m', e1, e2, e3, e4, e5⟩ := hr;refine ⟨u, H', Z', m', ?_, e2, e3, e4, e5⟩;refine bB ?_;rw [two _ _ ha];rw [show ts.toList.toArray = ts from by simp] at e1;exact e1
    ·cases h
   ·-- len
    split at h
    ·rename_i x hx0
     obtain ⟨a1, ha, rfl⟩ : ∃ a1, args = #[a1] ∧ x = qL env a1 := by
      cases hq : args.toList with
      | nil => rw [hq] at hx0; cases hx0
      | cons a l =>
        rw [hq] at hx0
        cases l with
        | nil =>
          simp only [List.map_cons, List.map_nil, List.cons.injEq, and_true] at hx0
          exact ⟨a, by have e9 : args = args.toList.toArray := by simp
                       rw [e9, hq], hx0.symm⟩
        | cons => cases hx0
     subst ha
     cases hst : qWQ P ts with
     | true =>
       rw [hst] at h
       have hnone : zD P .len ⟨.builtin .len, #[a1], ts⟩ (xP ienv.val #[a1].toList) H = none := by
        show bJ P ts [ienv.val a1] H = none;unfold qWQ at hst;split at hst
        ·rename_i hu;unfold bJ;rw [hu]
        ·cases hst
       obtain ⟨e9, hr⟩ := qCT (d := d) (pos := pos) (aft := aft) (g := g) he hnone h;subst e9;exact fin hr
     | false =>
       rw [hst] at h;obtain ⟨h1, rfl⟩ := zP h;exact fin (qXK hp (qE he a1) (fun hq => q1L (qE he a1) hq) (fun w hw => bB hw) h1)
    ·cases h
   ·obtain ⟨e9, hr⟩ := qCT (d := d) (pos := pos) (aft := aft) (g := g) he rfl h;subst e9;exact fin hr
   ·obtain ⟨e9, hr⟩ := qCT (d := d) (pos := pos) (aft := aft) (g := g) he rfl h;subst e9;exact fin hr
   ·cases h
  ·cases h
end Go.Idl
namespace Go.Idl
variable [Gc]
variable {P : Program} {Z : Nat -> Prop} {H : IH} {M : Nat -> Option (Nat × PO)} {m : Nat -> Nat} {ph : PHp}
def qKX (f : PHp -> PV -> Option (FV × PHp)) : List PV -> PHp -> Option (List FV × PHp)
 | [], ph => some ([], ph)
 | x :: l, ph => match f ph x with
   | some (y, ph1) => (match qKX f l ph1 with
     | some (ys, ph2) => some (y :: ys, ph2)
     | none => none)
   | none => none
noncomputable def fz1 (P : Program) : Nat -> PHp -> PV -> Option (FV × PHp)
 | 0, ph, .f x => some (x, ph)
 | 0, _, _ => none
 | n + 1, ph, .f x => some (x, ph)
 | n + 1, ph, .own k t o c => (match qC k ph with
   | some ob => (match szT P ob.el with
     | some s => cond (Nat.beq (t * s) ob.cs.length) (match qKX (fz1 P n) ((ob.cs.drop (o * s)).take (c * s)) (pI k ph) with
       | some (cs, ph') => some (.l ob.el c cs, ph')
       | none => none) none
     | none => none)
   | none => none)
 | n + 1, _, _ => none
noncomputable def fzP (P : Program) (ph : PHp) (x : PV) : Option (PV × PHp) := match x with
 | .agg cs => (match qKX (fz1 P 4) cs ph with
   | some (ys, ph') => some (.agg (ys.map .f), ph')
   | none => none)
 | x => (match fz1 P 4 ph x with
   | some (y, ph') => some (.f y, ph')
   | none => none)
noncomputable def fzA (P : Program) : List PV -> PHp -> Option (List PV × PHp)
 | [], ph => some ([], ph)
 | x :: l, ph => match fzP P ph x with
   | some (y, ph1) => (match fzA P l ph1 with
     | some (ys, ph2) => some (y :: ys, ph2)
     | none => none)
   | none => none
structure Fz (P : Program) (Z : Nat -> Prop) (H : IH) (m : Nat -> Nat) (ph : PHp) (Z' : Nat -> Prop) (ph' : PHp) : Prop where
 hp : Hp P Z' H (own m ph')
 zle : ∀ b, Z b -> Z' b
 sub : ∀ k ob, qC k ph' = some ob -> qC k ph = some ob
 znew : ∀ b, Z' b -> Z b ∨ eD (own m ph) b
theorem Fz.refl (h : Hp P Z H (own m ph)) : Fz P Z H m ph Z ph := ⟨h, fun _ h => h, fun _ _ h => h, fun _ h => .inl h⟩
theorem Fz.ownS {Z' : Nat -> Prop} {ph' : PHp} (a : Fz P Z H m ph Z' ph') {k : Nat} {r : Nat × PO} (h : own m ph' k = some r) : own m ph k = some r := by
 obtain ⟨b, ob⟩ := r;obtain ⟨h1, rfl⟩ := wP h;exact qM (a.sub k ob h1)
theorem Fz.trans {Z1 Z2 : Nat -> Prop} {ph1 ph2 : PHp} (a : Fz P Z H m ph Z1 ph1) (b : Fz P Z1 H m ph1 Z2 ph2) : Fz P Z H m ph Z2 ph2 :=
 ⟨b.hp, fun x h => b.zle x (a.zle x h), fun k ob h => a.sub k ob (b.sub k ob h), fun x h => by
   rcases b.znew x h with h | ⟨k, ob, h1, h2⟩
   ·exact a.znew x h
   ·exact .inr ⟨k, ob, a.ownS h1, h2⟩⟩
theorem Fz.kr {Z' : Nat -> Prop} {ph' : PHp} (a : Fz P Z H m ph Z' ph') (p : Nat -> Bool) : KR p (own m ph) (own m ph') := fun k b ob h => .inl ⟨ob, a.ownS h, rfl, rfl, rfl⟩
theorem Fz.step {Z' : Nat -> Prop} {ph' : PHp} (a : Fz P Z H m ph Z' ph') : Step Z H (own m ph) Z' H (own m ph') :=
 ⟨Nat.le_refl _, rfl, a.zle, fun _ _ _ => rfl, fun b h _ => a.znew b h, fun b ⟨k, ob, h1, h2⟩ _ => ⟨k, ob, a.ownS h1, h2⟩⟩
theorem Fz.vrl {Z' : Nat -> Prop} {ph' : PHp} (a : Fz P Z H m ph Z' ph') {xs : List PV} {vs : List Value} (h : VRL P Z H (Go.Idl.own m ph) xs vs) : VRL P Z' H (Go.Idl.own m ph') xs vs :=
 h.mono (p := fun _ => false) a.zle (Nat.le_refl _) (fun _ _ _ => rfl) (a.kr _) fun j hj => by cases hj
theorem Fz.del (h : Hp P Z H (own m ph)) {k : Nat} {ob : PO} (hl : qC k ph = some ob) (hr : real ob) : Fz P Z H m ph (fun b => Z b ∨ b = m k) (pI k ph) := by
 have hsub : ∀ j o, qC j (pI k ph) = some o -> j ≠ k ∧ qC j ph = some o := fun j o h => by
  rw [wN] at h;split at h
  ·cases h
  ·rename_i hj; exact ⟨hj, h⟩
 have hown : ∀ j b o, own m (pI k ph) j = some (b, o) -> j ≠ k ∧ own m ph j = some (b, o) := fun j b o h => by
  obtain ⟨h1, rfl⟩ := wP h;obtain ⟨h2, h3⟩ := hsub j o h1;exact ⟨h2, qM h3⟩
 obtain ⟨w1, w2, w3⟩ := h.real0 hl hr;refine ⟨⟨?_, ?_, ?_, h.gl.mono h.zlt (fun _ h => .inl h) fun _ _ _ => rfl⟩, fun b h => .inl h, fun j o h => (hsub j o h).2, ?_⟩
 ·rintro b (hb | rfl)
  ·exact h.zlt b hb
  ·exact w1
 ·intro j b o hj;obtain ⟨h1, h2⟩ := hown j b o hj
  rcases h.obj j b o h2 with h3 | ⟨a1, a2, a3, a4⟩
  ·exact .inl h3
  ·by_cases hro : o.gr = true ∧ o.cs = []
   ·exact .inl hro
   ·refine .inr ⟨a1, a2, ?_, a4.mono rfl fun _ a5 => a5.mono (p := fun _ => false) (fun _ h => .inl h) (Nat.le_refl _) (fun _ _ _ => rfl) (fun i b' o' hi => .inl ⟨o', (hown i b' o' hi).2, rfl, rfl, rfl⟩) (fun j hj => by cases hj)⟩;rintro (hz | rfl)
    ·exact a3 hz
    ·exact h.inj j k _ _ o ob h2 (qM hl) hro hr h1 rfl
 ·intro j j' b b' o o' h1 h2 r1 r2 hne;exact h.inj j j' b b' o o' (hown j b o h1).2 (hown j' b' o' h2).2 r1 r2 hne
 ·rintro b (hz | rfl)
  ·exact .inl hz
  ·exact .inr ⟨k, ob, qM hl, hr⟩
theorem Fz.drop (h : Hp P Z H (own m ph)) {ph' : PHp} (hs : ∀ k ob, qC k ph' = some ob -> qC k ph = some ob) : Fz P Z H m ph Z ph' := by
 have hown : ∀ j b o, own m ph' j = some (b, o) -> own m ph j = some (b, o) := fun j b o h => by
  obtain ⟨h1, rfl⟩ := wP h;exact qM (hs j o h1)
 refine ⟨⟨h.zlt, ?_, ?_, h.gl⟩, fun _ h => h, hs, fun _ h => .inl h⟩
 ·intro j b o hj
  rcases h.obj j b o (hown j b o hj) with h3 | ⟨a1, a2, a3, a4⟩
  ·exact .inl h3
  ·exact .inr ⟨a1, a2, a3, a4.mono rfl fun _ a5 => a5.mono (p := fun _ => false) (fun _ h => h) (Nat.le_refl _) (fun _ _ _ => rfl) (fun i b' o' hi => .inl ⟨o', hown i b' o' hi, rfl, rfl, rfl⟩) (fun j hj => by cases hj)⟩
 ·intro j j' b b' o o' h1 h2 r1 r2 hne;exact h.inj j j' b b' o o' (hown j b o h1) (hown j' b' o' h2) r1 r2 hne
structure FRL (Z : Nat -> Prop) (H : IH) (xs : List FV) (vs : List Value) : Prop where
 len : xs.length = vs.length
 val : ∀ (i : Nat) x v, xs[i]? = some x -> vs[i]? = some v -> FR Z H x v
theorem FRL.cons {x : FV} {v : Value} {xs : List FV} {vs : List Value} (h : FR Z H x v) (t : FRL Z H xs vs) : FRL Z H (x :: xs) (v :: vs) :=
 ⟨by simp [t.len], fun i y u h1 h2 => by
   cases i with
   | zero => simp at h1 h2; subst h1 h2; exact h
   | succ i => exact t.val i y u (by simpa using h1) (by simpa using h2)⟩
theorem FRL.map {xs : List FV} {vs : List Value} (h : FRL Z H xs vs) : VRL P Z H M (xs.map .f) vs := qSY h.len h.val
theorem qGM {f : PHp -> PV -> Option (FV × PHp)} (hf : ∀ {Z : Nat -> Prop} {ph : PHp} {x : PV} {y : FV} {ph' : PHp} {v : Value}, Hp P Z H (own m ph) -> VR P Z H (own m ph) x v -> f ph x = some (y, ph') -> ∃ Z', Fz P Z H m ph Z' ph' ∧ FR Z' H y v) :
 ∀ {xs : List PV} {vs : List Value} {Z : Nat -> Prop} {ph : PHp} {ys : List FV} {ph' : PHp}, Hp P Z H (own m ph) -> VRL P Z H (own m ph) xs vs -> qKX f xs ph = some (ys, ph') -> ∃ Z', Fz P Z H m ph Z' ph' ∧ FRL Z' H ys vs
 | [], vs, Z, ph, ys, ph', hp, hx, h => by
   simp only [qKX, Option.some.injEq, Prod.mk.injEq] at h;obtain ⟨rfl, rfl⟩ := h;rw [hx.nil_left];exact ⟨Z, .refl hp, rfl, fun i x v h => by simp at h⟩
 | x :: xs, _, Z, ph, ys, ph', hp, hx, h => by
   obtain ⟨v, vs, rfl, h1, h2⟩ := hx.uncons;unfold qKX at h;split at h
   ·rename_i y ph1 hy;split at h
    ·rename_i ys' ph2 hys;cases h;obtain ⟨Z1, c1, r1⟩ := hf hp h1 hy;obtain ⟨Z2, c2, r2⟩ := qGM hf c1.hp (c1.vrl h2) hys;exact ⟨Z2, c1.trans c2, .cons (r1.mono c2.zle (Nat.le_refl _) fun _ _ _ => rfl) r2⟩
    ·cases h
   ·cases h
theorem qPC : ∀ (n : Nat) {Z : Nat -> Prop} {ph : PHp} {x : PV} {y : FV} {ph' : PHp} {v : Value}, Hp P Z H (own m ph) -> VR P Z H (own m ph) x v -> fz1 P n ph x = some (y, ph') -> ∃ Z', Fz P Z H m ph Z' ph' ∧ FR Z' H y v
 | n, Z, ph, .f x, y, ph', v, hp, hx, h => by
   have : some (x, ph) = some (y, ph') := by cases n <;> exact h
   cases this
   cases hx with
   | f hx => exact ⟨Z, .refl hp, hx⟩
 | 0, Z, ph, .agg _, y, ph', v, hp, hx, h => by cases h
 | 0, Z, ph, .tup _, y, ph', v, hp, hx, h => by cases h
 | 0, Z, ph, .own _ _ _ _, y, ph', v, hp, hx, h => by cases h
 | 0, Z, ph, .ref _ _ _, y, ph', v, hp, hx, h => by cases h
 | 0, Z, ph, .lp _ _, y, ph', v, hp, hx, h => by cases h
 | 0, Z, ph, .fn _ _ _, y, ph', v, hp, hx, h => by cases h
 | 0, Z, ph, .unk, y, ph', v, hp, hx, h => by cases h
 | 0, Z, ph, .yl _, y, ph', v, hp, hx, h => by cases h
 | 0, Z, ph, .mp _, y, ph', v, hp, hx, h => by cases h
 | n + 1, Z, ph, .agg _, y, ph', v, hp, hx, h => by cases h
 | n + 1, Z, ph, .tup _, y, ph', v, hp, hx, h => by cases h
 | n + 1, Z, ph, .ref _ _ _, y, ph', v, hp, hx, h => by cases h
 | n + 1, Z, ph, .lp _ _, y, ph', v, hp, hx, h => by cases h
 | n + 1, Z, ph, .fn _ _ _, y, ph', v, hp, hx, h => by cases h
 | n + 1, Z, ph, .unk, y, ph', v, hp, hx, h => by cases h
 | n + 1, Z, ph, .yl _, y, ph', v, hp, hx, h => by cases h
 | n + 1, Z, ph, .mp _, y, ph', v, hp, hx, h => by cases h
 | n + 1, Z, ph, .own k t o c, y, ph', v, hp, hx, h => by
   unfold fz1 at h;split at h
   ·rename_i ob hl;split at h
    ·rename_i s hs
     cases hc : Nat.beq (t * s) ob.cs.length with
     | false => rw [hc] at h; cases h
     | true =>
       rw [hc] at h;simp only [cond_true] at h;have he := Nat.eq_of_beq_eq_true hc;split at h
       ·rename_i cs ph1 hf;cases h;obtain ⟨hO, h0⟩ := uS hx hl hs he
        rcases hO with ⟨g1, rfl, rfl, rfl, rfl⟩ | ⟨g1, g2, g3, rfl⟩
        ·have hc0 : ob.cs = [] := List.length_eq_zero_iff.1 (by omega);rw [hc0] at hf;have hf' : qKX (fz1 P n) [] (pI k ph) = some (cs, ph') := by simpa using hf
         have : some (([] : List FV), pI k ph) = some (cs, ph') := hf';cases this;refine ⟨Z, .drop hp fun j o hj => ?_, .nil (fun _ => rfl) (fun x h => by cases h)⟩;rw [wN] at hj;split at hj
         ·cases hj
         ·exact hj
        ·have hre := bX he h0 g1;obtain ⟨w1, w2, w3, vs, q1, q2, q3⟩ := hp.real hl hre (jS hs);have hcut := Fz.del hp hl hre;have hle : (o + c) * s <= t * s := Nat.mul_le_mul_right _ g2;rw [Nat.add_mul] at hle;obtain ⟨Z2, c2, r2⟩ := qGM (fun a b c => qPC n a b c) hcut.hp (hcut.vrl ((q2.drop (o * s)).take (c * s))) hf;refine ⟨Z2, hcut.trans c2, .l (vs := (vs.drop (o * s)).take (c * s)) (c2.zle _ (.inr rfl)) w1 (by omega) (by cases ob.gr <;> simp) ?_ r2.val⟩
         have hcl : cs.length = c * s := by
          rw [r2.len]; simp only [List.length_take, List.length_drop]; rw [<- q2.len]; omega
         rw [hcl];exact jR q1 (by rw [<- q2.len]; omega) rfl
       ·cases h
    ·cases h
   ·cases h
theorem qI0 {x y : PV} {ph' : PHp} {v : Value} (hp : Hp P Z H (own m ph)) (hx : VR P Z H (own m ph) x v) (h : fzP P ph x = some (y, ph')) : ∃ Z', Fz P Z H m ph Z' ph' ∧ VR P Z' H (fun _ => none) y v := by
 unfold fzP at h;split at h
 ·rename_i cs;split at h
  ·rename_i ys ph1 hf;cases h
   cases hx with
   | agg hl hc =>
     rename_i vs;obtain ⟨Z', c1, r1⟩ := qGM (vs := vs.toList) (fun a b c => qPC 4 a b c) hp ⟨by simpa using hl, fun i x v a b => hc i x v a (by simpa using b)⟩ hf;have := (r1.map (P := P) (M := fun _ => none)).toA;exact ⟨Z', c1, by simpa using this⟩
  ·cases h
 ·split at h
  ·rename_i y' ph1 hf;cases h;obtain ⟨Z', c1, r1⟩ := qPC 4 hp hx hf;exact ⟨Z', c1, .f r1⟩
  ·cases h
theorem VRL.none {Z' : Nat -> Prop} {H' : IH} {xs : List PV} {vs : List Value} (h : VRL P Z H (fun _ => none) xs vs) (hz : ∀ b, Z b -> Z' b) (hs : H.size <= H'.size) (hg : ∀ b, Z b -> b < H.size -> H'.get b = H.get b) {M : Nat -> Option (Nat × PO)} (hn : ∀ k, M k = none) : VRL P Z' H' M xs vs :=
 h.mono (p := fun _ => false) hz hs hg (fun k b o hk => by rw [hn] at hk; cases hk) fun j hj => by cases hj
theorem qNB : ∀ {xs : List PV} {vs : List Value} {Z : Nat -> Prop} {ph : PHp} {ys : List PV} {ph' : PHp}, Hp P Z H (own m ph) -> VRL P Z H (own m ph) xs vs -> fzA P xs ph = some (ys, ph') -> ∃ Z', Fz P Z H m ph Z' ph' ∧ VRL P Z' H (fun _ => none) ys vs
 | [], vs, Z, ph, ys, ph', hp, hx, h => by
   simp only [fzA, Option.some.injEq, Prod.mk.injEq] at h;obtain ⟨rfl, rfl⟩ := h;rw [hx.nil_left];exact ⟨Z, .refl hp, .nil⟩
 | x :: xs, _, Z, ph, ys, ph', hp, hx, h => by
   obtain ⟨v, vs, rfl, h1, h2⟩ := hx.uncons;unfold fzA at h;split at h
   ·rename_i y ph1 hy;split at h
    ·rename_i ys' ph2 hys;cases h;obtain ⟨Z1, c1, r1⟩ := qI0 hp h1 hy;obtain ⟨Z2, c2, r2⟩ := qNB c1.hp (c1.vrl h2) hys;exact ⟨Z2, c1.trans c2, .cons (r1.mono (p := fun _ => false) c2.zle (Nat.le_refl _) (fun _ _ _ => rfl) (.refl _ _) fun j hj => by cases hj) r2⟩
    ·cases h
   ·cases h
end Go.Idl
namespace Go.Idl
variable [Gc]
variable {P : Program} {Z : Nat -> Prop} {H : IH} {M : Nat -> Option (Nat × PO)} {m : Nat -> Nat} {ph : PHp} {G : Nat -> Bool}
theorem Hp.old {Z' : Nat -> Prop} {H' : IH} (h : Hp P Z H (own m ph)) (ho : Old H H') (hz : ∀ b, Z b -> Z' b) (hz1 : ∀ b, Z' b -> b < H'.size) (hz2 : ∀ b, Z' b -> b < H.size -> Z b) : Hp P Z' H' (own m ph) := by
 refine ⟨hz1, fun k b ob hk => ?_, h.inj, h.gl.mono h.zlt hz fun b _ hb => ho.get b hb⟩
 rcases h.obj k b ob hk with h1 | ⟨a1, a2, a3, a4⟩
 ·exact .inl h1
 ·exact .inr ⟨Nat.lt_of_lt_of_le a1 ho.size, by rw [ho.base]; exact a2, fun h => a3 (hz2 b h a1), a4.mono (ho.get b a1) fun _ a5 => a5.mono (p := fun _ => false) hz ho.size (fun b _ hb => ho.get b hb) (.refl _ _) (fun j hj => by cases hj)⟩
theorem Step.old {Z' : Nat -> Prop} {H' : IH} (ho : Old H H') (hz : ∀ b, Z b -> Z' b) (hz2 : ∀ b, Z' b -> b < H.size -> Z b) : Step Z H M Z' H' M :=
 ⟨ho.size, ho.base, hz, fun b hb _ => ho.get b hb, fun b h hb => .inl (hz2 b h hb), fun _ h _ => h⟩
def wV : PV -> Bool
 | .f (.v _) => true
 | .agg cs => (qVR cs).isSome
 | .tup cs => (plL cs).isSome
 | _ => false
theorem qLJ {x : PV} {v : Value} (h : VR P Z H M x v) (hp : (pl1 x).isSome = true) (Z' : Nat -> Prop) (H' : IH) (M' : Nat -> Option (Nat × PO)) : VR P Z' H' M' x v := by
 unfold pl1 at hp;split at hp
 ·cases h with
  | f h => cases h with
    | v a b => exact .f (.v a b)
 ·cases hp
theorem qFA (Z' : Nat -> Prop) (H' : IH) (M' : Nat -> Option (Nat × PO)) : ∀ {xs : List PV} {vs : List Value}, VRL P Z H M xs vs -> (qVR xs).isSome = true -> VRL P Z' H' M' xs vs
 | [], vs, h, _ => by rw [h.nil_left]; exact .nil
 | x :: xs, _, h, hp => by
   obtain ⟨v, vs, rfl, h1, h2⟩ := h.uncons;unfold qVR at hp;split at hp
   ·rename_i a ha;split at hp
    ·rename_i as has;exact .cons (qLJ h1 (by rw [ha]; rfl) _ _ _) (qFA Z' H' M' h2 (by rw [has]; rfl))
    ·cases hp
   ·cases hp
theorem VR.aggL {cs : List PV} {v : Value} (h : VR P Z H M (.agg cs) v) : ∃ vs, v = .agg vs ∧ VRL P Z H M cs vs.toList := by
 cases h with
 | agg hl hc => exact ⟨_, rfl, by simpa using hl, fun i x v a b => hc i x v a (by simpa using b)⟩
theorem VR.tupL {cs : List PV} {v : Value} (h : VR P Z H M (.tup cs) v) : ∃ vs, v = .tuple vs ∧ VRL P Z H M cs vs.toList := by
 cases h with
 | tup hl hc => exact ⟨_, rfl, by simpa using hl, fun i x v a b => hc i x v a (by simpa using b)⟩
theorem VRL.agg' {cs : List PV} {vs : Array Value} (h : VRL P Z H M cs vs.toList) : VR P Z H M (.agg cs) (.agg vs) := .agg (by simpa using h.len) fun i x v a b => h.val i x v a (by simpa using b)
theorem VRL.tup' {cs : List PV} {vs : Array Value} (h : VRL P Z H M cs vs.toList) : VR P Z H M (.tup cs) (.tuple vs) := .tup (by simpa using h.len) fun i x v a b => h.val i x v a (by simpa using b)
theorem q5A {x : PV} {v : Value} (h : VR P Z H M x v) (hp : (pl x).isSome = true) (Z' : Nat -> Prop) (H' : IH) (M' : Nat -> Option (Nat × PO)) : VR P Z' H' M' x v := by
 unfold pl at hp;split at hp
 ·exact qLJ h rfl _ _ _
 ·rename_i cs;obtain ⟨vs, rfl, hr⟩ := h.aggL;refine (qFA Z' H' M' hr ?_).agg';split at hp
  ·rename_i as has; rw [has]; rfl
  ·cases hp
 ·cases hp
theorem qR2 (Z' : Nat -> Prop) (H' : IH) (M' : Nat -> Option (Nat × PO)) : ∀ {xs : List PV} {vs : List Value}, VRL P Z H M xs vs -> (plL xs).isSome = true -> VRL P Z' H' M' xs vs
 | [], vs, h, _ => by rw [h.nil_left]; exact .nil
 | x :: xs, _, h, hp => by
   obtain ⟨v, vs, rfl, h1, h2⟩ := h.uncons;unfold plL at hp;split at hp
   ·rename_i a ha;split at hp
    ·rename_i as has;exact .cons (q5A h1 (by rw [ha]; rfl) _ _ _) (qR2 Z' H' M' h2 (by rw [has]; rfl))
    ·cases hp
   ·cases hp
theorem qRB {x : PV} {v : Value} (h : VR P Z H M x v) (hp : wV x = true) (Z' : Nat -> Prop) (H' : IH) (M' : Nat -> Option (Nat × PO)) : VR P Z' H' M' x v := by
 unfold wV at hp;split at hp
 ·exact qLJ h rfl _ _ _
 ·obtain ⟨vs, rfl, hr⟩ := h.aggL;exact (qFA Z' H' M' hr hp).agg'
 ·obtain ⟨vs, rfl, hr⟩ := h.tupL;exact (qR2 Z' H' M' hr hp).tup'
 ·cases hp
def sD (P : Program) : Nat -> TypeId -> List TypeId
 | 0, t => [t]
 | n + 1, t => match P.underlying t with
   | some (.struct fields) => fields.toList.flatMap fun f => sD P n f.type
   | some (.array k el) => (List.replicate k (sD P n el)).flatten
   | _ => [t]
def rt0 (P : Program) (t : TypeId) : PV -> PV
 | .f (.v (.slice none 0 0)) => match yS P t with
   | some el => .f (.l el 0 [])
   | none => fvv (.slice none 0 0)
 | x => x
def rtL (f : TypeId -> PV -> PV) : List TypeId -> List PV -> List PV
 | t :: ts, x :: xs => f t x :: rtL f ts xs
 | _, xs => xs
def rt1 (P : Program) (t : TypeId) : PV -> PV
 | .agg cs => .agg (rtL (rt0 P) (sD P 8 t) cs)
 | x => rt0 P t x
def rtA (P : Program) (g : FuncId) (args : List PV) : List PV := match P.funcs[g]? with
 | some fn => rtL (rt1 P) fn.params.toList args
 | none => args
theorem qSH {t : TypeId} {x : PV} {v : Value} (h : VR P Z H M x v) : VR P Z H M (rt0 P t x) v := by
 unfold rt0;split
 ·split
  ·have := zU h rfl;subst this;exact .f (.nil (fun _ => rfl) fun _ h => by cases h)
  ·exact h
 ·exact h
theorem qES {f : TypeId -> PV -> PV} (hf : ∀ t x v, VR P Z H M x v -> VR P Z H M (f t x) v) : ∀ {ts : List TypeId} {xs : List PV} {vs : List Value}, VRL P Z H M xs vs -> VRL P Z H M (rtL f ts xs) vs
 | [], xs, vs, h => by cases xs <;> exact h
 | t :: ts, [], vs, h => h
 | t :: ts, x :: xs, vs, h => by
   obtain ⟨v, vs', rfl, h1, h2⟩ := h.uncons;exact .cons (hf t x v h1) (qES hf h2)
theorem qKM {t : TypeId} {x : PV} {v : Value} (h : VR P Z H M x v) : VR P Z H M (rt1 P t x) v := by
 unfold rt1;split
 ·obtain ⟨vs, rfl, hr⟩ := h.aggL;exact (qES (fun t x v h => qSH h) hr).agg'
 ·exact qSH h
theorem q31 {g : FuncId} {xs : List PV} {vs : List Value} (h : VRL P Z H M xs vs) : VRL P Z H M (rtA P g xs) vs := by
 unfold rtA;split
 ·exact qES (fun t x v h => qKM h) h
 ·exact h
abbrev aV := FuncId -> List PV -> Option PV
def Ctr (P : Program) (k : List Value -> IH -> T (Value × IH)) (pargs : List PV) (r : PV) : Prop :=
 ∀ (Z : Nat -> Prop) (H : IH) (args : List Value), VRL P Z H (fun _ => none) pargs args -> (∀ b, Z b -> b < H.size) -> H.base <= H.size -> qZ5 Z H -> ∀ Q : Value × IH -> Prop,
  (∀ v H' (Z' : Nat -> Prop), Old H H' -> (∀ b, Z b -> Z' b) -> (∀ b, Z' b -> b < H'.size) -> (∀ b, Z' b -> b < H.size -> Z b) -> VR P Z' H' (fun _ => none) r v -> Q (v, H')) -> (k args H).holds Q
def q3F : PV -> Bool
 | .f _ => true
 | _ => false
def qRE : PV -> Bool
 | .agg cs => cs.all q3F
 | x => q3F x
def q3K : PV -> Bool
 | .tup cs => cs.all qRE
 | x => qRE x
theorem qNM {x : PV} {v : Value} {M' : Nat -> Option (Nat × PO)} (h : VR P Z H M x v) (hp : q3F x = true) : VR P Z H M' x v := by
 unfold q3F at hp;split at hp
 ·cases h with
  | f h => exact .f h
 ·cases hp
theorem bZ {x : PV} {v : Value} {M' : Nat -> Option (Nat × PO)} (h : VR P Z H M x v) (hp : qRE x = true) : VR P Z H M' x v := by
 unfold qRE at hp;split at hp
 ·obtain ⟨vs, rfl, hr⟩ := h.aggL;exact VRL.agg' ⟨hr.len, fun i x v a b => qNM (hr.val i x v a b) (List.all_eq_true.1 hp x (List.mem_of_getElem? a))⟩
 ·exact qNM h hp
theorem qZB {x : PV} {v : Value} {M' : Nat -> Option (Nat × PO)} (h : VR P Z H M x v) (hp : q3K x = true) : VR P Z H M' x v := by
 unfold q3K at hp;split at hp
 ·obtain ⟨vs, rfl, hr⟩ := h.tupL;exact VRL.tup' ⟨hr.len, fun i x v a b => bZ (hr.val i x v a b) (List.all_eq_true.1 hp x (List.mem_of_getElem? a))⟩
 ·exact bZ h hp
def qSN (P : Program) (nat : yU) (tab : aV) : Prop := ∀ g pargs r, tab g pargs = some r -> enters P g = true ∧ q3K r = true ∧ ∃ k, nat g = some k ∧ Ctr P k pargs r
structure Nm where
 b : Nat
 p : Nat -> Bool
def qWO (P : Program) (g : FuncId) : Bool := match P.funcs[g]? with
 | some fn => fn.body.isNone && !(fn.name == "internal/abi.NoEscape" && fn.origin == "")
 | none => false
def qG2 (P : Program) (G : Nat -> Bool) (nm : Nm) (g : FuncId) (args : List PV) (ph : PHp) (R : PV -> PHp -> Prop) : Prop :=
 (qWO P g = true ∧ ∃ vs v, plL args = some vs ∧ (zR vs && kU (yX 2) vs) = true ∧ xK P (callFunc g vs.toArray) = some (.value v) ∧ qJM v = true ∧ R (ofC v) ph) ∨
 enters P g = true ∧ ∀ (Z : Nat -> Prop) (H : IH) (m : Nat -> Nat) (iargs : List Value), Hp P Z H (own m ph) -> H.base <= H.size -> VRL P Z H (own m ph) args iargs ->
  gK P G g iargs H fun r => ∃ Z' m' pv ph', Hp P Z' r.2 (own m' ph') ∧ VR P Z' r.2 (own m' ph') pv r.1 ∧ Step Z H (own m ph) Z' r.2 (own m' ph') ∧ KR nm.p (own m ph) (own m' ph') ∧ R pv ph'
inductive PE where
 | fail
 | ok (v : PV) (ph : PHp)
 | call (g : FuncId) (args : List PV) (ph : PHp)
 | rnd (l : Nat) (args : List PV) (ph : PHp)
inductive PT where
 | fail
 | ret (env : List PV) (ph : PHp)
 | chk (c : Bool) (t : PT)
 | call (nm : Nm) (g : FuncId) (args : List PV) (ph : PHp) (k : PV -> PHp -> PT)
 | rnd (l : Nat) (args : List PV) (ph : PHp) (k : PV -> PHp -> PT)
def PT.holds (P : Program) (G : Nat -> Bool) (Q : List PV -> PHp -> Prop) : PT -> Prop
 | .fail => False
 | .ret env ph => Q env ph
 | .chk c t => c = true ∧ t.holds P G Q
 | .call nm g args ph k => ∃ R, qG2 P G nm g args ph R ∧ ∀ v ph', R v ph' -> (k v ph').holds P G Q
 | .rnd _ _ _ _ => False
noncomputable def aK (P : Program) (tab : aV) (g : FuncId) (args : List PV) (ph : PHp) : PE := match fzA P args ph with
 | some (fargs, ph1) => (match tab g (rtA P g fargs) with
   | some r => .ok r (cond (wV r) ph ph1)
   | none => .fail)
 | none => .fail
noncomputable def eY (P : Program) (tab : aV) (inl : FuncId -> Bool) (g : FuncId) (args : List PV) (ph : PHp) : PE := cond (inl g) (.call g args ph) (aK P tab g args ph)
noncomputable def o8 (P : Program) (tab : aV) (inl : FuncId -> Bool) (fv : PV) (args : List PV) (ph : PHp) : PE := match fv with
 | .f (.v (.func (.func g) a c)) => cond (a.toList.isEmpty && c.toList.isEmpty) (eY P tab inl g args ph) .fail
 | .yl l => .rnd l args ph
 | .fn g first cap => eY P tab inl g (first ++ (args ++ cap)) ph
 | _ => .fail
def peO : Option (PV × PHp) -> PE
 | some r => .ok r.1 r.2
 | none => .fail
noncomputable def bA (P : Program) (tab : aV) (inl : FuncId -> Bool) (k : Nat) (o : Oper) (env : List PV) (ph : PHp) : PE := match o.op with
 | .call ⟨.value f, args, _⟩ => o8 P tab inl (qL env f) (args.toList.map (qL env)) ph
 | _ => peO (qHK P o env k ph)
def qOZ (want : Bool) : PV -> Option Bool
 | .f (.v (.bool b)) => some (b == want)
 | .tup cs => cond cs.isEmpty (some false) none
 | _ => none
noncomputable def qPH (w : Bool) (env : List PV) : Option Tmp -> Option Bool
 | some t => (match zM env t with
   | some v => qOZ w v
   | none => none)
 | none => some false
noncomputable def eG (ds : List (Option Tmp)) (o : Oper) (env : List PV) : Option Bool := match o.guard with
 | none => some true
 | some (j, w) => qPH w env (qBB ds j)
def wid (b : Nat) : Nat := cond (Nat.blt b 1000) 1 (cond (Nat.blt b 1000000) 1000 (cond (Nat.blt b 1000000000) 1000000 1000000000))
def inB (b k : Nat) : Bool := Nat.beq ((k / 1000) % wid b) (b / 1000)
def inP (nm : Nm) (k : Nat) : Bool := nm.p k
def qTM (nm : Nm) (g : FuncId) : Nm := ⟨nm.b + wid nm.b * 1000 * (g + 1), fun k => inB (nm.b + wid nm.b * 1000 * (g + 1)) k && nm.p k⟩
def clean (p : Nat -> Bool) (env : List PV) : PHp -> Bool
 | [] => true
 | (k, _) :: ph => (!p k || yV k env) && clean p env ph
def zH (nm : Nm) (d : Option Tmp) : Nat := match d with
 | some t => nm.b + t
 | none => nm.b
def fresh (nm : Nm) (k : Nat) (env : List PV) (ph : PHp) : Bool := inP nm k && (yV k env && pG k ph)
def q1M (c : Bool) (k : Nat) (nm : Nm) (env : List PV) (ph : PHp) (t : PT) : PT := cond c (.chk (fresh nm k env ph) t) t
noncomputable def pops (P : Program) (tab : aV) (inl : FuncId -> Bool) (nm : Nm) (ds : List (Option Tmp)) : List Oper -> List PV -> PHp -> PT
 | [], env, ph => .ret env ph
 | o :: l, env, ph => kL (eG ds o env)
    (match bA P tab inl (zH nm o.dst) o env ph with
     | .fail => .fail
     | .ok v ph' => q1M (needs o.op) (zH nm o.dst) nm env ph (pops P tab inl nm ds l (yR env o.dst v) ph')
     | .call g args ph' => .call (qTM nm g) g args ph' fun v ph2 => .chk (clean (qTM nm g).p env ph2) (pops P tab inl nm ds l (yR env o.dst v) ph2)
     | .rnd x args ph' => .rnd x args ph' fun v ph2 => pops P tab inl nm ds l (yR env o.dst v) ph2)
    (pops P tab inl nm ds l (yR env o.dst (.tup [])) ph) .fail
theorem KR.trans {p : Nat -> Bool} {M1 M2 M3 : Nat -> Option (Nat × PO)} (a : KR p M1 M2) (b : KR p M2 M3) : KR p M1 M3 := fun k b' ob' h => by
 rcases b k b' ob' h with ⟨ob, h1, h2, h3, h4⟩ | ⟨b1, ob, h1, h2, h3, hb1⟩ | h
 ·rcases a k b' ob h1 with ⟨o2, q1, q2, q3, q4⟩ | ⟨b2, o2, q1, q2, q3, qb2⟩ | q
  ·exact .inl ⟨o2, q1, q2.trans h2, q3.trans h3, q4.trans h4⟩
  ·exact .inr (.inl ⟨b2, o2, q1, by omega, q3.trans h3, qb2⟩)
  ·exact .inr (.inr q)
 ·rcases a k b1 ob h1 with ⟨o2, q1, q2, q3, q4⟩ | ⟨b2, o2, q1, q2, q3, qb2⟩ | q
  ·exact .inr (.inl ⟨b1, o2, q1, by omega, q3.trans h3, fun hh => hb1 (by rw [<- q3]; exact hh)⟩)
  ·exact .inr (.inl ⟨b2, o2, q1, by omega, q3.trans h3, fun hh => (qb2 hh).trans (hb1 (by rw [<- q3]; exact hh))⟩)
  ·exact .inr (.inr q)
 ·exact .inr (.inr h)
theorem KR.up {p q : Nat -> Bool} {M1 M2 : Nat -> Option (Nat × PO)} (a : KR p M1 M2) (h : ∀ k, p k = true -> q k = true) : KR q M1 M2 := fun k b ob hk => by
 rcases a k b ob hk with h1 | h1 | h1
 ·exact .inl h1
 ·exact .inr (.inl h1)
 ·exact .inr (.inr (h k h1))
theorem VRL.putD {env : List PV} {ienv : Env} (h : VRL P Z H M env ienv) {x : PV} {v : Value} (hx : VR P Z H M x v) (d : Option Tmp) : VRL P Z H M (yR env d x) (ienv.putD d v) := by
 cases d with
 | none => exact h
 | some t =>
   show VRL P Z H M (xU env t x) (xU ienv t v);rw [zV, zV]; exact h.set hx t
theorem rM {ops : Array Oper} {o : Oper} {env : List PV} {ienv : Env} {b : Bool} (he : VRL P Z H M env ienv) (h : eG (ops.toList.map (·.dst)) o env = some b) : kC ops o ienv = some b := by
 rw [mQ];unfold eG at h;unfold dW;split at h
 ·rename_i hg;rw [hg]; exact h
 ·rename_i j w hg;rw [hg];simp only;unfold qPH at h;unfold qIW;split at h
  ·rename_i t ht;rw [ht];simp only;split at h
   ·rename_i v hv;rw [qH] at hv;obtain ⟨u, h1, h2⟩ := he.get hv;unfold qTY;rw [qH, h1];unfold qOZ at h;split at h
    ·have := zU h2 rfl;subst this;exact h
    ·rename_i cs
     cases hc : cs.isEmpty with
     | false => rw [hc] at h; cases h
     | true =>
       rw [hc] at h;obtain ⟨vs, rfl, hr⟩ := h2.tupL
       have : cs = [] := by cases cs with
        | nil => rfl
        | cons => cases hc
       subst this;have h3 := hr.nil_left;have : vs = #[] := by simpa using h3
       subst this;exact h
    ·cases h
   ·cases h
  ·rename_i ht;rw [ht]; exact h
end Go.Idl
namespace Go.Idl
variable [Gc]
variable {P : Program} {Z : Nat -> Prop} {H : IH} {m : Nat -> Nat} {ph : PHp} {G : Nat -> Bool} {nat : yU} {tab : aV} {inl : FuncId -> Bool} {nm : Nm}
def fU : Job -> IH -> T Out := fun _ _ => .fail
theorem qN7 (hs : wF P G nat) : jX P G (yI fU nat) := by
 intro g args args' H f w Q hR hG ha h;unfold yI at h;split at h
 ·rename_i k hk; exact hs g k hk args args' H f w Q hR hG ha h
 ·exact h.elim
theorem qHD : kZ P G fU := by
 intro l args args' H f w e Q hR hG he ha hq;exact hq.elim
theorem qUQ : wF P G fun _ => none := fun g k h => by cases h
noncomputable def qET (g : FuncId) (args : List Value) (H : IH) (Q : Value × IH -> Prop) : yU := by
 classical
 exact fun g1 => if g1 = g then some (fun a h => if a = args ∧ h = H then .sp Q .ret else .fail) else none
theorem q5Z {g : FuncId} {args : List Value} {H : IH} {Q : Value × IH -> Prop} (h : gK P G g args H Q) : wF P G (qET g args H Q) := by
 classical
 intro g1 k hk args1 args' H1 f1 w1 Q1 hR1 hG1 ha1 hq1;unfold qET at hk;split at hk
 ·rename_i hg1;subst hg1;cases hk;change T.holds Q1 (if args1 = args ∧ H1 = H then T.sp Q T.ret else T.fail) at hq1;split at hq1
  ·rename_i hc;obtain ⟨rfl, rfl⟩ := hc;exact (h.mono fun r hr => hq1 r hr) args' f1 w1 hR1 hG1 ha1
  ·exact hq1.elim
 ·cases hk
theorem q2O {g : FuncId} {args : List Value} {H : IH} {Q : Value × IH -> Prop} : yI fU (qET g args H Q) g args H = .sp Q .ret := by
 classical
 unfold yI qET;simp
def target (fv : PV) (args : List PV) : Option (FuncId × List PV) := match fv with
 | .f (.v (.func (.func g) a c)) => cond (a.toList.isEmpty && c.toList.isEmpty) (some (g, args)) none
 | .fn g first cap => some (g, first ++ (args ++ cap))
 | _ => none
theorem nN {fv : PV} {args : List PV} {r : PE} (h : o8 P tab inl fv args ph = r) (hr : r ≠ .fail) (hr2 : ∀ x a p, r ≠ .rnd x a p) : ∃ g as, target fv args = some (g, as) ∧ eY P tab inl g as ph = r := by
 unfold o8 at h;unfold target;split at h
 ·rename_i g a c
  cases hc : (a.toList.isEmpty && c.toList.isEmpty) with
  | false => rw [hc] at h; exact absurd h.symm hr
  | true => rw [hc] at h; exact ⟨g, args, (by simp only; rw [hc]; rfl), h⟩
 ·exact absurd h.symm (hr2 _ _ _)
 ·exact ⟨_, _, rfl, h⟩
 ·exact absurd h.symm hr
theorem qIA {o : Oper} {x : Operand} {oargs : Array Operand} {ts : Array TypeId} {env : List PV} {ienv : Env} {g : FuncId} {as : List PV} (he : VRL P Z H (own m ph) env ienv) (h : target (qL env x) (oargs.toList.map (qL env)) = some (g, as)) (hent : enters P g = true) :
 ∃ iargs, qU P o ⟨.value x, oargs, ts⟩ ienv H = some (.enter g iargs H) ∧ VRL P Z H (own m ph) as iargs := by
 have hx := qE he x;have ha := VRL.of he oargs.toList;unfold target at h;split at h
 ·rename_i g' a c hfv;rw [hfv] at hx;have hv := zU hx rfl
  cases hc : (a.toList.isEmpty && c.toList.isEmpty) with
  | false => rw [hc] at h; cases h
  | true =>
    rw [hc] at h; cases h;rw [Bool.and_eq_true] at hc;have e1 : a.toList = [] := by simpa using hc.1
    have e2 : c.toList = [] := by simpa using hc.2
    refine ⟨_, qC4 hv hent, ?_⟩;rw [e1, e2, y7];simpa [aS] using ha
 ·rename_i g' first cap hfv
  cases h;rw [hfv] at hx
  cases hv : ienv.val x with
  | func fn fs cs =>
    rw [hv] at hx
    cases hx with
    | fn hf hc hfc hcc =>
      refine ⟨_, qC4 hv hent, ?_⟩;rw [aS, aS, y7];exact VRL.append ⟨by simpa using hf, fun i x v a b => hfc i x v a (by simpa using b)⟩ (ha.append ⟨by simpa using hc, fun i x v a b => hcc i x v a (by simpa using b)⟩)
  | _ => rw [hv] at hx; cases hx
 ·cases h
theorem q3U (nm : Nm) {k : Nat} {env : List PV} (h : fresh nm k env ph = true) : inP nm k = true ∧ yV k env = true ∧ pG k ph = true := by
 unfold fresh at h;simp only [Bool.and_eq_true] at h;exact h
theorem qK8 {F : Fence} (hF : nG F) (hns : wF P G nat) (ht : qSN P nat tab) {o : Oper} {env : List PV} {ienv : Env} {f : Inj} {a : Act} {w : World} {v : PV} {ph' : PHp} (hR : Rel P f H w) (hG : aQ G f) (henv : qB P f ienv a.tmps.toList)
 (hok : o.op.operands.toList.all (vP (zG f)) = true) (hp : Hp P Z H (own m ph)) (hb : H.base <= H.size) (he : VRL P Z H (own m ph) env ienv) (hx : bA P tab inl (zH nm o.dst) o env ph = .ok v ph') (hn : needs o.op = true -> fresh nm (zH nm o.dst) env ph = true)
 {K : Act -> World -> Prop} {Qx : Exit -> Act -> World -> Prop}
 (hK : ∀ (Z' : Nat -> Prop) (m' : Nat -> Nat) (u : Value) (H' : IH) (f' : Inj) (v' : Value) (w' : World), Hp P Z' H' (own m' ph') -> VR P Z' H' (own m' ph') v u -> VRL P Z' H' (own m' ph') env ienv -> Step Z H (own m ph) Z' H' (own m' ph') -> KR (inP nm) (own m ph) (own m' ph') ->
   Rel P f' H' w' -> Grow f H w f' H' w' -> VRel P f' u v' -> K (a.put o.dst v') w') : o.wpIn F 0 P a w K Qx := by
 have plain : peO (qHK P o env (zH nm o.dst) ph) = .ok v ph' -> o.wpIn F 0 P a w K Qx := fun hx => by
  unfold peO at hx;split at hx
  ·rename_i r hr;cases hx;obtain ⟨u, H', Z', m', h1, h2, h3, h4, h5⟩ := q02 hp hb he (fun h => (q3U nm (hn h)).2) hr;refine aB (run := fU) (nat := fun _ => none) (G := G) (Q := fun r => r = (u, H')) hF (qN7 qUQ) qHD hR hG henv hok ?_ ?_
   ·unfold aH; rw [h1]; rfl
   ·rintro r v' w' f' rfl k1 k2 k3;refine hK Z' m' u H' f' v' w' h2 h3 ?_ h4 ?_ k1 k2 k3
    ·refine he.mono h4.zle h4.size (hp.zkeep h4) h5 fun j hj => ?_
     unfold nw at hj;rw [Bool.and_eq_true] at hj;have : j = zH nm o.dst := by simpa using hj.2
     subst this;exact (q3U nm (hn hj.1)).2.1
    ·refine h5.up fun j hj => ?_
     unfold nw at hj;rw [Bool.and_eq_true] at hj;have : j = zH nm o.dst := by simpa using hj.2
     subst this;exact (q3U nm (hn hj.1)).1
  ·cases hx
 unfold bA at hx;split at hx
 ·rename_i x oargs ts hop;obtain ⟨g, as, h1, h2⟩ := nN hx (fun h => by cases h) (fun _ _ _ h => by cases h);unfold eY at h2
  cases hi : inl g with
  | true => rw [hi] at h2; cases h2
  | false =>
    rw [hi] at h2;simp only [cond_false] at h2;unfold aK at h2;split at h2
    ·rename_i fargs ph1 hfz;split at h2
     ·rename_i r hr
      have hv : r = v ∧ cond (wV r) ph ph1 = ph' := by
       injection h2 with e1 e2;exact ⟨e1, e2⟩
      obtain ⟨rfl, hph⟩ := hv;obtain ⟨hent, hfr, k, hk, hctr⟩ := ht g _ r hr;obtain ⟨iargs, q1, q2⟩ := qIA (o := o) (ts := ts) he h1 hent;obtain ⟨Z1, c1, r1⟩ := qNB hp q2 hfz
      let Q : Value × IH -> Prop := fun x => ∃ Z' : Nat -> Prop, Old H x.2 ∧ (∀ b, Z1 b -> Z' b) ∧ (∀ b, Z' b -> b < x.2.size) ∧ (∀ b, Z' b -> b < H.size -> Z1 b) ∧ VR P Z' x.2 (fun _ => none) r x.1
      have hQ : (k iargs H).holds Q := hctr Z1 H iargs (q31 r1) c1.hp.zlt hb c1.hp.gl Q fun v H' Z' a1 a2 a3 a4 a5 => ⟨Z', a1, a2, a3, a4, a5⟩
      refine aB (run := fU) (nat := nat) (G := G) (Q := Q) hF (qN7 hns) qHD hR hG henv hok ?_ ?_
      ·have : iop P o ienv H = some (.enter g iargs H) := by
        unfold iop; rw [hop]; exact q1
       unfold aH;rw [this];show (yI fU nat g iargs H).holds Q;unfold yI;rw [hk];exact hQ
      ·rintro ⟨u, H'⟩ v' w' f' ⟨Z', a1, a2, a3, a4, a5⟩ k1 k2 k3
       cases hpl : wV r with
       | true =>
         rw [hpl] at hph;have hph : ph = ph' := hph;subst hph;have z1 : ∀ b, Z b -> b < H'.size := fun b hb => Nat.lt_of_lt_of_le (hp.zlt b hb) a1.size
         exact hK Z m u H' f' v' w' (hp.old a1 (fun _ h => h) z1 (fun _ h _ => h)) (qRB a5 hpl _ _ _) (he.mono (p := fun _ => false) (fun _ h => h) a1.size (fun b _ hb => a1.get b hb) (.refl _ _) (fun j hj => by cases hj)) (.old a1 (fun _ h => h) (fun _ h _ => h)) (.refl _ _) k1 k2 k3
       | false =>
         rw [hpl] at hph;have hph : ph1 = ph' := hph;subst hph;exact hK Z' m u H' f' v' w' (c1.hp.old a1 a2 a3 a4) (qZB a5 hfr) ((c1.vrl he).mono (p := fun _ => false) a2 a1.size (fun b _ hb => a1.get b hb) (.refl _ _) (fun j hj => by cases hj)) (c1.step.trans (.old a1 a2 a4)) (c1.kr _) k1 k2 k3
     ·cases h2
    ·cases h2
 ·exact plain hx
theorem qXM {f : Operand} {oargs : Array Operand} {ts : Array TypeId} {env : Env} {g : FuncId} {fs cs : Array Value} (hv : env.val f = .func (.func g) fs cs) (hx : qWO P g = true) : vG P ⟨.value f, oargs, ts⟩ env H = none := by
 unfold qWO at hx;unfold vG;simp only [hv];split at hx
 ·rename_i fn hfn;rw [Bool.and_eq_true, Bool.not_eq_true'] at hx;simp only [hfn]
  have h1 : fn.body.isSome = false := by
   cases hb : fn.body with
   | none => rfl
   | some c => rw [hb] at hx; cases hx.1
  rw [h1, hx.2];simp
 ·cases hx
theorem qMH : ∀ {xs ys : List PV} {vs : List Value}, plL (xs ++ ys) = some vs -> ∃ a b, vs = a ++ b ∧ plL xs = some a ∧ plL ys = some b
 | [], ys, vs, h => ⟨[], vs, rfl, rfl, h⟩
 | x :: xs, ys, vs, h => by
   rw [List.cons_append] at h;unfold plL at h;split at h
   ·rename_i v hv;split at h
    ·rename_i l hl;cases h;obtain ⟨a, b, rfl, h1, h2⟩ := qMH hl;refine ⟨v :: a, b, rfl, ?_, h2⟩;unfold plL;rw [hv, h1]
    ·cases h
   ·cases h
theorem q26 {o : Oper} {x : Operand} {oargs : Array Operand} {ts : Array TypeId} {env : List PV} {ienv : Env} {g : FuncId} {as : List PV} {vs : List Value} {v : Value} (hop : o.op = .call ⟨.value x, oargs, ts⟩) (he : VRL P Z H (own m ph) env ienv) (h : target (qL env x) (oargs.toList.map (qL env)) = some (g, as)) (hx : qWO P g = true) (hp : plL as = some vs) (hpl2 : (zR vs && kU (yX 2) vs) = true)
 (hs : xK P (callFunc g vs.toArray) = some (.value v)) (hd : qJM v = true) : iop P o ienv H = some (.val v H) := by
 have hx0 := qE he x;have ha := VRL.of he oargs.toList;rw [Bool.and_eq_true] at hpl2;obtain ⟨hpl, hp2⟩ := hpl2
 have key : ∀ fs cs, ienv.val x = .func (.func g) fs cs -> fs.toList ++ (xP ienv.val oargs.toList ++ cs.toList) = vs -> zO (ienv.val x) = true -> iop P o ienv H = some (.val v H) := fun fs cs hv hvs hpv => by
  unfold iop;rw [hop];show qU P o ⟨.value x, oargs, ts⟩ ienv H = _;unfold qU;rw [qXM hv hx];unfold xW
  have hpo : zR (xP ienv.val o.op.operands.toList) = true := by
   rw [hop];have e : (Op.call ⟨.value x, oargs, ts⟩).operands.toList = x :: oargs.toList := by simp [Op.operands, Call.operands]
   rw [e, y7, List.map_cons];rw [y7] at hvs
   have : zR (oargs.toList.map ienv.val) = true := by
    rw [<- hvs] at hpl;unfold zR at hpl ⊢;rw [yD] at hpl ⊢;exact fun a ha => hpl a (by simp only [List.mem_append]; exact .inr (.inl ha))
   unfold zR at this ⊢;rw [vF, hpv, this]; rfl
  rw [if_pos hpo]
  have he : execOp ienv.val o = (do let d <- resolve ienv.val ⟨.value x, oargs, ts⟩ o.type; invoke d.target d.args) := by
   unfold execOp;rw [hop]
  have hr : resolve ienv.val ⟨.value x, oargs, ts⟩ o.type = pure { target := .fn (.func g) cs, args := fs ++ oargs.map ienv.val } := by
   unfold resolve Deferred.ofValue;simp only [hv]
  have : execOp ienv.val o = callFunc g vs.toArray := by
   rw [he, hr];show invoke (.fn (.func g) cs) (fs ++ oargs.map ienv.val) = _;unfold invoke;simp only
   congr 1
   apply Array.toList_inj.1;rw [<- hvs, y7];simp
  rw [this, hs];show qAT H v = _;unfold qAT;rw [hd]; rfl
 unfold target at h;split at h
 ·rename_i g' a c hfv;rw [hfv] at hx0;have hv := zU hx0 rfl
  cases hc : (a.toList.isEmpty && c.toList.isEmpty) with
  | false => rw [hc] at h; cases h
  | true =>
    rw [hc] at h; cases h;rw [Bool.and_eq_true] at hc;have e1 : a.toList = [] := by simpa using hc.1
    have e2 : c.toList = [] := by simpa using hc.2
    have e3 : a = #[] := by simpa using e1
    have e4 : c = #[] := by simpa using e2
    subst e3 e4;refine key _ _ hv ?_ (by rw [hv]; rfl);have := qJ5 ha (by simpa using hp);rw [y7];simpa using this
 ·rename_i g' first cap hfv
  cases h;rw [hfv] at hx0;obtain ⟨a, b, rfl, p1, p2⟩ := qMH hp;obtain ⟨b, c, rfl, p3, p4⟩ := qMH p2
  cases hv : ienv.val x with
  | func fn fs cs =>
    rw [hv] at hx0
    cases hx0 with
    | fn hf hc hfc hcc =>
      have q1 := qJ5 (vs := fs.toList) ⟨by simpa using hf, fun i x v a b => hfc i x v a (by simpa using b)⟩ p1;have q2 := qJ5 (vs := cs.toList) ⟨by simpa using hc, fun i x v a b => hcc i x v a (by simpa using b)⟩ p4;have q3 := qJ5 ha (by simpa using p3);refine key fs cs hv (by rw [q1, q2, y7]; rw [<- q3]) ?_;rw [hv];rw [yD] at hp2;show (q1Z (.func g) && (kU (yX 2) fs.toList && kU (yX 2) cs.toList)) = true;rw [Bool.and_eq_true, Bool.and_eq_true, yD, yD];exact ⟨rfl, fun y hy => hp2 y (by rw [q1] at hy; simp [hy]), fun y hy => hp2 y (by rw [q2] at hy; simp [hy])⟩
  | _ => rw [hv] at hx0; cases hx0
 ·cases h
theorem qNY {p : Nat -> Bool} {env : List PV} : ∀ {ph : PHp} {k : Nat}, clean p env ph = true -> (p k && (qC k ph).isSome) = true -> yV k env = true
 | [], k, _, h => by simp [qC] at h
 | (j, o) :: ph, k, h, hk => by
   have h : ((!p j || yV j env) && clean p env ph) = true := h;rw [Bool.and_eq_true] at h hk;obtain ⟨hk1, hk2⟩ := hk;have hk2 : (cond (k == j) (some o) (qC k ph)).isSome = true := hk2
   cases e : k == j with
   | true =>
     have : k = j := by simpa using e
     subst this;have := h.1;rw [hk1] at this;simpa using this
   | false =>
     rw [e] at hk2;exact qNY h.2 (by rw [hk1]; exact hk2)
theorem KR.act {p : Nat -> Bool} {M : Nat -> Option (Nat × PO)} {m : Nat -> Nat} {ph : PHp} (h : KR p M (own m ph)) : KR (fun k => p k && (qC k ph).isSome) M (own m ph) := fun k b ob hk => by
 rcases h k b ob hk with q | q | q
 ·exact .inl q
 ·exact .inr (.inl q)
 ·obtain ⟨hl, _⟩ := wP hk;exact .inr (.inr (by show (p k && (qC k ph).isSome) = true; rw [q, hl]; rfl))
theorem qRT {F : Fence} (hF : nG F) {o : Oper} {env : List PV} {ienv : Env} {f : Inj} {a : Act} {w : World} {g : FuncId} {as : List PV} {ph' : PHp} {R : PV -> PHp -> Prop} (hR : Rel P f H w) (hG : aQ G f) (henv : qB P f ienv a.tmps.toList)
 (hok : o.op.operands.toList.all (vP (zG f)) = true) (hp : Hp P Z H (own m ph)) (hb : H.base <= H.size) (he : VRL P Z H (own m ph) env ienv) (hx : bA P tab inl (zH nm o.dst) o env ph = .call g as ph') (hc : qG2 P G (qTM nm g) g as ph' R) (hcl : ∀ v ph2, R v ph2 -> clean (qTM nm g).p env ph2 = true)
 {K : Act -> World -> Prop} {Qx : Exit -> Act -> World -> Prop}
 (hK : ∀ (Z' : Nat -> Prop) (m' : Nat -> Nat) (v : PV) (ph2 : PHp) (u : Value) (H' : IH) (f' : Inj) (v' : Value) (w' : World), R v ph2 -> Hp P Z' H' (own m' ph2) -> VR P Z' H' (own m' ph2) v u -> VRL P Z' H' (own m' ph2) env ienv -> Step Z H (own m ph) Z' H' (own m' ph2) -> KR (inP nm) (own m ph) (own m' ph2) ->
   Rel P f' H' w' -> Grow f H w f' H' w' -> VRel P f' u v' -> K (a.put o.dst v') w') : o.wpIn F 0 P a w K Qx := by
 unfold bA at hx;split at hx
 ·rename_i x oargs ts hop;obtain ⟨g1, as1, h1, h2⟩ := nN hx (fun h => by cases h) (fun _ _ _ h => by cases h);unfold eY at h2
  cases hi : inl g1 with
  | false =>
    rw [hi] at h2;exfalso;have h2 : aK P tab g1 as1 ph = .call g as ph' := h2;unfold aK at h2;split at h2
    ·split at h2 <;> cases h2
    ·cases h2
  | true =>
    rw [hi] at h2;have h2 : PE.call g1 as1 ph = .call g as ph' := h2;cases h2
    rcases hc with ⟨hxt, vs, xv, x1, x2, x3, x4, x5⟩ | ⟨hent, hc⟩
    ·refine aB (run := fU) (nat := fun _ => none) (G := G) (Q := fun r => r = (xv, H)) hF (qN7 qUQ) qHD hR hG henv hok ?_ ?_
     ·unfold aH; rw [q26 hop he h1 hxt x1 x2 x3 x4]; rfl
     ·rintro r v' w' f' rfl k1 k2 k3;exact hK Z m _ _ xv H f' v' w' x5 hp (qBC xv) he (.refl _ _ _) (.refl _ _) k1 k2 k3
    obtain ⟨iargs, q1, q2⟩ := qIA (o := o) (ts := ts) he h1 hent;have hci := hc Z H m iargs hp hb q2;refine aB (run := fU) (nat := qET g iargs H _) (G := G) hF (qN7 (q5Z hci)) qHD hR hG henv hok (Q := fun r => ∃ Z' m' pv ph', Hp P Z' r.2 (own m' ph') ∧ VR P Z' r.2 (own m' ph') pv r.1 ∧ Step Z H (own m ph) Z' r.2 (own m' ph') ∧ KR (qTM nm g).p (own m ph) (own m' ph') ∧ R pv ph') ?_ ?_
    ·have : iop P o ienv H = some (.enter g iargs H) := by
      unfold iop; rw [hop]; exact q1
     unfold aH;rw [this];show (yI fU (qET g iargs H _) g iargs H).holds _;rw [q2O];intro r hr;exact hr
    ·rintro ⟨u, H'⟩ v' w' f' ⟨Z', m', pv, ph2, b1, b2, b3, b4, b5⟩ k1 k2 k3
     exact hK Z' m' pv ph2 u H' f' v' w' b5 b1 b2 (he.mono b3.zle b3.size (hp.zkeep b3) (KR.act b4) fun j hj => qNY (hcl _ _ b5) hj) b3 (b4.up fun k h => by
      have h : (inB _ k && nm.p k) = true := h;rw [Bool.and_eq_true] at h
      exact h.2) k1 k2 k3
 ·unfold peO at hx;split at hx <;> cases hx
theorem rQ {B : Nat} {F : Fence} (hF : nG F) (hns : wF P G nat) (ht : qSN P nat tab) {ops : Array Oper} {Qx : Exit -> Act -> World -> Prop} {Q : List PV -> PHp -> Prop} : ∀ (l : List Oper) (env : List PV) (ph : PHp) (Z : Nat -> Prop) (H : IH) (m : Nat -> Nat) (ienv : Env) (f : Inj) (a : Act) (w : World),
 Rel P f H w -> aQ G f -> qB P f ienv a.tmps.toList -> Marks B f w a.defers -> (∀ o ∈ l, o.op.operands.toList.all (vP (zG f)) = true) -> Hp P Z H (own m ph) -> H.base <= H.size -> VRL P Z H (own m ph) env ienv ->
 (pops P tab inl nm (ops.toList.map (·.dst)) l env ph).holds P G Q ->
 (∀ (env' : List PV) (ph' : PHp) (Z' : Nat -> Prop) (H' : IH) (m' : Nat -> Nat) (ienv' : Env) (f' : Inj) (a' : Act) (w' : World), Q env' ph' -> Rel P f' H' w' -> Grow f H w f' H' w' -> qB P f' ienv' a'.tmps.toList -> Marks B f' w' a'.defers -> Hp P Z' H' (own m' ph') -> VRL P Z' H' (own m' ph') env' ienv' ->
   Step Z H (own m ph) Z' H' (own m' ph') -> KR (inP nm) (own m ph) (own m' ph') -> Qx .normal a' w') -> wpListIn F 0 P ops Qx l a w
 | [], env, ph, Z, H, m, ienv, f, a, w, hR, hG, henv, hm, _, hp, hb, he, h, hK => hK env ph Z H m ienv f a w h hR (.refl _ _ _) henv hm hp he (.refl _ _ _) (.refl _ _)
 | o :: l, env, ph, Z, H, m, ienv, f, a, w, hR, hG, henv, hm, hok, hp, hb, he, h, hK => by
   unfold pops at h;unfold wpListIn;unfold kL at h;split at h
   ·rename_i hw;rw [yZ henv (rM he hw), if_pos rfl]
    -- behind the operation
    have next : ∀ (Z' : Nat -> Prop) (m' : Nat -> Nat) (v : PV) (ph2 : PHp) (u : Value) (H' : IH) (f' : Inj) (v' : Value) (w' : World), (pops P tab inl nm (ops.toList.map (·.dst)) l (yR env o.dst v) ph2).holds P G Q -> Hp P Z' H' (own m' ph2) -> VR P Z' H' (own m' ph2) v u -> VRL P Z' H' (own m' ph2) env ienv -> Step Z H (own m ph) Z' H' (own m' ph2) -> KR (inP nm) (own m ph) (own m' ph2) ->
     Rel P f' H' w' -> Grow f H w f' H' w' -> VRel P f' u v' -> wpListIn F 0 P ops Qx l (a.put o.dst v') w' := by
     intro Z' m' v ph2 u H' f' v' w' hq b1 b2 b3 b4 b5 k1 k2 k3
     refine rQ hF hns ht l (yR env o.dst v) ph2 Z' H' m' (ienv.putD o.dst u) f' (a.put o.dst v') w' k1 (hG.mono k2.le) (kV (henv.mono k2.le) k3 _) (by rw [put_defers]; exact Marks.grow k2 _ hm)
      (fun o' ho' => List.all_eq_true.2 fun x hx => kM (zI k2.le) (List.all_eq_true.1 (hok o' (by simp [ho'])) x hx)) b1 (by rw [b4.base]; exact Nat.le_trans hb b4.size) (b3.putD b2 _) hq ?_
     intro env' ph' Z2 H2 m2 ienv' f2 a2 w2 q1 q2 q3 q4 q5 q6 q7 q8 q9;exact hK env' ph' Z2 H2 m2 ienv' f2 a2 w2 q1 q2 (k2.trans q3) q4 q5 q6 q7 (b4.trans q8) (b5.trans q9)
    split at h
    ·exact h.elim
    ·rename_i v ph1 hx
     have hh : (needs o.op = true -> fresh nm (zH nm o.dst) env ph = true) ∧ (pops P tab inl nm (ops.toList.map (·.dst)) l (yR env o.dst v) ph1).holds P G Q := by
      unfold q1M at h
      cases hn : needs o.op with
      | true => rw [hn] at h; exact ⟨fun _ => h.1, h.2⟩
      | false => rw [hn] at h; exact ⟨fun h => by (cases h), h⟩
     refine qK8 hF hns ht hR hG henv (hok o (by simp)) hp hb he hx hh.1 fun Z' m' u H' f' v' w' b1 b2 b3 b4 b5 k1 k2 k3 => ?_
     exact next Z' m' v ph1 u H' f' v' w' hh.2 b1 b2 b3 b4 b5 k1 k2 k3
    ·rename_i g as ph1 hx;obtain ⟨R, hc, hk⟩ := h;refine qRT hF hR hG henv (hok o (by simp)) hp hb he hx hc (fun v ph2 hr => (hk v ph2 hr).1) fun Z' m' v ph2 u H' f' v' w' hr b1 b2 b3 b4 b5 k1 k2 k3 => ?_
     exact next Z' m' v ph2 u H' f' v' w' (hk v ph2 hr).2 b1 b2 b3 b4 b5 k1 k2 k3
    ·exact h.elim
   ·rename_i hw;rw [yZ henv (rM he hw), if_neg (by simp)];refine ⟨fun g _ => hF.fn g, rQ hF hns ht l (yR env o.dst (.tup [])) ph Z H m (ienv.putD o.dst undef) f (a.put o.dst undef) w hR hG (kV henv .undef _) (by rw [put_defers]; exact hm) (fun o' ho' => hok o' (by simp [ho'])) hp hb (he.putD (VRL.tup' (vs := #[]) .nil) _) h hK⟩
   ·exact h.elim
end Go.Idl
namespace Go.Idl
variable [Gc]
variable {P : Program} {G : Nat -> Bool} {nat : yU} {tab : aV} {inl : FuncId -> Bool} {nm : Nm} {rd : Bool} {good : FuncId -> Bool}
structure PSet (P : Program) (good : FuncId -> Bool) (nat : yU) (G : Nat -> Bool) (tab : aV) : Prop where
 s : Setup P good nat G
 t : qSN P nat tab
abbrev PQ := IExit -> List PV -> PHp -> Prop
def Runs (P : Program) (G : Nat -> Bool) (rd : Bool) (nm : Nm) (c : Code) (env : List PV) (ph : PHp) (Q : PQ) : Prop :=
 ∀ (Z : Nat -> Prop) (H : IH) (m : Nat -> Nat) (ienv : Env), Hp P Z H (own m ph) -> H.base <= H.size -> VRL P Z H (own m ph) env ienv ->
  Holds P G rd c ienv H fun o => ∃ Z' m' env' ph', Hp P Z' o.H (own m' ph') ∧ VRL P Z' o.H (own m' ph') env' o.env ∧ Step Z H (own m ph) Z' o.H (own m' ph') ∧ KR (inP nm) (own m ph) (own m' ph') ∧ Q o.e env' ph'
theorem Runs.mono {c : Code} {env : List PV} {ph : PHp} {Q Q' : PQ} (h : Runs P G rd nm c env ph Q) (hq : ∀ e env ph, Q e env ph -> Q' e env ph) : Runs P G rd nm c env ph Q' :=
 fun Z H m ienv hp hb he => (h Z H m ienv hp hb he).mono fun o ⟨Z', m', env', ph', a, b, c, d, e⟩ => ⟨Z', m', env', ph', a, b, c, d, hq _ _ _ e⟩
inductive WkP : List PV -> List PV -> Prop
 | nil : WkP [] []
 | same {x : PV} {l m : List PV} (h : WkP l m) : WkP (x :: l) (x :: m)
 | any {x : PV} {l m : List PV} (h : WkP l m) : WkP (x :: l) (.unk :: m)
theorem WkP.refl : ∀ (l : List PV), WkP l l
 | [] => .nil
 | _ :: l => .same (WkP.refl l)
theorem WkP.rel {Z : Nat -> Prop} {H : IH} {M : Nat -> Option (Nat × PO)} {l m : List PV} (h : WkP l m) : ∀ {vs : List Value}, VRL P Z H M l vs -> VRL P Z H M m vs := by
 induction h with
 | nil => intro vs hx; exact hx
 | same _ ih => intro vs hx; obtain ⟨v, vs', rfl, h1, h2⟩ := hx.uncons; exact .cons h1 (ih h2)
 | any _ ih => intro vs hx; obtain ⟨v, vs', rfl, h1, h2⟩ := hx.uncons; exact .cons .unk (ih h2)
def tH (p q : PHp) : Prop := ∀ k ob, qC k p = some ob -> qC k q = some ob
theorem tH.refl (p : PHp) : tH p p := fun _ _ h => h
theorem tH.nil (p : PHp) : tH [] p := fun _ _ h => by cases h
theorem tH.skip {p q : PHp} {k : Nat} {ob : PO} (h : tH p q) (hk : qC k p = none) : tH p ((k, ob) :: q) := fun j o hj => by
 show cond (j == k) (some ob) (qC j q) = some o;by_cases e : j = k
 ·subst e; rw [hk] at hj; cases hj
 ·have : (j == k) = false := by simpa using e
  rw [this]; exact h j o hj
theorem tH.cons {p q : PHp} {k : Nat} {ob : PO} (h : tH p q) : tH ((k, ob) :: p) ((k, ob) :: q) := fun j o hj => by
 show cond (j == k) (some ob) (qC j q) = some o;have hj : cond (j == k) (some ob) (qC j p) = some o := hj
 cases e : (j == k) with
 | true => rw [e] at hj; exact hj
 | false => rw [e] at hj; exact h j o hj
theorem tH.put {p q : PHp} {k : Nat} {ob : PO} (hk : qC k q = some ob) (h : tH p q) : tH ((k, ob) :: p) q := fun j o hj => by
 have hj : cond (j == k) (some ob) (qC j p) = some o := hj
 cases e : (j == k) with
 | true =>
   rw [e] at hj;have hj2 : some ob = some o := hj;have : j = k := by simpa using e
   subst this;exact hk.trans hj2
 | false => rw [e] at hj; exact h j o hj
theorem Runs.pre {c : Code} {env env1 : List PV} {ph ph1 : PHp} {Q : PQ} (hw : WkP env env1) (hs : tH ph1 ph) (h : Runs P G rd nm c env1 ph1 Q) : Runs P G rd nm c env ph Q := by
 intro Z H m ienv hp hb he;have hf := Fz.drop hp hs;refine (h Z H m ienv hf.hp hb (hw.rel (hf.vrl he))).mono ?_;rintro o ⟨Z', m', env', ph', a, b, c, d, e⟩;exact ⟨Z', m', env', ph', a, b, hf.step.trans c, (hf.kr _).trans d, e⟩
def SQ (P : Program) (G : Nat -> Bool) (rd : Bool) (nm : Nm) (y : Code) (Q : PQ) : PQ := fun e env ph => match e with
 | .normal => Runs P G rd nm y env ph Q
 | e => Q e env ph
theorem SQ.go {y : Code} {Q : PQ} {env : List PV} {ph : PHp} (h : Runs P G rd nm y env ph Q) : SQ P G rd nm y Q .normal env ph := h
theorem SQ.rt {y : Code} {Q : PQ} {env : List PV} {ph : PHp} (h : Q .ret env ph) : SQ P G rd nm y Q .ret env ph := h
theorem SQ.ex {y : Code} {Q : PQ} {env : List PV} {ph : PHp} {id : Nat} (h : Q (.exit id) env ph) : SQ P G rd nm y Q (.exit id) env ph := h
theorem Runs.seq {x y : Code} {env : List PV} {ph : PHp} {Q : PQ} (h : Runs P G rd nm x env ph (SQ P G rd nm y Q)) : Runs P G rd nm (.seq x y) env ph Q := by
 intro Z H m ienv hp hb he;refine .seqQ (h Z H m ienv hp hb he) ?_ ?_
 ·rintro o ⟨Z', m', env', ph', a, b, c, d, e⟩ hn;rw [hn] at e;refine (e Z' o.H m' o.env a (by rw [c.base]; exact Nat.le_trans hb c.size) b).mono ?_;rintro o2 ⟨Z2, m2, env2, ph2, a2, b2, c2, d2, e2⟩;exact ⟨Z2, m2, env2, ph2, a2, b2, c.trans c2, d.trans d2, e2⟩
 ·rintro o ⟨Z', m', env', ph', a, b, c, d, e⟩ hn;refine ⟨Z', m', env', ph', a, b, c, d, ?_⟩
  cases ho : o.e with
  | normal => exact absurd ho hn
  | exit id => rw [ho] at e; exact e
  | goto l => rw [ho] at e; exact e
  | ret => rw [ho] at e; exact e
theorem Runs.cond {v : Operand} {x y : Code} {env : List PV} {ph : PHp} {Q : PQ} {t : Bool} (hok : vP G v = true) (hv : qL env v = fvv (.bool t)) (hx : t = true -> Runs P G rd nm x env ph Q) (hy : t = false -> Runs P G rd nm y env ph Q) : Runs P G rd nm (.cond v x y) env ph Q := by
 intro Z H m ienv hp hb he;have hr := qE he v;rw [hv] at hr;exact .cond hok (zU hr rfl) (fun ht => hx ht Z H m ienv hp hb he) (fun ht => hy ht Z H m ienv hp hb he)
theorem Runs.skip {env : List PV} {ph : PHp} {Q : PQ} (h : Q .normal env ph) : Runs P G rd nm .skip env ph Q :=
 fun Z H m ienv hp hb he => .skip ⟨Z, m, env, ph, hp, he, .refl _ _ _, .refl _ _, h⟩
theorem Runs.label {l : Nat} {env : List PV} {ph : PHp} {Q : PQ} (h : Q .normal env ph) : Runs P G rd nm (.label l) env ph Q :=
 fun Z H m ienv hp hb he => .label ⟨Z, m, env, ph, hp, he, .refl _ _ _, .refl _ _, h⟩
theorem Runs.ret {env : List PV} {ph : PHp} {Q : PQ} (h : Q .ret env ph) : Runs P G rd nm .ret env ph Q :=
 fun Z H m ienv hp hb he => .ret ⟨Z, m, env, ph, hp, he, .refl _ _ _, .refl _ _, h⟩
theorem Runs.exit {id : Nat} {env : List PV} {ph : PHp} {Q : PQ} (h : Q (.exit id) env ph) : Runs P G rd nm (.exit id) env ph Q :=
 fun Z H m ienv hp hb he => .exit ⟨Z, m, env, ph, hp, he, .refl _ _ _, .refl _ _, h⟩
def BQ (id : Nat) (Q : PQ) : PQ := fun e env ph => match e with
 | .exit i => if i = id then Q .normal env ph else Q (.exit i) env ph
 | e => Q e env ph
theorem BQ.go {id : Nat} {Q : PQ} {env : List PV} {ph : PHp} (h : Q .normal env ph) : BQ id Q .normal env ph := h
theorem BQ.rt {id : Nat} {Q : PQ} {env : List PV} {ph : PHp} (h : Q .ret env ph) : BQ id Q .ret env ph := h
theorem BQ.on {id : Nat} {Q : PQ} {env : List PV} {ph : PHp} (h : Q .normal env ph) : BQ id Q (.exit id) env ph := by unfold BQ; simp only [if_true]; exact h
theorem BQ.ex {id i : Nat} {Q : PQ} {env : List PV} {ph : PHp} (hne : i ≠ id) (h : Q (.exit i) env ph) : BQ id Q (.exit i) env ph := by unfold BQ; simp only [if_neg hne]; exact h
theorem Runs.block {id : Nat} {x : Code} {env : List PV} {ph : PHp} {Q : PQ} (h : Runs P G rd nm x env ph (BQ id Q)) : Runs P G rd nm (.block id x) env ph Q := by
 intro Z H m ienv hp hb he;refine .block ((h Z H m ienv hp hb he).mono ?_);rintro o ⟨Z', m', env', ph', a, b, c, d, e⟩;unfold sK;unfold BQ at e
 cases ho : o.e with
 | normal => rw [ho] at e; simp only; exact ⟨Z', m', env', ph', a, b, c, d, by rw [ho]; exact e⟩
 | goto l => rw [ho] at e; simp only; exact ⟨Z', m', env', ph', a, b, c, d, by rw [ho]; exact e⟩
 | ret => rw [ho] at e; simp only; exact ⟨Z', m', env', ph', a, b, c, d, by rw [ho]; exact e⟩
 | exit i =>
   rw [ho] at e;simp only at e ⊢;by_cases hi : i = id
   ·rw [if_pos hi] at e ⊢;exact ⟨Z', m', env', ph', a, b, c, d, e⟩
   ·rw [if_neg hi] at e ⊢;exact ⟨Z', m', env', ph', a, b, c, d, by rw [ho]; exact e⟩
def aO {σ ρ : Type} : Nat -> (σ -> Option (σ ⊕ ρ)) -> σ -> Option ρ
 | 0, _, _ => none
 | n + 1, f, s => match f s with
   | some (.inl s') => aO n f s'
   | some (.inr r) => some r
   | none => none
theorem qEO {σ ρ : Type} {f : σ -> Option (σ ⊕ ρ)} : ∀ {n : Nat} {s : σ} {r : ρ}, aO n f s = some r -> aO (n + 1) f s = some r
 | 0, _, _, h => by cases h
 | n + 1, s, r, h => by
   unfold aO at h ⊢
   cases hf : f s with
   | none => rw [hf] at h; cases h
   | some x =>
     rw [hf] at h
     cases x with
     | inl s' => exact qEO h
     | inr r => exact h
theorem qOD {σ ρ : Type} {f : σ -> Option (σ ⊕ ρ)} {n k : Nat} {s : σ} {r : ρ} (h : aO n f s = some r) (hk : n <= k) : aO k f s = some r := by
 induction hk with
 | refl => exact h
 | step _ ih => exact qEO ih
open Classical in
noncomputable def yB {σ ρ : Type} (f : σ -> Option (σ ⊕ ρ)) (s : σ) : Option ρ := if h : ∃ r n, aO n f s = some r then some (Classical.choose h) else none
theorem qFW {σ ρ : Type} {f : σ -> Option (σ ⊕ ρ)} {n : Nat} {s : σ} {r : ρ} (h : aO n f s = some r) : yB f s = some r := by
 have he : ∃ r n, aO n f s = some r := ⟨r, n, h⟩
 unfold yB;rw [dif_pos he];obtain ⟨k, hk⟩ := Classical.choose_spec he;have h1 := qOD h (Nat.le_max_left n k);have h2 := qOD hk (Nat.le_max_right n k);rw [h1] at h2;exact h2.symm
theorem bC {σ ρ : Type} {f : σ -> Option (σ ⊕ ρ)} {s : σ} {r : ρ} (h : yB f s = some r) : ∃ n, aO n f s = some r := by
 unfold yB at h;split at h
 ·rename_i he;cases h;exact Classical.choose_spec he
 ·cases h
theorem vV {σ ρ : Type} (f : σ -> Option (σ ⊕ ρ)) (s : σ) : yB f s = (match f s with
 | some (.inl s') => yB f s'
 | some (.inr r) => some r
 | none => none) := by
 cases hf : f s with
 | none =>
   cases hl : yB f s with
   | none => rfl
   | some r =>
     obtain ⟨n, hn⟩ := bC hl
     cases n with
     | zero => cases hn
     | succ n => unfold aO at hn; rw [hf] at hn; cases hn
 | some x =>
   cases x with
   | inr r => exact qFW (n := 1) (by unfold aO; rw [hf])
   | inl s' =>
     simp only
     cases hl : yB f s' with
     | some r =>
       obtain ⟨n, hn⟩ := bC hl;exact qFW (n := n + 1) (by unfold aO; rw [hf]; exact hn)
     | none =>
       cases hl2 : yB f s with
       | none => rfl
       | some r =>
         obtain ⟨n, hn⟩ := bC hl2
         cases n with
         | zero => cases hn
         | succ n => unfold aO at hn; rw [hf] at hn; rw [qFW hn] at hl; cases hl
def RQ {σ ρ : Type} (E : σ -> List PV) (Ph : σ -> PHp) (id : Nat) (r : ρ) (Q : PQ) (x : σ ⊕ ρ) : PQ := fun e env ph => match x with
 | .inl s' => e = .normal ∧ WkP env (E s') ∧ tH (Ph s') ph
 | .inr r' => r' = r -> e ≠ .normal ∧ BQ id Q e env ph
theorem Runs.loop {σ ρ : Type} (E : σ -> List PV) (Ph : σ -> PHp) {step : σ -> Option (σ ⊕ ρ)} {s0 : σ} {r : ρ} (hr : yB step s0 = some r) {id : Nat} {x : Code} {env : List PV} {ph : PHp} {Q : PQ} (hw : WkP env (E s0)) (hs : tH (Ph s0) ph)
 (hx : ∀ s y, step s = some y -> Runs P G rd nm x (E s) (Ph s) (RQ E Ph id r Q y)) : Runs P G rd nm (.block id (.loop x)) env ph Q := by
 obtain ⟨n, hn⟩ := bC hr;refine .pre hw hs (.block ?_);intro Z H m ienv hp hb he;refine .loop (fun n ienv1 H1 => ∃ s Z1 m1, aO n step s = some r ∧ Hp P Z1 H1 (own m1 (Ph s)) ∧ VRL P Z1 H1 (own m1 (Ph s)) (E s) ienv1 ∧ Step Z H (own m (Ph s0)) Z1 H1 (own m1 (Ph s)) ∧ KR (inP nm) (own m (Ph s0)) (own m1 (Ph s))) ?_ (n := n) ⟨s0, Z, m, hn, hp, he, .refl _ _ _, .refl _ _⟩;rintro n1 ienv1 H1 ⟨s, Z1, m1, q1, q2, q3, q4, q5⟩
 cases n1 with
 | zero => cases q1
 | succ n1 =>
   unfold aO at q1
   cases hf : step s with
   | none => rw [hf] at q1; cases q1
   | some y =>
     rw [hf] at q1;refine (hx s y hf Z1 H1 m1 ienv1 q2 (by rw [q4.base]; exact Nat.le_trans hb q4.size) q3).mono ?_;rintro o ⟨Z2, m2, env2, ph2, a, b, c, d, e⟩
     cases y with
     | inl s' =>
       obtain ⟨e1, e2, e3⟩ := e;rw [e1];simp only;have hfz := Fz.drop a e3;exact ⟨n1, Nat.lt_succ_self _, s', Z2, m2, q1, hfz.hp, e2.rel (hfz.vrl b), (q4.trans c).trans hfz.step, (q5.trans d).trans (hfz.kr _)⟩
     | inr r' =>
       simp only [Option.some.injEq] at q1;subst q1;obtain ⟨e1, e2⟩ := e rfl
       cases ho : o.e with
       | normal => exact absurd ho e1
       | exit i => simp only; exact ⟨Z2, m2, env2, ph2, a, b, q4.trans c, q5.trans d, by rw [ho] at e2; exact e2⟩
       | goto l => simp only; exact ⟨Z2, m2, env2, ph2, a, b, q4.trans c, q5.trans d, by rw [ho] at e2; exact e2⟩
       | ret => simp only; exact ⟨Z2, m2, env2, ph2, a, b, q4.trans c, q5.trans d, by rw [ho] at e2; exact e2⟩
theorem PSet.reg (s : PSet P good nat G tab) {id : Nat} {ops : Array Oper} {env : List PV} {ph : PHp} {Q : PQ} {ds : List (Option Tmp)} (hok : jB G ops = true) (hds : ops.toList.map (·.dst) = ds)
 (h : (pops P tab inl nm ds ops.toList env ph).holds P G fun e p => Q .normal e p) : Runs P G rd nm (.region id ops false) env ph Q := by
 intro Z H m ienv hp hb he B F f a w hF hr hR hG henv hm;subst hds;refine wpIn_region_list (rQ hF s.s.spec s.t ops.toList env ph Z H m ienv f a w hR hG henv hm (fun o ho => List.all_eq_true.1 (jP hG hok) o (by simpa using ho)) hp hb he h ?_);intro env' ph' Z' H' m' ienv' f' a' w' q1 q2 q3 q4 q5 q6 q7 q8 q9;exact ⟨⟨.normal, ienv', H'⟩, f', ⟨Z', m', env', ph', q6, q7, q8, q9, q1⟩, rfl, q2, q3, q4, q5⟩
theorem PSet.regS (s : PSet P good nat G tab) {id : Nat} {ops : Array Oper} {y : Code} {env : List PV} {ph : PHp} {Q : PQ} {ds : List (Option Tmp)} (hok : jB G ops = true) (hds : ops.toList.map (·.dst) = ds)
 (h : (pops P tab inl nm ds ops.toList env ph).holds P G fun e p => Runs P G rd nm y e p Q) : Runs P G rd nm (.seq (.region id ops false) y) env ph Q :=
 .seq (s.reg hok hds h)
end Go.Idl
namespace Go.Idl
variable [Gc]
variable {P : Program} {G : Nat -> Bool} {nat : yU} {tab : aV} {nm : Nm} {good : FuncId -> Bool} {Z : Nat -> Prop} {H : IH} {M : Nat -> Option (Nat × PO)}
theorem FR.inter {Z0 : Nat -> Prop} {x : FV} {v : Value} (h0 : FR Z0 H x v) : ∀ {S : (Nat -> Prop) -> Prop}, (∀ Z, S Z -> FR Z H x v) -> FR (fun b => ∀ Z, S Z -> Z b) H x v := by
 induction h0 with
 | v hp h1 => exact fun _ => .v hp h1
 | nil h0 hs => exact fun _ => .nil h0 hs
 | @l el n cs b o sp c vs hz hb hn hs hl hc ih =>
   intro S hS;by_cases he : cs = [] ∧ n = 0
   ·obtain ⟨rfl, rfl⟩ := he;exact .nil (fun h => by cases h) (fun x h => by cases h; exact hs)
   ·refine .l (fun Z hZ => ?_) hb hn hs hl fun i x v h1 h2 => ih i x v h1 h2 fun Z hZ => ?_
    ·cases hS Z hZ with
     | nil => exact absurd ⟨rfl, rfl⟩ he
     | l hz => exact hz
    ·cases hS Z hZ with
     | nil => simp at h1
     | l _ _ _ _ hl' hc' =>
       rw [hl] at hl'; cases hl';exact hc' i x v h1 h2
theorem VR.inter {Z0 : Nat -> Prop} {x : PV} {v : Value} (h0 : VR P Z0 H (fun _ => none) x v) : ∀ {S : (Nat -> Prop) -> Prop}, (∀ Z, S Z -> VR P Z H (fun _ => none) x v) -> VR P (fun b => ∀ Z, S Z -> Z b) H (fun _ => none) x v := by
 induction h0 with
 | f h => exact fun hS => .f (h.inter fun Z hZ => by cases hS Z hZ with | f h => exact h)
 | agg hl hc ih => exact fun hS => .agg hl fun i x v h1 h2 => ih i x v h1 h2 fun Z hZ => by cases hS Z hZ with | agg _ hc' => exact hc' i x v h1 h2
 | tup hl hc ih => exact fun hS => .tup hl fun i x v h1 h2 => ih i x v h1 h2 fun Z hZ => by cases hS Z hZ with | tup _ hc' => exact hc' i x v h1 h2
 | own h1 h => exact fun _ => .own h1 fun b ob hM => by cases hM
 | ref h1 h => exact fun _ => .ref h1 fun b ob hM => by cases hM
 | mp h1 h => exact fun _ => .mp h1 fun b ob hM => by cases hM
 | @lp cs off b o vs hz hb hl hc =>
   intro S hS
   have key : ∀ Z, S Z -> ∃ b' o' vs', b' = b ∧ o' = o ∧ Z b' ∧ H.loads b' o' cs.length = some vs' ∧ ∀ (i : Nat) x v, cs[i]? = some x -> vs'[i]? = some v -> FR Z H x v := fun Z hZ => by
    generalize hq : (Value.pointer (some ⟨b, o + off, none⟩)) = q at hS;have h := hS Z hZ
    cases h with
    | lp hz' hb' hl' hc' =>
      simp only [Value.pointer.injEq, Option.some.injEq, Addr.mk.injEq, and_true] at hq;obtain ⟨rfl, hq⟩ := hq;exact ⟨_, _, _, rfl, by omega, hz', hl', hc'⟩
   refine .lp (fun Z hZ => ?_) hb hl fun i x v h1 h2 => (hc i x v h1 h2).inter fun Z hZ => ?_
   ·obtain ⟨b', o', vs', rfl, rfl, q, _⟩ := key Z hZ; exact q
   ·obtain ⟨b', o', vs', rfl, rfl, _, q2, q3⟩ := key Z hZ;rw [hl] at q2; cases q2;exact q3 i x v h1 h2
 | fn hf hc hfc hcc i1 i2 => exact fun hS => .fn hf hc (fun i x v h1 h2 => i1 i x v h1 h2 fun Z hZ => by cases hS Z hZ with | fn _ _ q _ => exact q i x v h1 h2) (fun i x v h1 h2 => i2 i x v h1 h2 fun Z hZ => by cases hS Z hZ with | fn _ _ _ q => exact q i x v h1 h2)
 | yl => exact fun _ => .yl
 | unk => exact fun _ => .unk
def q23 (P : Program) (H : IH) (xs : List PV) (vs : List Value) : Nat -> Prop := fun b => ∀ Z, VRL P Z H (fun _ => none) xs vs -> Z b
theorem q2V {xs : List PV} {vs : List Value} (h : VRL P Z H (fun _ => none) xs vs) : VRL P (q23 P H xs vs) H (fun _ => none) xs vs :=
 ⟨h.len, fun i x v h1 h2 => (h.val i x v h1 h2).inter (S := fun Z => VRL P Z H (fun _ => none) xs vs) fun Z hZ => hZ.val i x v h1 h2⟩
theorem qVX {xs : List PV} {vs : List Value} (h : VRL P Z H (fun _ => none) xs vs) {b : Nat} (hb : q23 P H xs vs b) : Z b := hb Z h
noncomputable def qX7 (P : Program) (env : List PV) (ph : PHp) : ResultVar -> Option PV
 | .tmp t => some ((zM env t).getD .unk)
 | .cell a t => oQ P t ((zM env a).getD .unk) ph
noncomputable def qFJ (P : Program) (env : List PV) (ph : PHp) : List ResultVar -> Option (List PV)
 | [] => some []
 | r :: l => match qX7 P env ph r with
   | some v => (match qFJ P env ph l with
     | some vs => some (v :: vs)
     | none => none)
   | none => none
def qDK : List PV -> PV
 | [v] => v
 | vs => .tup vs
noncomputable def fO (P : Program) (fn : Func) (env : List PV) (ph : PHp) : Option PV := (qFJ P env ph fn.results.toList).map fun xs => qDK (rtL (rt1 P) fn.resultTypes.toList xs)
theorem qX9 {m : Nat -> Nat} {ph : PHp} {env : List PV} {ienv : Env} {r : ResultVar} {x : PV} (hp : Hp P Z H (own m ph)) (he : VRL P Z H (own m ph) env ienv) (h : qX7 P env ph r = some x) : ∃ v, qR6 P ienv H r = some v ∧ VR P Z H (own m ph) x v := by
 cases r with
 | tmp t => cases h; exact ⟨_, rfl, qE he (.tmp t)⟩
 | cell a t => exact qOO hp (qE he (.tmp a)) h
theorem qNQ {m : Nat -> Nat} {ph : PHp} {env : List PV} {ienv : Env} (hp : Hp P Z H (own m ph)) (he : VRL P Z H (own m ph) env ienv) : ∀ {l : List ResultVar} {xs : List PV}, qFJ P env ph l = some xs -> ∃ vs, qJS P ienv H l = some vs ∧ VRL P Z H (own m ph) xs vs
 | [], xs, h => by cases h; exact ⟨[], rfl, .nil⟩
 | r :: l, xs, h => by
   unfold qFJ at h;split at h
   ·rename_i x hx;split at h
    ·rename_i xs' hxs;cases h;obtain ⟨v, h1, h2⟩ := qX9 hp he hx;obtain ⟨vs, h3, h4⟩ := qNQ hp he hxs;exact ⟨v :: vs, by unfold qJS; rw [h1, h3], .cons h2 h4⟩
    ·cases h
   ·cases h
theorem qBH {m : Nat -> Nat} {ph : PHp} {env : List PV} {ienv : Env} {fn : Func} {x : PV} (hp : Hp P Z H (own m ph)) (he : VRL P Z H (own m ph) env ienv) (h : fO P fn env ph = some x) : ∃ v, yC P fn ienv H = some v ∧ VR P Z H (own m ph) x v := by
 unfold fO at h;obtain ⟨xs, h1, rfl⟩ := Option.map_eq_some_iff.1 h;obtain ⟨vs, h2, h3⟩ := qNQ hp he h1
 replace h3 := qES (f := rt1 P) (ts := fn.resultTypes.toList) (fun t x v h => qKM h) h3
 revert h3
 generalize rtL (rt1 P) fn.resultTypes.toList xs = xs;intro h3;refine ⟨one vs, by unfold yC; rw [h2]; rfl, ?_⟩
 match xs, h3 with
 | [], h3 => rw [h3.nil_left]; exact VRL.tup' (vs := #[]) .nil
 | [x], h3 =>
   obtain ⟨v, vs', rfl, a, b⟩ := h3.uncons;rw [b.nil_left]; exact a
 | x :: y :: l, h3 =>
   obtain ⟨v, vs', rfl, a, b⟩ := h3.uncons;obtain ⟨v2, vs2, rfl, a2, b2⟩ := b.uncons;exact VRL.tup' (vs := (v :: v2 :: vs2).toArray) (by simpa using VRL.cons a (VRL.cons a2 b2))
noncomputable def fzR (P : Program) (ph : PHp) : PV -> Option PV
 | .tup xs => (match fzA P xs ph with
   | some (ys, _) => some (.tup ys)
   | none => none)
 | x => (match fzP P ph x with
   | some (y, _) => some y
   | none => none)
theorem q4H {m : Nat -> Nat} {ph : PHp} {x y : PV} {v : Value} (hp : Hp P Z H (own m ph)) (hx : VR P Z H (own m ph) x v) (h : fzR P ph x = some y) : ∃ Z' ph', Fz P Z H m ph Z' ph' ∧ VR P Z' H (fun _ => none) y v := by
 unfold fzR at h;split at h
 ·split at h
  ·rename_i ys ph' hf;cases h;obtain ⟨vs, rfl, hr⟩ := hx.tupL;obtain ⟨Z', h1, h2⟩ := qNB hp hr hf;exact ⟨Z', ph', h1, h2.tup'⟩
  ·cases h
 ·split at h
  ·rename_i y' ph' hf;cases h;obtain ⟨Z', h1, h2⟩ := qI0 hp hx hf;exact ⟨Z', ph', h1, h2⟩
  ·cases h
structure PEn (α : Type) where
 p : α -> PV
 inj : ∀ x y, p x = p y -> x = y
 uniq : ∀ (P : Program) (Z Z' : Nat -> Prop) (H : IH) (x y : α) (v : Value), VR P Z H (fun _ => none) (p x) v -> VR P Z' H (fun _ => none) (p y) v -> x = y
structure AEn (α : Type) where
 p : α -> List PV
 inj : ∀ x y, p x = p y -> x = y
 uniq : ∀ (P : Program) (Z Z' : Nat -> Prop) (H : IH) (x y : α) (vs : List Value), VRL P Z H (fun _ => none) (p x) vs -> VRL P Z' H (fun _ => none) (p y) vs -> x = y
def AEn.nil : AEn Unit := ⟨fun _ => [], fun _ _ _ => rfl, fun _ _ _ _ _ _ _ _ _ => rfl⟩
def AEn.cons {α β : Type} (a : PEn α) (b : AEn β) : AEn (α × β) := ⟨fun x => a.p x.1 :: b.p x.2, fun x y h => by
 simp only [List.cons.injEq] at h
 exact Prod.ext (a.inj _ _ h.1) (b.inj _ _ h.2), fun P Z Z' H x y vs h1 h2 => by
 obtain ⟨v, vs', rfl, a1, b1⟩ := h1.uncons;obtain ⟨v', vs2, e, a2, b2⟩ := h2.uncons;simp only [List.cons.injEq] at e;obtain ⟨rfl, rfl⟩ := e
 exact Prod.ext (a.uniq P Z Z' H _ _ _ a1 a2) (b.uniq P Z Z' H _ _ _ b1 b2)⟩
open Classical in
noncomputable def ofF {α β : Type} (a : AEn α) (F : α -> Option β) (r : β -> PV) (xs : List PV) : Option PV :=
 if h : ∃ x, xs = a.p x then (F (Classical.choose h)).map r else none
theorem qZR {α β : Type} {a : AEn α} {F : α -> Option β} {r : β -> PV} (x : α) : ofF a F r (a.p x) = (F x).map r := by
 have h : ∃ y, a.p x = a.p y := ⟨x, rfl⟩
 unfold ofF;rw [dif_pos h];rw [<- a.inj _ _ (Classical.choose_spec h)]
theorem q2D {α β : Type} {a : AEn α} {F : α -> Option β} {r : β -> PV} {xs : List PV} {y : PV} (h : ofF a F r xs = some y) : ∃ x z, xs = a.p x ∧ F x = some z ∧ y = r z := by
 unfold ofF at h;split at h
 ·rename_i he;obtain ⟨z, h1, h2⟩ := Option.map_eq_some_iff.1 h;exact ⟨_, z, Classical.choose_spec he, h1, h2.symm⟩
 ·cases h
def q5Q (tab : aV) (g : FuncId) (F : List PV -> Option PV) : aV := fun x xs => cond (Nat.beq x g) (F xs) (tab x xs)
def q4Q {α β : Type} (P : Program) (a : AEn α) (F : α -> Option β) (x : α) (args : List Value) (H : IH) : Prop := (∃ Z : Nat -> Prop, VRL P Z H (fun _ => none) (a.p x) args ∧ ∀ b, Z b -> b < H.size) ∧ H.base <= H.size ∧ GlH H ∧ ∃ y, F x = some y
def qXJ {α β : Type} (P : Program) (a : AEn α) (F : α -> Option β) (r : β -> PV) (x : α) (args : List Value) (H : IH) (v : Value) (H' : IH) : Prop := Old H H' ∧ ∃ y, F x = some y ∧ ∃ Z' : Nat -> Prop, (∀ b, Z' b -> b < H'.size) ∧ (∀ b, Z' b -> b < H.size -> q23 P H (a.p x) args b ∨ q4S b) ∧ VR P Z' H' (fun _ => none) (r y) v
def q79 {α β : Type} (P : Program) (G : Nat -> Bool) (g : FuncId) (nm : Nm) (a : AEn α) (F : α -> Option β) (r : β -> PV) : Prop :=
 ∃ fn c, P.funcs[g]? = some fn ∧ fn.body = some c ∧ ∀ x y, F x = some y -> ∃ N, fn.ntmps = N ∧ Runs P G false nm c (a.p x ++ List.replicate (N - (a.p x).length) .unk) [] fun e env ph => (e = .normal ∨ e = .ret) ∧ ∃ r0, fO P fn env ph = some r0 ∧ fzR P ph r0 = some (r y)
theorem PSet.addCall {α β : Type} (s : PSet P good nat G tab) {g : FuncId} (a : AEn α) (F : α -> Option β) (r : β -> PV) (hent : enters P g = true) (hfr : ∀ y, q3K (r y) = true)
 (h : ∀ (x : α) (y : β) (args : List Value) (H : IH), F x = some y -> (∃ Z : Nat -> Prop, VRL P Z H (fun _ => none) (a.p x) args ∧ ∀ b, Z b -> b < H.size) -> H.base <= H.size -> GlH H -> gK P G g args H fun q => qXJ P a F r x args H q.1 q.2) :
 PSet P good (addS nat g (fun (x : α × List Value) args H => x.2 = args ∧ q4Q P a F x.1 args H) (fun x H v H' => qXJ P a F r x.1 x.2 H v H')) G (q5Q tab g (ofF a F r)) := by
 have uniq : ∀ (x y : α × List Value) (args : List Value) (H : IH), (x.2 = args ∧ q4Q P a F x.1 args H) -> (y.2 = args ∧ q4Q P a F y.1 args H) -> x = y := by
  rintro ⟨x, as⟩ ⟨y, bs⟩ args H ⟨e1, ⟨Z1, h1, _⟩, _⟩ ⟨e2, ⟨Z2, h2, _⟩, _⟩;simp only at e1 e2 h1 h2;subst e1 e2;rw [a.uniq P Z1 Z2 H x y _ h1 h2]
 refine ⟨s.s.addS _ _ ?_, ?_⟩
 ·rintro ⟨x, as⟩ args H ⟨e1, ⟨Z0, h0, hz0⟩, hb, hgl, y, hy⟩;simp only at e1 h0 hy;subst e1;exact h x y as H hy ⟨Z0, h0, hz0⟩ hb hgl
 ·intro g' pargs r' ht;unfold q5Q at ht
  cases hg : Nat.beq g' g with
  | false =>
    rw [hg] at ht;obtain ⟨t1, t2, k, t3, t4⟩ := s.t g' pargs r' ht;refine ⟨t1, t2, k, ?_, t4⟩;unfold addS; rw [hg]; exact t3
  | true =>
    rw [hg] at ht;have hg' : g' = g := Nat.eq_of_beq_eq_true hg;subst hg';obtain ⟨x, y, rfl, hF, rfl⟩ := q2D ht;refine ⟨hent, hfr y, _, by unfold addS; rw [hg]; rfl, ?_⟩;intro Z H args hv hz hb hgl Q hQ
    have hpre : (fun (x : α × List Value) args H => x.2 = args ∧ q4Q P a F x.1 args H) (x, args) args H := ⟨rfl, ⟨Z, hv, hz⟩, hb, hgl.h hz, y, hF⟩
    rw [q4X uniq hpre];rintro ⟨v, H'⟩ ⟨o1, y', hy', Z', o2, o3, o4⟩;simp only at hy' o4;rw [hF] at hy'; cases hy';refine hQ v H' (fun b => Z b ∨ Z' b) o1 (fun b h => .inl h) ?_ ?_ ?_
    ·rintro b (h | h)
     ·exact Nat.lt_of_lt_of_le (hz b h) o1.size
     ·exact o2 b h
    ·rintro b (h | h) hlt
     ·exact h
     ·rcases o3 b h hlt with q | ⟨o, q⟩
      ·exact qVX hv q
      ·exact (hgl b o q).1
    ·exact o4.mono (p := fun _ => false) (fun _ h => .inr h) (Nat.le_refl _) (fun _ _ _ => rfl) (.refl _ _) fun j hj => by cases hj
theorem PSet.add {α β : Type} (s : PSet P good nat G tab) {g : FuncId} {nm : Nm} (a : AEn α) (F : α -> Option β) (r : β -> PV) (hent : enters P g = true) (hfr : ∀ y, q3K (r y) = true) (h : q79 P G g nm a F r) :
 PSet P good (addS nat g (fun (x : α × List Value) args H => x.2 = args ∧ q4Q P a F x.1 args H) (fun x H v H' => qXJ P a F r x.1 x.2 H v H')) G (q5Q tab g (ofF a F r)) :=
 s.addCall a F r hent hfr fun x y as H hy ⟨Z0, h0, hz0⟩ hb hgl => by
  obtain ⟨fn, c, q1, q2, q3⟩ := h;obtain ⟨N, hN, hrun⟩ := q3 x y hy;have hf := (q2V h0).mono (p := fun _ => false) (Z' := fun b => q23 P H (a.p x) as b ∨ q4S b) (fun _ h => .inl h) (Nat.le_refl _) (fun _ _ _ => rfl) (.refl _ _) (fun j hj => by cases hj)
  have hflt : ∀ b, q23 P H (a.p x) as b ∨ q4S b -> b < H.size := fun b hb => by
   rcases hb with hb | ⟨o, hb⟩
   ·exact hz0 b (qVX h0 hb)
   ·exact (hgl b o hb).1
  refine gK.of q1 q2 hN ?_
  have hp0 : Hp P (fun b => q23 P H (a.p x) as b ∨ q4S b) H (own (fun _ => 0) []) := ⟨hflt, fun k b ob hk => (by cases hk), fun k k' b b' ob ob' hk => (by cases hk), fun g o hg => ⟨.inr ⟨o, hg⟩, (hgl g o hg).2⟩⟩
  have e0 : own (fun _ => 0) [] = fun _ => none := rfl
  have hlen := h0.len
  have henv : VRL P (fun b => q23 P H (a.p x) as b ∨ q4S b) H (own (fun _ => 0) []) (a.p x ++ List.replicate (N - (a.p x).length) .unk) (as ++ List.replicate (N - as.length) undef) := by
   rw [hlen];refine VRL.append hf ⟨by simp, fun i z v h1 h2 => ?_⟩;rw [List.getElem?_replicate] at h1;split at h1
   ·cases h1; exact .unk
   ·cases h1
  refine (hrun _ H _ _ hp0 hb henv).mono ?_;rintro o ⟨Z', m', env', ph', a1, b1, c1, d1, he, r0, hr0, hfz⟩;refine ⟨he, ?_⟩;obtain ⟨v, v1, v2⟩ := qBH a1 b1 hr0;obtain ⟨Z2, ph2, w1, w2⟩ := q4H a1 v2 hfz;have noO : ∀ b, ¬ eD (own (fun _ => 0) []) b := fun b ⟨k, ob, hk, _⟩ => by cases hk
  refine ⟨v, v1, ⟨c1.size, c1.base, fun b hb => c1.keep b hb (noO b)⟩, y, hy, Z2, w1.hp.zlt, fun b hb hlt => ?_, w2⟩;rcases w1.znew b hb with h | h
  ·rcases c1.znew b h hlt with h | h
   ·exact h
   ·exact absurd h (noO b)
  ·exact absurd (c1.onew b h hlt) (noO b)
end Go.Idl
namespace Go.Idl
variable [Gc]
variable {P : Program} {G : Nat -> Bool} {nat : yU} {tab : aV} {inl : FuncId -> Bool} {nm : Nm} {good : FuncId -> Bool} {Z : Nat -> Prop} {H : IH} {M : Nat -> Option (Nat × PO)}
structure C1 (α : Type) where
 f : α -> FV
 inj : ∀ x y, f x = f y -> x = y
 uniq : ∀ (Z Z' : Nat -> Prop) (H : IH) (x y : α) (v : Value), FR Z H (f x) v -> FR Z' H (f y) v -> x = y
structure CN (α : Type) where
 f : α -> List FV
 k : Nat
 len : ∀ x, (f x).length = k
 inj : ∀ x y, f x = f y -> x = y
 uniq : ∀ (Z Z' : Nat -> Prop) (H : IH) (x y : α) (vs : List Value), FRL Z H (f x) vs -> FRL Z' H (f y) vs -> x = y
theorem qRH {x : Value} {v : Value} (h : FR Z H (.v x) v) : v = x := by cases h; rfl
def C1.plain {α : Type} (g : α -> Value) (hi : ∀ x y, g x = g y -> x = y) : C1 α := ⟨fun x => .v (g x), fun x y h => hi x y (by injection h), fun Z Z' H x y v a b => hi x y ((qRH a).symm.trans (qRH b))⟩
def C1.int (k : IntKind) : C1 Int := .plain (fun z => .int k z) fun x y h => by injection h
def C1.bool : C1 Bool := .plain (fun z => .bool z) fun x y h => by injection h
theorem FRL.uncons {x : FV} {xs : List FV} {ws : List Value} (h : FRL Z H (x :: xs) ws) : ∃ v vs, ws = v :: vs ∧ FR Z H x v ∧ FRL Z H xs vs := by
 cases ws with
 | nil => have := h.len; simp at this
 | cons v vs => exact ⟨v, vs, rfl, h.val 0 x v rfl rfl, by have := h.len; simpa using this, fun i y u h1 h2 => h.val (i + 1) y u (by simpa using h1) (by simpa using h2)⟩
theorem FRL.split {xs ys : List FV} {ws : List Value} (h : FRL Z H (xs ++ ys) ws) : FRL Z H xs (ws.take xs.length) ∧ FRL Z H ys (ws.drop xs.length) := by
 have hl := h.len;rw [List.length_append] at hl;refine ⟨⟨by simp; omega, fun i x v h1 h2 => ?_⟩, ⟨by simp; omega, fun i x v h1 h2 => ?_⟩⟩
 ·have hi := (List.getElem?_eq_some_iff.1 h1).1;rw [List.getElem?_take, if_pos hi] at h2;exact h.val i x v (by rw [List.getElem?_append_left hi]; exact h1) h2
 ·rw [List.getElem?_drop] at h2;exact h.val (xs.length + i) x v (by rw [List.getElem?_append_right (by omega)]; simpa using h1) h2
theorem qO3 {α : Type} (c : C1 α) {Z' : Nat -> Prop} : ∀ (xs ys : List α) (vs : List Value), FRL Z H (xs.map c.f) vs -> FRL Z' H (ys.map c.f) vs -> xs = ys
 | [], [], _, _, _ => rfl
 | [], y :: ys, vs, a, b => by have h1 := a.len; have h2 := b.len; simp at h1 h2; omega
 | x :: xs, [], vs, a, b => by have h1 := a.len; have h2 := b.len; simp at h1 h2; omega
 | x :: xs, y :: ys, vs, a, b => by
   obtain ⟨v, vs', rfl, a1, a2⟩ := a.uncons;obtain ⟨v', vs2, e, b1, b2⟩ := b.uncons;simp only [List.cons.injEq] at e;obtain ⟨rfl, rfl⟩ := e;rw [c.uniq _ _ H x y _ a1 b1, qO3 c xs ys _ a2 b2]
theorem map_inj {α : Type} (c : C1 α) : ∀ (xs ys : List α), xs.map c.f = ys.map c.f -> xs = ys
 | [], [], _ => rfl
 | [], y :: ys, h => by cases h
 | x :: xs, [], h => by cases h
 | x :: xs, y :: ys, h => by
   simp only [List.map_cons, List.cons.injEq] at h;rw [c.inj x y h.1, map_inj c xs ys h.2]
theorem qBQ {el n n' : Nat} {cs cs' : List FV} {Z' : Nat -> Prop} {v : Value} (a : FR Z H (.l el n cs) v) (b : FR Z' H (.l el n' cs') v) : n = n' ∧ ∃ vs vs', FRL Z H cs vs ∧ FRL Z' H cs' vs' ∧ (cs.length = cs'.length -> vs = vs') := by
 cases a with
 | nil h0 hs =>
   cases b with
   | nil => exact ⟨rfl, [], [], ⟨rfl, fun i x v h => by simp at h⟩, ⟨rfl, fun i x v h => by simp at h⟩, fun _ => rfl⟩
   | l hz hb hn hs' hl hc => exact ⟨rfl, [], _, ⟨rfl, fun i x v h => by simp at h⟩, ⟨(xS hl).symm, hc⟩, fun e => by
      have := xS hl;rw [<- e] at this
      exact (List.length_eq_zero_iff.1 this).symm⟩
 | l hz hb hn hs hl hc =>
   cases b with
   | nil => exact ⟨rfl, _, [], ⟨(xS hl).symm, hc⟩, ⟨rfl, fun i x v h => by simp at h⟩, fun e => by
      have := xS hl;rw [e] at this
      exact List.length_eq_zero_iff.1 this⟩
   | l hz' hb' hn' hs' hl' hc' => exact ⟨rfl, _, _, ⟨(xS hl).symm, hc⟩, ⟨(xS hl').symm, hc'⟩, fun e => by
      rw [e] at hl;rw [hl] at hl'
      exact Option.some.inj hl'⟩
def C1.list {α : Type} (el : TypeId) (c : C1 α) : C1 (List α) := ⟨fun xs => .l el xs.length (xs.map c.f), fun xs ys h => map_inj c xs ys (by injection h), fun Z Z' H xs ys v a b => by
 obtain ⟨h1, vs, vs', h2, h3, h4⟩ := qBQ a b;have := h4 (by simp [h1]);subst this
 exact qO3 c xs ys _ h2 h3⟩
def CN.one {α : Type} (c : C1 α) : CN α := ⟨fun x => [c.f x], 1, fun _ => rfl, fun x y h => c.inj x y (by injection h), fun Z Z' H x y vs a b => by
 obtain ⟨v, vs', rfl, a1, _⟩ := a.uncons;obtain ⟨v', vs2, e, b1, _⟩ := b.uncons;simp only [List.cons.injEq] at e;obtain ⟨rfl, rfl⟩ := e
 exact c.uniq _ _ H x y _ a1 b1⟩
def CN.pair {α β : Type} (a : CN α) (b : CN β) : CN (α × β) := ⟨fun x => a.f x.1 ++ b.f x.2, a.k + b.k, fun x => by simp [a.len, b.len], fun x y h => by
 have := List.append_inj h (by rw [a.len, a.len])
 exact Prod.ext (a.inj _ _ this.1) (b.inj _ _ this.2), fun Z Z' H x y vs h1 h2 => by
 obtain ⟨a1, a2⟩ := h1.split;obtain ⟨b1, b2⟩ := h2.split;rw [a.len] at a1 a2 b1 b2
 exact Prod.ext (a.uniq _ _ H _ _ _ a1 b1) (b.uniq _ _ H _ _ _ a2 b2)⟩
def PEn.one {α : Type} (c : C1 α) : PEn α := ⟨fun x => .f (c.f x), fun x y h => c.inj x y (by injection h), fun P Z Z' H x y v a b => by
 cases a with
 | f a => cases b with
   | f b => exact c.uniq _ _ H x y v a b⟩
theorem q2H : ∀ (l m : List FV), l.map PV.f = m.map PV.f -> l = m
 | [], [], _ => rfl
 | [], y :: m, h => by cases h
 | x :: l, [], h => by cases h
 | x :: l, y :: m, h => by
   simp only [List.map_cons, List.cons.injEq, PV.f.injEq] at h;rw [h.1, q2H l m h.2]
theorem qCN {xs : List FV} {vs : List Value} (h : VRL P Z H M (xs.map .f) vs) : FRL Z H xs vs := ⟨by simpa using h.len, fun i x v h1 h2 => by
 have := h.val i (.f x) v (by simp [h1]) h2
 cases this with
 | f h => exact h⟩
def PEn.agg {α : Type} (c : CN α) : PEn α := ⟨fun x => .agg ((c.f x).map .f), fun x y h => c.inj x y (q2H _ _ (by injection h)), fun P Z Z' H x y v a b => by
 obtain ⟨vs, rfl, h1⟩ := a.aggL;obtain ⟨vs', e, h2⟩ := b.aggL;cases e
 exact c.uniq _ _ H x y _ (qCN h1) (qCN h2)⟩
section
variable {ds : List (Option Tmp)} {o : Oper} {l : List Oper} {env : List PV} {ph : PHp}
noncomputable def qQ4 (P : Program) (tab : aV) (inl : FuncId -> Bool) (nm : Nm) (ds : List (Option Tmp)) (o : Oper) (l : List Oper) (env : List PV) (ph : PHp) : PE -> PT
 | .fail => .fail
 | .ok v ph' => q1M (needs o.op) (zH nm o.dst) nm env ph (pops P tab inl nm ds l (yR env o.dst v) ph')
 | .call g args ph' => .call (qTM nm g) g args ph' fun v ph2 => .chk (clean (qTM nm g).p env ph2) (pops P tab inl nm ds l (yR env o.dst v) ph2)
 | .rnd x args ph' => .rnd x args ph' fun v ph2 => pops P tab inl nm ds l (yR env o.dst v) ph2
noncomputable def pgo (P : Program) (tab : aV) (inl : FuncId -> Bool) (nm : Nm) (ds : List (Option Tmp)) (o : Oper) (l : List Oper) (env : List PV) (ph : PHp) (c : Option Bool) : PT :=
 kL c (qQ4 P tab inl nm ds o l env ph (bA P tab inl (zH nm o.dst) o env ph)) (pops P tab inl nm ds l (yR env o.dst (.tup [])) ph) .fail
theorem qUU : pops P tab inl nm ds (o :: l) env ph = pgo P tab inl nm ds o l env ph (eG ds o env) := by
 unfold pops pgo qQ4;cases bA P tab inl (zH nm o.dst) o env ph <;> rfl
theorem qW8 : pgo P tab inl nm ds o l env ph (some true) = qQ4 P tab inl nm ds o l env ph (bA P tab inl (zH nm o.dst) o env ph) := Eq.trans rfl rfl
theorem qRU : pgo P tab inl nm ds o l env ph (some false) = pops P tab inl nm ds l (yR env o.dst (.tup [])) ph := Eq.trans rfl rfl
theorem qNJ {v : PV} {ph' : PHp} : qQ4 P tab inl nm ds o l env ph (.ok v ph') = q1M (needs o.op) (zH nm o.dst) nm env ph (pops P tab inl nm ds l (yR env o.dst v) ph') := Eq.trans rfl rfl
theorem qP1 {g : FuncId} {args : List PV} {ph' : PHp} : qQ4 P tab inl nm ds o l env ph (.call g args ph') = .call (qTM nm g) g args ph' fun v ph2 => .chk (clean (qTM nm g).p env ph2) (pops P tab inl nm ds l (yR env o.dst v) ph2) := Eq.trans rfl rfl
theorem qSX {x : Nat} {args : List PV} {ph' : PHp} : qQ4 P tab inl nm ds o l env ph (.rnd x args ph') = .rnd x args ph' fun v ph2 => pops P tab inl nm ds l (yR env o.dst v) ph2 := Eq.trans rfl rfl
noncomputable def qOI (w : Bool) : Option PV -> Option Bool
 | some v => qOZ w v
 | none => none
theorem qLE {w : Bool} {t : Tmp} : qPH w env (some t) = qOI w (zM env t) := by
 show (match zM env t with | some v => qOZ w v | none => none) = qOI w (zM env t);cases zM env t <;> rfl
theorem qCC {w b : Bool} : qOI w (some (fvv (.bool b))) = some (b == w) := rfl
theorem qQT {w : Bool} : qOI w (some (.tup [])) = some false := rfl
theorem qCK (n : Nat) : Nat.beq n n = true := by simp
end
section
variable {t t2 : TypeId} {k : IntKind} {a b : Int} {ph : PHp}
theorem bG {op : BinOp} {v : Value} (h : mE op k a b = some v) (hv : ofC v = fvv v) : bE P op t t2 (fvv (.int k a)) (fvv (.int k b)) ph = some (fvv v) := by
 rw [<- hv];unfold bE;simp only [fvv, pl, q6B, cond_false];rw [aD h]; rfl
theorem q49 : bE P .lss t t2 (fvv (.int k a)) (fvv (.int k b)) ph = some (fvv (.bool (decide (a < b)))) := bG rfl rfl
theorem q5G : bE P .leq t t2 (fvv (.int k a)) (fvv (.int k b)) ph = some (fvv (.bool (decide (a <= b)))) := bG rfl rfl
theorem q5J : bE P .gtr t t2 (fvv (.int k a)) (fvv (.int k b)) ph = some (fvv (.bool (decide (b < a)))) := bG rfl rfl
theorem q5D : bE P .geq t t2 (fvv (.int k a)) (fvv (.int k b)) ph = some (fvv (.bool (decide (b <= a)))) := bG rfl rfl
theorem q4E : bE P .eql t t2 (fvv (.int k a)) (fvv (.int k b)) ph = some (fvv (.bool (a == b))) := bG rfl rfl
theorem q46 : bE P .neq t t2 (fvv (.int k a)) (fvv (.int k b)) ph = some (fvv (.bool (a != b))) := bG rfl rfl
theorem q5P : bE P .add t t2 (fvv (.int k a)) (fvv (.int k b)) ph = some (fvv (.int k (k.wrap (a + b)))) := bG rfl rfl
theorem q52 : bE P .sub t t2 (fvv (.int k a)) (fvv (.int k b)) ph = some (fvv (.int k (k.wrap (a - b)))) := bG rfl rfl
theorem q4W : bE P .mul t t2 (fvv (.int k a)) (fvv (.int k b)) ph = some (fvv (.int k (k.wrap (a * b)))) := bG rfl rfl
def q6I (k : IntKind) (a b : Int) : Option Int := if b = 0 then none else some (k.wrap (a.tdiv b))
def q6U (a b : Int) : Option Int := if b = 0 then none else some (a.tmod b)
theorem q4L {c : Int} (h : q6I k a b = some c) : bE P .quo t t2 (fvv (.int k a)) (fvv (.int k b)) ph = some (fvv (.int k c)) := by
 unfold q6I at h;split at h
 ·cases h
 ·rename_i hb;cases h;exact bG (v := .int k (k.wrap (a.tdiv b))) (by unfold mE; simp only [if_neg hb]) rfl
theorem q4F {c : Int} (h : q6U a b = some c) : bE P .rem t t2 (fvv (.int k a)) (fvv (.int k b)) ph = some (fvv (.int k c)) := by
 unfold q6U at h;split at h
 ·cases h
 ·rename_i hb;cases h;exact bG (v := .int k (a.tmod b)) (by unfold mE; simp only [if_neg hb]) rfl
theorem q4B {x : Bool} : aZ P (fun a => .unOp .not t a) (fvv (.bool x)) = some (fvv (.bool !x)) := rfl
end
end Go.Idl
namespace Go.Idl
variable [Gc]
variable {P : Program} {G : Nat -> Bool} {nat : yU} {tab : aV} {nm : Nm}
def dl1 : PV -> List Nat
 | .own k _ _ _ => [k]
 | .ref k _ _ => [k]
 | .mp k => [k]
 | _ => []
noncomputable def dlO (o : Oper) (env : List PV) : List Nat := o.op.operands.toList.flatMap fun x => dl1 (qL env x)
theorem qB4 {o : Oper} {env : List PV} {x : Operand} {k : Nat} (hx : x ∈ o.op.operands) (hk : k ∈ dl1 (qL env x)) : k ∈ dlO o env := List.mem_flatMap.2 ⟨x, Array.mem_def.1 hx, hk⟩
theorem qA4 {env env' : List PV} {ps : List (Nat × Operand)} (h : ∀ x ∈ ps.map (·.2), qL env x = qL env' x) : (ps.map fun p => (p.1, qL env p.2)) = ps.map fun p => (p.1, qL env' p.2) :=
 List.map_congr_left fun p hp => by rw [h p.2 (List.mem_map.2 ⟨p, hp, rfl⟩)]
theorem qQN (P : Program) {env env' : List PV} {x : Operand} (h : qL env x = qL env' x) (ha : (pl (qL env x)).isSome = true) : (qRC env).val x = (qRC env').val x := by
 obtain ⟨a, ha⟩ := Option.isSome_iff_exists.1 ha;rw [cZ P ha, cZ P (h ▸ ha)]
theorem qJ4 {b : Builtin} {args : Array Operand} {ts : Array TypeId} {env env' : List PV} {ty : TypeId} {ph : PHp} (h : ∀ x ∈ args, qL env x = qL env' x) :
 vS P b ⟨.builtin b, args, ts⟩ (args.toList.map (qL env)) env ty ph = vS P b ⟨.builtin b, args, ts⟩ (args.toList.map (qL env')) env' ty ph := by
 have e : args.toList.map (qL env) = args.toList.map (qL env') := List.map_congr_left fun x hx => h x (Array.mem_def.2 hx)
 unfold vS;rw [<- e]
 cases hp : plL (args.toList.map (qL env)) with
 | none => rfl
 | some vs =>
   simp only
   have : xW P (cop (.call ⟨.builtin b, args, ts⟩) ty) (qRC env) H00 = xW P (cop (.call ⟨.builtin b, args, ts⟩) ty) (qRC env') H00 := by
    refine rV (fun cs b h => by cases h) fun x hx => ?_
    have hx' : x ∈ args := by simpa [Op.operands, Call.operands, cop] using hx
    obtain ⟨a, ha⟩ := qGI hp (qL env x) (List.mem_map.2 ⟨x, by simpa using hx', rfl⟩);exact qQN P (h x hx') (by rw [ha]; rfl)
   rw [this]
theorem qQC {o : Oper} {env env' : List PV} {k : Nat} {ph : PHp} (h : ∀ x ∈ o.op.operands, qL env x = qL env' x) : qHK P o env k ph = qHK P o env' k ph := by
 obtain ⟨d, op, ty, pos, aft, g⟩ := o;cases op <;> simp only [Op.operands] at h <;> simp only [qHK]
 case move x => rw [h x (by simp)]
 case assign x => rw [h x (by simp)]
 case pick c a b => rw [h c (by simp), h a (by simp), h b (by simp)]
 case box el x => rw [h x (by simp)]
 case build t ps => rw [qA4 fun x hx => h x (by simpa using hx)]
 case buildSlice t n ps => rw [qA4 fun x hx => h x (by simpa using hx)]
 case load t a => rw [h a (by simp)]
 case store t a x => rw [h a (by simp), h x (by simp)]
 case nilCheck x => rw [h x (by simp)]
 case binOp op t x y t2 => rw [h x (by simp), h y (by simp)]
 case unOp op t x => rw [h x (by simp)]
 case convert s t x => rw [h x (by simp)]
 case makeFunc fn first cap =>
  rw [List.map_congr_left (l := first.toList) fun x hx => h x (Array.mem_append.2 (.inl (Array.mem_def.2 hx))), List.map_congr_left (l := cap.toList) fun x hx => h x (Array.mem_append.2 (.inr (Array.mem_def.2 hx)))]
 case makeSlice t l c => rw [h l (by simp), h c (by simp)]
 case slice t x lo hi mx =>
  cases mx with
  | some m => rfl
  | none =>
    have e1 : lo.map (qL env) = lo.map (qL env') := by cases lo <;> simp_all
    have e2 : hi.map (qL env) = hi.map (qL env') := by cases hi <;> simp_all
    have e3 : (lo.toList ++ hi.toList).map (qL env) = (lo.toList ++ hi.toList).map (qL env') := by cases lo <;> cases hi <;> simp_all
    have e4 : lo.map (fun a => Operand.const ((pl (qL env a)).getD undef)) = lo.map fun a => Operand.const ((pl (qL env' a)).getD undef) := by cases lo <;> simp_all
    have e5 : hi.map (fun a => Operand.const ((pl (qL env a)).getD undef)) = hi.map fun a => Operand.const ((pl (qL env' a)).getD undef) := by cases hi <;> simp_all
    simp only [h x (by simp), e1, e2, e3, e4, e5]
 case fieldAddr t x i => rw [h x (by simp)]
 case field t x i => rw [h x (by simp)]
 case indexAddr t x ix => rw [h x (by simp), h ix (by simp)]
 case index t x ix => rw [h x (by simp), h ix (by simp)]
 case extract t i => rw [h t (by simp)]
 case makeMap t r => cases r <;> rfl
 case lookup t x kx ok => rw [h x (by simp), h kx (by simp)]
 case mapUpdate t m kx x => rw [h m (by simp), h kx (by simp), h x (by simp)]
 case insert t m kx x => rw [h m (by simp), h kx (by simp), h x (by simp)]
 case mapEntry t m kx => rw [h m (by simp), h kx (by simp)]
 case entryStore t m st x => rw [h m (by simp), h st (by simp), h x (by simp)]
 case range t x => rw [h x (by simp)]
 case next it b =>
  cases b with
  | false => rfl
  | true => simp only [h it (by simp)]
 case call c =>
  obtain ⟨cal, args, ts⟩ := c;simp only [Call.operands] at h;have ha : ∀ x ∈ args, qL env x = qL env' x := fun x hx => h x (by cases cal <;> simp [hx])
  have e : args.toList.map (qL env) = args.toList.map (qL env') := List.map_congr_left fun x hx => ha x (Array.mem_def.2 hx)
  cases cal with
  | builtin b =>
    have hD := qJ4 (P := P) (b := b) (ts := ts) (ty := ty) (ph := ph) ha;simp only [uY]
    cases b <;> simp only [e] at hD ⊢ <;> first | rfl | exact hD | skip
    rw [<- e] at hD;rw [<- e]
    cases hl : args.toList.map (qL env) with
    | nil => rfl
    | cons x l =>
      cases l with
      | nil =>
        simp only;rw [hl] at hD;rw [hD]
      | cons => rfl
  | invoke r n => rfl
  | value f => rfl
theorem vX {l k : Nat} {ob : PO} {ph : PHp} (h : l ≠ k) : qC l ((k, ob) :: ph) = qC l ph := by
 have : (l == k) = false := by simpa using h
 show cond (l == k) (some ob) (qC l ph) = _;rw [this]; rfl
theorem qCA {k : Nat} {ob : PO} {v y : PV} {ph ph' : PHp} (h : qJ6 k ob v ph = some (y, ph')) {l : Nat} (hl : l ≠ k) : qC l ph' = qC l ph := by
 obtain ⟨_, rfl⟩ := uT h;exact vX hl
theorem qMF {m : PV} {ph : PHp} {k : Nat} {r : PO × Nat × List MapEntry} (h : pO P m ph = some (k, r)) : m = .mp k := by
 unfold pO at h;split at h
 ·split at h
  ·rename_i ob _
   cases hc : (spec P ob.el && Nat.beq ob.el 1000000001) with
   | false => rw [hc] at h; cases h
   | true =>
     rw [hc] at h;simp only [cond_true] at h;split at h
     ·cases h; rfl
     ·cases h
  ·cases h
 ·cases h
theorem qD0 {k l : Nat} {ob : PO} {ph : PHp} (h : l ≠ k) : qC l (vO k ob ph) = qC l ph := by rw [zW, if_neg (fun e => h e.1)]
theorem sI {t : TypeId} {m kx x : PV} {ph ph' : PHp} (h : kP P t m kx x ph = some ph') {l : Nat} (hl : l ∉ dl1 m) : qC l ph' = qC l ph := by
 unfold kP at h;split at h
 case h_2 => cases h
 rename_i kt et k ob c es kv xv hu hm hkv hxv;have e := qMF hm;subst e;have hne : l ≠ k := fun e => hl (by rw [e]; simp [dl1])
 cases hc : qR xv with
 | false => rw [hc] at h; cases h
 | true =>
   rw [hc] at h;simp only [cond_true] at h;split at h
   ·split at h
    ·rename_i e _
     cases hs : Instr.sameBits 10000 e.key kv with
     | false => rw [hs] at h; cases h
     | true => rw [hs] at h; cases h; exact qD0 hne
    ·cases h
   ·cases h; exact qD0 hne
   ·cases h
theorem qL6 {t : TypeId} {m kx y : PV} {ph ph' : PHp} (h : wX P t m kx ph = some (y, ph')) {l : Nat} (hl : l ∉ dl1 m) : qC l ph' = qC l ph := by
 unfold wX at h;split at h
 case h_2 => cases h
 rename_i kt et k ob c es kv hu hm hkv;have e := qMF hm;subst e;have hne : l ≠ k := fun e => hl (by rw [e]; simp [dl1])
 split at h
 ·split at h
  ·rename_i e _
   cases hs : Instr.sameBits 10000 e.key kv with
   | false => rw [hs] at h; cases h
   | true => rw [hs] at h; cases h; exact qD0 hne
  ·cases h
 ·split at h
  ·rename_i z _
   cases hs : zO z with
   | false => rw [hs] at h; cases h
   | true => rw [hs] at h; cases h; exact qD0 hne
  ·cases h
 ·cases h
theorem qFQ {m st x : PV} {ph ph' : PHp} (h : xX P m st x ph = some ph') {l : Nat} (hl : l ∉ dl1 m) : qC l ph' = qC l ph := by
 unfold xX at h;split at h
 case h_2 => cases h
 rename_i k ob c es ki born xv hm hst hxv;have e := qMF hm;subst e;have hne : l ≠ k := fun e => hl (by rw [e]; simp [dl1])
 cases hc : qR xv with
 | false => rw [hc] at h; cases h
 | true =>
   rw [hc] at h;simp only [cond_true] at h;split at h
   ·cases h; exact qD0 hne
   ·cases h
theorem q3D {x y : PV} {ph ph' : PHp} (h : qIG P x ph = some (y, ph')) {l : Nat} (hl : l ∉ dl1 x) : qC l ph' = qC l ph := by
 unfold qIG at h;split at h
 case h_2 => cases h
 rename_i k tt off;have hne : l ≠ k := fun e => hl (by rw [e]; simp [dl1])
 split at h
 case h_2 => cases h
 rename_i ob _
 cases hc : (spec P ob.el && (Nat.beq ob.el 1000000000 && (Nat.beq tt 2 && Nat.beq off 0))) with
 | false => rw [hc] at h; cases h
 | true =>
   rw [hc] at h;simp only [cond_true] at h;split at h
   case h_2 => cases h
   rename_i s pos _
   cases hs : decide (pos.toNat < s.size) with
   | false => rw [hs] at h; cases h; rfl
   | true => rw [hs] at h; cases h; exact qD0 hne
theorem q45 {o : Oper} {env : List PV} {k : Nat} {ph ph' : PHp} {v : PV} (h : qHK P o env k ph = some (v, ph')) {l : Nat} (hk : l ≠ k) (hd : l ∉ dlO o env) : qC l ph' = qC l ph := by
 obtain ⟨d, op, ty, pos, aft, g⟩ := o;have one : ∀ {r : Option PV}, pp1 ph r = some (v, ph') -> qC l ph' = qC l ph := fun h => by rw [(zP h).2]
 have nin : ∀ x ∈ op.operands, l ∉ dl1 (qL env x) := fun x hx hl => hd (qB4 (o := ⟨d, op, ty, pos, aft, g⟩) hx hl)
 cases op <;> simp only [qHK] at h <;> (try (cases h; done)) <;> (try (exact one h))
 case move => cases h; rfl
 case assign => cases h; rfl
 case pick => split at h <;> cases h; rfl
 case alloc el =>
  unfold qDY at h;split at h
  ·exact qCA (gZ h).2 hk
  ·cases h
 case box el x =>
  unfold q3N at h
  cases hc : (!(spec P el) && (pnt (qL env x) && (zK (qL env x)).all nH)) with
  | true => rw [hc] at h; exact qCA h hk
  | false => rw [hc] at h; cases h
 case buildSlice t n ps =>
  unfold jQ at h;split at h
  ·split at h
   ·rename_i s z _ _
    cases hc : (Nat.beq z.length (s + 1) && Nat.ble (n * (s + 1)) 65536) with
    | true =>
      rw [hc] at h;simp only [cond_true] at h;split at h
      ·exact qCA h hk
      ·cases h
    | false => rw [hc] at h; cases h
   ·cases h
  ·cases h
 case store t a x =>
  unfold ppS at h;split at h
  ·rename_i ph1 hs;cases h;unfold nR at hs;split at hs
   ·rename_i k' tt off ha;have hne : l ≠ k' := fun e => nin a (by simp [Op.operands]) (by rw [ha, e]; simp [dl1])
    split at hs
    ·split at hs
     ·rename_i ob _ _ n _
      replace hs := (gZ hs).2
      cases hc : (Nat.beq tt ob.cs.length && (Nat.beq n (zK (qL env x)).length && (Nat.ble (off + n) ob.cs.length && (pnt (qL env x) && (zK (qL env x)).all nH)))) with
      | true => rw [hc] at hs; cases hs; rw [zW, if_neg (fun h => hne h.1)]
      | false => rw [hc] at hs; cases hs
     ·cases hs
    ·cases hs
   ·cases hs
  ·cases h
 case convert s t x =>
  cases hc : qQ7 (qL env x) with
  | true => rw [hc] at h; cases h
  | false => rw [hc] at h; exact one h
 case makeSlice t a b =>
  unfold wB at h;split at h
  ·rename_i el k1 n1 k2 m1 _ _ _
   cases hc : decide (n1 = m1) with
   | false => rw [hc] at h; cases h
   | true =>
     rw [hc] at h;simp only [cond_true] at h;split at h
     ·rename_i n s z _ _ _
      cases hc : (uU P el && Nat.beq z.length (s + 1)) with
      | true => rw [hc] at h; exact qCA h hk
      | false => rw [hc] at h; cases h
     ·cases h
  ·cases h
 case slice t x lo hi mx =>
  cases mx with
  | some => cases h
  | none =>
    simp only at h;split at h
    ·split at h
     ·exact one h
     ·cases h
    ·exact one h
 case index => split at h <;> exact one h
 case makeMap t r =>
  cases r with
  | some _ => cases h
  | none =>
    unfold dY at h
    cases hc : spec P 1000000001 with
    | false => rw [hc] at h; cases h
    | true => rw [hc] at h; exact qCA h hk
 case mapUpdate t m kx x =>
  unfold ppS at h;split at h
  ·rename_i ph1 hs;cases h;exact sI hs (nin m (by simp [Op.operands]))
  ·cases h
 case insert t m kx x =>
  unfold ppS at h;split at h
  ·rename_i ph1 hs;cases h;exact sI hs (nin m (by simp [Op.operands]))
  ·cases h
 case mapEntry t m kx => exact qL6 h (nin m (by simp [Op.operands]))
 case entryStore t m st x =>
  unfold ppS at h;split at h
  ·rename_i ph1 hs;cases h;exact qFQ hs (nin m (by simp [Op.operands]))
  ·cases h
 case range t x =>
  unfold qED at h;split at h
  ·rename_i s _ _
   cases hc : spec P 1000000000 with
   | false => rw [hc] at h; cases h
   | true => rw [hc] at h; exact qCA h hk
  ·cases h
 case next it b =>
  cases b with
  | false => cases h
  | true => exact q3D h (nin it (by simp [Op.operands]))
 case call c =>
  obtain ⟨cal, args, ts⟩ := c;split at h
  ·rename_i b hb;simp only at hb;subst hb
   have dry : vS P b ⟨.builtin b, args, ts⟩ (args.toList.map (qL env)) env ty ph = some (v, ph') -> qC l ph' = qC l ph := fun h => by
    unfold vS at h;split at h
    ·exact one h
    ·cases h
   have mem : ∀ x, x ∈ args.toList.map (qL env) -> l ∉ dl1 x := fun x hx => by
    obtain ⟨a, ha, rfl⟩ := List.mem_map.1 hx;exact nin a (by simpa [Op.operands, Call.operands] using ha)
   unfold uY at h;split at h
   ·split at h
    ·rename_i x y hxy;have hx : l ∉ dl1 x := mem x (by rw [hxy]; simp);unfold fV at h
     have grow : ∀ {el s : Nat} {old : List PV} {n : Nat} {new : List PV} {mm kk : Nat} {php : PHp}, qCY P el s old n new mm kk php = some (v, ph') -> l ≠ kk -> qC l ph' = qC l php := fun hg hkk => by
      unfold qCY at hg;rename_i el s old n new mm kk php
      cases hc : (Nat.ble (n + mm) 1048576 && (uU P el && (Nat.beq (old.length) (n * s) && (Nat.beq new.length (mm * s) && new.all nH)))) with
      | true => rw [hc] at hg; exact qCA hg hkk
      | false => rw [hc] at hg; cases hg
     split at h
     ·split at h
      ·split at h
       ·split at h
        ·rename_i el _ _ _ _ s _ _ mm new _;split at h
         ·cases h0 : Nat.beq mm 0 with
          | true => rw [h0] at h; cases h; rfl
          | false => rw [h0] at h; exact grow h hk
         ·rename_i j tt o n;have hj : l ≠ j := fun e => hx (by rw [e]; simp [dl1])
          split at h
          ·rename_i ob hl
           cases hc : (Nat.beq ob.el el && (Nat.beq (tt * (s + 1)) ob.cs.length && Nat.beq o 0)) with
           | false => rw [hc] at h; cases h
           | true =>
             rw [hc] at h;simp only [cond_true] at h
             cases h0 : Nat.beq mm 0 with
             | true => rw [h0] at h; cases h; rfl
             | false =>
               rw [h0] at h;simp only [cond_false] at h
               cases hr : Nat.ble (n + mm) tt with
               | true =>
                 rw [hr] at h;simp only [cond_true] at h
                 cases hc2 : (Nat.beq new.length (mm * (s + 1)) && new.all nH) with
                 | true => rw [hc2] at h; cases h; rw [zW, if_neg (fun h => hj h.1)]
                 | false => rw [hc2] at h; cases h
               | false =>
                 rw [hr] at h;simp only [cond_false] at h
                 cases hn : Nat.beq n tt with
                 | false => rw [hn] at h; cases h
                 | true =>
                   rw [hn] at h;simp only [cond_true] at h
                   cases hg : ob.gr with
                   | true => rw [hg] at h; rw [grow h hj, wN, if_neg hj]
                   | false => rw [hg] at h; exact grow h hk
          ·cases h
         ·cases h
        ·cases h
       ·cases h
      ·cases h
     ·cases h
    ·cases h
   ·split at h
    ·rename_i x y hxy;have hx : l ∉ dl1 x := mem x (by rw [hxy]; simp);unfold qF7 at h;split at h
     ·split at h
      ·split at h
       ·split at h
        ·rename_i el _ _ _ _ s _ _ mm new _;split at h
         ·rename_i j tt o n;have hj : l ≠ j := fun e => hx (by rw [e]; simp [dl1])
          split at h
          ·rename_i ob hl
           cases hc : (Nat.beq ob.el el && (Nat.beq (tt * (s + 1)) ob.cs.length && (Nat.beq new.length (mm * (s + 1)) && new.all nH))) with
           | false => rw [hc] at h; cases h
           | true => rw [hc] at h; cases h; rw [zW, if_neg (fun h => hj h.1)]
          ·cases h
         ·cases h; rfl
         ·cases h; rfl
         ·cases h
        ·cases h
       ·cases h
      ·cases h
     ·cases h
    ·cases h
   ·split at h
    ·cases hc : qWQ P ts with
     | true => rw [hc] at h; exact dry h
     | false => rw [hc] at h; exact one h
    ·cases h
   ·exact dry h
   ·exact dry h
   ·cases h
  ·cases h
theorem q2T {t : TypeId} {a x : PV} {ph ph' : PHp} (h : oQ P t a ph = some x) (hd : ∀ l ∈ dl1 a, qC l ph' = qC l ph) : oQ P t a ph' = some x := by
 cases a <;> first | exact h | skip
 rename_i k tt off;have := hd k (by simp [dl1]);unfold oQ at h ⊢;simp only [this];exact h
theorem qVL {k tt : Nat} {ph ph' : PHp} (h : qC k ph' = qC k ph) : live? k tt ph' = live? k tt ph := by unfold live?; rw [h]
theorem qM6 {a x : PV} {ph ph' : PHp} (h : yH a ph = some x) (hd : ∀ l ∈ dl1 a, qC l ph' = qC l ph) : yH a ph' = some x := by
 unfold yH at h ⊢;split at h
 ·rename_i k tt off;rw [qVL (tt := tt) (hd k (by simp [dl1]))]; exact h
 ·exact h
 ·exact h
 ·exact h
 ·cases h
theorem qX1 {t : TypeId} {a x : PV} {lo hi : Option PV} {ph ph' : PHp} (h : uK P t a lo hi ph = some x) (hd : ∀ l ∈ dl1 a, qC l ph' = qC l ph) : uK P t a lo hi ph' = some x := by
 unfold uK at h ⊢;split at h
 ·exact h
 ·exact h
 ·rename_i k tt o n;rw [hd k (by simp [dl1])]; exact h
 ·rename_i k tt;rw [hd k (by simp [dl1])]; exact h
 ·cases h
theorem qJT {t : TypeId} {a x : PV} {i : Nat} {ph ph' : PHp} (h : zS P t a i ph = some x) (hd : ∀ l ∈ dl1 a, qC l ph' = qC l ph) : zS P t a i ph' = some x := by
 cases a <;> first | exact h | skip
 rename_i k tt off;have := qVL (tt := tt) (hd k (by simp [dl1]));unfold zS at h ⊢;simp only [this];exact h
theorem qJ0 {t : TypeId} {a ix x : PV} {ph ph' : PHp} (h : qW P t a ix ph = some x) (hd : ∀ l ∈ dl1 a, qC l ph' = qC l ph) : qW P t a ix ph' = some x := by
 unfold qW at h ⊢;split at h
 ·split at h
  ·exact h
  ·rename_i k tt o n;rw [hd k (by simp [dl1])]; exact h
  ·rename_i k tt off;rw [qVL (tt := tt) (hd k (by simp [dl1]))]; exact h
  ·exact h
  ·cases h
 ·cases h
theorem q36 {ts : Array TypeId} {a x : PV} {ph ph' : PHp} (h : qYC P ts a ph = some x) (hd : ∀ l ∈ dl1 a, qC l ph' = qC l ph) : qYC P ts a ph' = some x := by
 unfold qYC at h ⊢;split at h
 ·split at h
  ·split at h
   ·exact h
   ·exact h
   ·rename_i k tt o n;rw [hd k (by simp [dl1])]; exact h
   ·cases h
  ·exact h
 ·cases h
theorem q1B {ts : Array TypeId} {a x : PV} {ph ph' : PHp} (h : qC7 P ts a ph = some x) (hd : ∀ l ∈ dl1 a, qC l ph' = qC l ph) : qC7 P ts a ph' = some x := by
 have e : sN P a ph' = sN P a ph := by
  cases a <;> first | rfl | skip
  rename_i k;unfold sN;simp only [hd k (by simp [dl1])]
 unfold qC7 at h ⊢;rw [e];split at h
 ·exact h
 ·exact q36 h hd
theorem qSL {t : TypeId} {m kx x : PV} {ok : Bool} {ph ph' : PHp} (h : gI P t m kx ok ph = some x) (hd : ∀ l ∈ dl1 m, qC l ph' = qC l ph) : gI P t m kx ok ph' = some x := by
 have e : pO P m ph' = pO P m ph := by
  cases m <;> first | rfl | skip
  rename_i k;unfold pO;simp only [hd k (by simp [dl1])]
 unfold gI at h ⊢;rw [e]; exact h
theorem q2X {a : PV} {b : Bool} {ph ph' : PHp} (h : isNil (P := P) a ph = some b) (hd : ∀ l ∈ dl1 a, qC l ph' = qC l ph) : isNil (P := P) a ph' = some b := by
 unfold isNil at h ⊢;split at h
 ·exact h
 ·exact h
 ·rename_i k tt o n;rw [hd k (by simp [dl1])]; exact h
 ·cases h
theorem q0R {t : TypeId} {a b : PV} {r : Bool} {ph ph' : PHp} (h : qWT P t a b ph = some r) (hd : ∀ l ∈ dl1 a, qC l ph' = qC l ph) : qWT P t a b ph' = some r := by
 unfold qWT at h ⊢;split at h
 ·cases hc : (yS P t).isSome with
  | true => rw [hc] at h; exact q2X h hd
  | false => rw [hc] at h; cases h
 ·exact h
 ·cases h
theorem q42 {op : BinOp} {t t2 : TypeId} {a b x : PV} {ph ph' : PHp} (h : bE P op t t2 a b ph = some x) (hd : ∀ l ∈ dl1 a, qC l ph' = qC l ph) : bE P op t t2 a b ph' = some x := by
 unfold bE at h ⊢;split at h
 ·exact h
 ·split at h
  ·obtain ⟨r, h1, rfl⟩ := Option.map_eq_some_iff.1 h;rw [q0R h1 hd]; rfl
  ·obtain ⟨r, h1, rfl⟩ := Option.map_eq_some_iff.1 h;rw [q0R h1 hd]; rfl
  ·cases h
theorem q50 {o : Oper} {env : List PV} {k : Nat} {ph ph1 : PHp} {v : PV} (hf : yG o = false) (ha : qG o = false) (h : qHK P o env k ph = some (v, ph1)) :
 ph1 = ph ∧ ∀ (k' : Nat) (ph' : PHp), (∀ l ∈ dlO o env, qC l ph' = qC l ph) -> qHK P o env k' ph' = some (v, ph') := by
 obtain ⟨d, op, ty, pos, aft, g⟩ := o;have mem : ∀ {x : Operand} {ph' : PHp}, x ∈ op.operands -> (∀ l ∈ dlO ⟨d, op, ty, pos, aft, g⟩ env, qC l ph' = qC l ph) -> ∀ l ∈ dl1 (qL env x), qC l ph' = qC l ph := fun hx hd l hl => hd l (qB4 (o := ⟨d, op, ty, pos, aft, g⟩) hx hl)
 have one : ∀ {f : PHp -> Option PV}, pp1 ph (f ph) = some (v, ph1) -> (∀ {x ph'}, (∀ l ∈ dlO ⟨d, op, ty, pos, aft, g⟩ env, qC l ph' = qC l ph) -> f ph = some x -> f ph' = some x) -> ph1 = ph ∧ ∀ (k' : Nat) (ph' : PHp), (∀ l ∈ dlO ⟨d, op, ty, pos, aft, g⟩ env, qC l ph' = qC l ph) -> pp1 ph' (f ph') = some (v, ph') := fun h hk => by
  obtain ⟨h1, h2⟩ := zP h;exact ⟨h2, fun k' ph' hd => by rw [hk hd h1]; rfl⟩
 have hne : yA ⟨d, op, ty, pos, aft, g⟩ = .pure ∨ yA ⟨d, op, ty, pos, aft, g⟩ = .read := qG6 hf ha
 cases op <;> simp only [qHK] at h ⊢ <;> (try (cases h; done))
 case move => cases h; exact ⟨rfl, fun _ _ _ => rfl⟩
 case assign => cases h; exact ⟨rfl, fun _ _ _ => rfl⟩
 case pick c a b =>
  split at h
  ·rename_i t ht;cases h;refine ⟨rfl, fun _ _ _ => ?_⟩;simp only [ht]
  ·cases h
 case alloc => simp only [yA] at hne; split at hne <;> (rcases hne with h | h <;> cases h)
 case box => rcases hne with h | h <;> cases h
 case buildSlice => rcases hne with h | h <;> cases h
 case store => rcases hne with h | h <;> cases h
 case makeSlice => rcases hne with h | h <;> cases h
 case build t ps =>
  obtain ⟨h1, h2⟩ := zP h;exact ⟨h2, fun k' ph' hd => by rw [h1]; rfl⟩
 case load t a => exact one (f := fun q => oQ P t (qL env a) q) h fun hd h => q2T h (mem (by simp [Op.operands]) hd)
 case nilCheck x => exact one (f := fun q => yH (qL env x) q) h fun hd h => qM6 h (mem (by simp [Op.operands]) hd)
 case binOp op t x y t2 => exact one (f := fun q => bE P op t t2 (qL env x) (qL env y) q) h fun hd h => q42 h (mem (by simp [Op.operands]) hd)
 case unOp op t x => exact one (f := fun _ => aZ P (fun a => .unOp op t a) (qL env x)) h fun _ h => h
 case convert s t x =>
  cases hc : qQ7 (qL env x) with
  | true => rw [hc] at h; cases h
  | false =>
    rw [hc] at h;simp only [cond_false] at h ⊢;exact one (f := fun _ => aZ P (fun a => .convert s t a) (qL env x)) h fun _ h => h
 case makeFunc fn a b => exact one (f := fun _ => vB fn (a.toList.map (qL env)) (b.toList.map (qL env))) h fun _ h => h
 case slice t x lo hi mx =>
  cases mx with
  | some => cases h
  | none =>
    simp only at h ⊢;split at h
    ·rename_i s hs;split at h
     ·rename_i vs hvs;exact one (f := fun _ => qLB P (.slice t (.const (.string s)) (lo.map fun a => .const ((pl (qL env a)).getD undef)) (hi.map fun a => .const ((pl (qL env a)).getD undef)) none)) h fun _ h => h
     ·cases h
    ·exact one (f := fun q => uK P t (qL env x) (lo.map (qL env)) (hi.map (qL env)) q) h fun hd h => qX1 h (mem (by cases lo <;> cases hi <;> simp [Op.operands]) hd)
 case fieldAddr t x i => exact one (f := fun q => zS P t (qL env x) i q) h fun hd h => qJT h (mem (by simp [Op.operands]) hd)
 case field t x i => exact one (f := fun _ => qDP P t (qL env x) i) h fun _ h => h
 case indexAddr t x ix => exact one (f := fun q => qW P t (qL env x) (qL env ix) q) h fun hd h => qJ0 h (mem (by simp [Op.operands]) hd)
 case index t x ix =>
  split at h
  ·rename_i s j hs hj;exact one (f := fun _ => qLB P (.index t (.const (.string s)) (.const j))) h fun _ h => h
  ·exact one (f := fun _ => qD6 P t (qL env x) (qL env ix)) h fun _ h => h
 case extract t i => exact one (f := fun _ => dS (qL env t) i) h fun _ h => h
 case makeMap => rcases hne with h | h <;> cases h
 case lookup t x kx ok => exact one (f := fun q => gI P t (qL env x) (qL env kx) ok q) h fun hd h => qSL h (mem (by simp [Op.operands]) hd)
 case mapUpdate => rcases hne with h | h <;> cases h
 case insert => rcases hne with h | h <;> cases h
 case mapEntry => rcases hne with h | h <;> cases h
 case entryStore => rcases hne with h | h <;> cases h
 case range => rcases hne with h | h <;> cases h
 case next => rcases hne with h | h <;> cases h
 case call c =>
  obtain ⟨cal, args, ts⟩ := c;split at h
  ·rename_i b hb;simp only at hb;subst hb
   have dry : ∀ {b : Builtin}, vS P b ⟨.builtin b, args, ts⟩ (args.toList.map (qL env)) env ty ph = some (v, ph1) -> ph1 = ph ∧ ∀ ph', vS P b ⟨.builtin b, args, ts⟩ (args.toList.map (qL env)) env ty ph' = some (v, ph') := fun h => by
    unfold vS at h ⊢;split at h
    ·obtain ⟨h1, h2⟩ := zP h;exact ⟨h2, fun ph' => by rw [h1]; rfl⟩
    ·cases h
   unfold uY at h;split at h
   ·rcases hne with h | h <;> cases h
   ·rcases hne with h | h <;> cases h
   ·split at h
    ·rename_i x hx
     obtain ⟨a1, ha1, rfl⟩ : ∃ a1, args = #[a1] ∧ x = qL env a1 := by
      cases hq : args.toList with
      | nil => rw [hq] at hx; cases hx
      | cons a l =>
        rw [hq] at hx
        cases l with
        | nil =>
          simp only [List.map_cons, List.map_nil, List.cons.injEq, and_true] at hx
          exact ⟨a, by have e9 : args = args.toList.toArray := by simp
                       rw [e9, hq], hx.symm⟩
        | cons => cases hx
     subst ha1
     cases hc : qWQ P ts with
     | true =>
       rw [hc] at h;obtain ⟨h1, h2⟩ := dry h;refine ⟨h1, fun k' ph' hd => ?_⟩;unfold uY;simp only [List.map_cons, List.map_nil, hc, cond_true];exact h2 ph'
     | false =>
       rw [hc] at h;obtain ⟨h1, h2⟩ := zP h;refine ⟨h2, fun k' ph' hd => ?_⟩;unfold uY;simp only [List.map_cons, List.map_nil, hc, cond_false];rw [q1B h1 (mem (by simp [Op.operands, Call.operands]) hd)]; rfl
    ·cases h
   ·obtain ⟨h1, h2⟩ := dry h;exact ⟨h1, fun k' ph' hd => h2 ph'⟩
   ·obtain ⟨h1, h2⟩ := dry h;exact ⟨h1, fun k' ph' hd => h2 ph'⟩
   ·cases h
  ·cases h
end Go.Idl
