/- Ranges over maps on values without a heap. Conditions: none. -/
import Derived.Test.YtjgfemghlhmlbaaGreatDoorPur19
set_option linter.all false
namespace Go.Idl
variable [Gc]
variable {i id j k last mb n since : Nat} {l seen vis : List Nat} {x : Code}
noncomputable def aT {α R : Type} (p : α -> Prop) (F : α -> Option R) : Option R := open Classical in if h : ∃ r, (∃ a, p a) ∧ ∀ a, p a -> F a = some r then some (Classical.choose h) else none
theorem nZ {α R : Type} {p : α -> Prop} {F : α -> Option R} {r : R} (h : aT p F = some r) : ∀ a, p a -> F a = some r := by
 unfold aT at h;split at h
 ·rename_i hh;cases h;exact (Classical.choose_spec hh).2
 ·cases h
theorem bY {α R : Type} {p : α -> Prop} {F : α -> Option R} {r : R} (h0 : ∃ a, p a) (h : ∀ a, p a -> F a = some r) : aT p F = some r := by
 have hh : ∃ r, (∃ a, p a) ∧ ∀ a, p a -> F a = some r := ⟨r, h0, h⟩
 unfold aT;rw [dif_pos hh];obtain ⟨a, ha⟩ := h0;rw [<- h a ha, (Classical.choose_spec hh).2 a ha]
noncomputable def w9 {A : Type} (n : Nat) (F : Nat -> A -> Option A) (a : A) : Option A := aT (fun l : List Nat => l.Perm (List.range n)) fun l => l.foldlM (fun s i => F i s) a
theorem sZ {A : Type} {F : Nat -> A -> Option A} {a r : A} (h : w9 n F a = some r) (hl : l.Perm (List.range n)) : l.foldlM (fun s i => F i s) a = some r := nZ h l hl
theorem qOT {A : Type} {F : Nat -> A -> Option A} {a r : A} (h : ∀ l : List Nat, l.Perm (List.range n) -> l.foldlM (fun s i => F i s) a = some r) : w9 n F a = some r := bY ⟨List.range n, .refl _⟩ h
theorem qSE {l : List Nat} (hn : l.Nodup) (hlt : ∀ x ∈ l, x < n) : ∃ t, (l ++ t).Perm (List.range n) := by
 refine ⟨(List.range n).filter fun x => !decide (x ∈ l), (List.perm_ext_iff_of_nodup ?_ zU0).2 fun x => ?_⟩
 ·rw [zVL];refine ⟨hn, zU0.filter _, fun x hx y hy e => ?_⟩;subst e;have := (zSS.1 hy).2;simp only [hx, decide_true, zSF] at this;cases this
 ·rw [zRA, zSS, zRF];constructor
  ·rintro (h | h)
   ·exact hlt x h
   ·exact h.1
  ·intro h;by_cases hx : x ∈ l
   ·exact .inl hx
   ·exact .inr ⟨h, by simp [hx]⟩
theorem qLX {l : List Nat} (hn : l.Nodup) (hlt : ∀ x ∈ l, x < n) : l.length <= n := by
 obtain ⟨t, ht⟩ := qSE hn hlt;have := ht.length_eq;rw [zQ8, List.length_range] at this;omega
theorem sI (hn : l.Nodup) (hi : i ∉ l) : (l ++ [i]).Nodup := by
 rw [zVL];exact ⟨hn, by simp, fun x hx y hy => by simp at hy; subst hy; exact fun e => hi (e ▸ hx)⟩
theorem qOE {l : List Nat} {i : Nat} (hv : ∀ x ∈ l, x < n) (hi : i < n) : ∀ x ∈ l ++ [i], x < n := fun x hx => by
 rw [zRA] at hx;rcases hx with hx | hx
 ·exact hv x hx
 ·simp at hx; omega
theorem qF8 {A : Type} {F : Nat -> A -> Option A} {a r b : A} (h : w9 n F a = some r) {vis : List Nat} (hn : vis.Nodup) (hv : ∀ i ∈ vis, i < n) (hb : vis.foldlM (fun s i => F i s) a = some b) {i : Nat} (hi : i < n) (hni : i ∉ vis) : ∃ c, F i b = some c := by
 obtain ⟨t, ht⟩ := qSE (sI hn hni) (qOE hv hi);have := sZ h ht;rw [zVH, zVH, hb] at this;simp only [Option.bind_eq_bind, zRE, List.foldlM_cons, List.foldlM_nil] at this
 cases hc : F i b with
 | none => rw [hc] at this; cases this
 | some c => exact ⟨c, rfl⟩
theorem qLJ {A : Type} {F : Nat -> A -> Option A} {a r b : A} (h : w9 n F a = some r) (hn : vis.Nodup) (hv : ∀ i, i ∈ vis ↔ i < n) (hb : vis.foldlM (fun s i => F i s) a = some b) : b = r := by
 have hp : vis.Perm (List.range n) := (List.perm_ext_iff_of_nodup hn zU0).2 fun i => by rw [hv, zRF]
 have := sZ h hp;rw [hb] at this;exact zSJ this
variable {P : Program} {G : Nat -> Bool} {nat : xG} {tab : fM} {inl : FuncId -> Bool} {nm : Nm} {rd : Bool} {good : FuncId -> Bool}
section
variable {Z : Nat -> Prop} {H : IH} {m : Nat -> Nat} {ph : PHp}
def qZI (mv : PV) (since last : Nat) (seen : List Nat) : PO := ⟨1000000002, false, qBW mv since last seen⟩
theorem Hp.mit (hp : Hp P Z H (own m ph)) {last' : Nat} {seen' : List Nat} (hl : qB k ph = some (qZI (.mp j) since last seen)) (hsp : spec P 1000000002 = true) (hjk : j ≠ k) (hv : VR P Z H (own m ph) (.mp j) (.map (some mb))) :
 Hp P Z (H.put (m k) (.mapIter (some mb) since (List.toArray seen') last')) (own m (xN k (qZI (.mp j) since last' seen') ph)) ∧
  Step Z H (own m ph) Z (H.put (m k) (.mapIter (some mb) since (List.toArray seen') last')) (own m (xN k (qZI (.mp j) since last' seen') ph)) ∧ ∀ p, KR p (own m ph) (own m (xN k (qZI (.mp j) since last' seen') ph)) := by
 refine hp.zN2 (cs := qBW (.mp j) since last' seen') hl hsp rfl (zQO _) (.inr ⟨rfl, rfl, mb, since, last', seen', .mp j, rU, rfl, qUT (qXG fun b' ob' hM => ?_)⟩)
 have e : own m (xN k (qZI (.mp j) since last' seen') ph) j = own m ph j := by
  unfold own; rw [zZ, if_neg (fun h => hjk h.1)]
 have hM : own m (xN k (qZI (.mp j) since last' seen') ph) j = some (b', ob') := hM;rw [e] at hM
 cases hv with
 | mp _ h =>
   obtain ⟨h1, h2⟩ := h b' ob' hM;cases h2;exact ⟨h1, rfl⟩
theorem zCF {v : Value} {a : Array MapEntry} (hv : v = .pointer (some ⟨k, 0, none⟩)) (h1 : H.get k = some (.mapIter (some mb) since (List.toArray seen) last)) (h2 : H.get mb = some (.map a since)) (hb : H.base <= k)
 (hborn : ∀ e ∈ a.toList, e.born < since) (hpl : ∀ e ∈ a.toList, zG e.key = true) {run : Job -> IH -> T Out} {Q : Value × IH -> Prop}
 (q0 : (∀ e ∈ a.toList, e.born ∈ seen) -> Q (.tuple #[.bool false], H.put k (.mapIter (some mb) since (List.toArray seen) 0)))
 (q1 : ∀ e ∈ a.toList, e.born ∉ seen -> Q (.tuple #[.bool true, e.key, e.val], H.put k (.mapIter (some mb) since (List.toArray (insertSorted e.born seen)) (e.born + 1)))) :
 (qEN run (fun _ => none) (qCZ v false H)).holds Q := by
 subst hv
 have hall : (a.all fun e => decide (e.born < since)) = true := by
  rw [zS4];intro e he;exact decide_eq_true (hborn e (Array.mem_toList_iff.2 he))
 have hn : qCZ (.pointer (some ⟨k, 0, none⟩)) false H = mW mb k since (List.toArray seen) (a.filter fun e => !(List.toArray seen).contains e.born) H := by
  unfold qCZ;simp only [h1, h2, hb, decide_true, beq_self_eq_true, zRO, hall, if_true]
 rw [hn]
 have hmem : ∀ e, e ∈ (a.filter fun e => !(List.toArray seen).contains e.born).toList ↔ e ∈ a.toList ∧ e.born ∉ seen := fun e => by
  rw [zTI, zSS];simp
 unfold mW
 cases hem : (a.filter fun e => !(List.toArray seen).contains e.born).isEmpty with
 | true =>
   rw [if_pos rfl];refine q0 fun e he => ?_
   refine Classical.byContradiction fun hns => ?_
   have h3 := (hmem e).2 ⟨he, hns⟩;rw [Array.isEmpty_iff] at hem;rw [hem] at h3;simp at h3
 | false =>
   rw [if_neg (by simp)];show ∀ i, i < _ -> _;intro i hi;have hg : (a.filter fun e => !(List.toArray seen).contains e.born)[i]? = some ((a.filter fun e => !(List.toArray seen).contains e.born)[i]) := zQ5 hi;have h3 := (hmem _).1 (Array.mem_toList_iff.2 (Array.getElem_mem hi));simp only [hg, hpl _ h3.1, zSF, zSV, if_false];have := q1 _ h3.1 h3.2;exact this
end
section
variable {Γ : Type} {w : Wld Γ} {g : Γ} {env : List PV} {ph : PHp}
theorem zI6.zL5 (s : zI6 P good nat G tab) {ops : Array Oper} {o : Oper} {l : List Oper} {x : Operand} {Q : YQ Γ} {obm : PO} {es : List MapEntry} (hok : fE G ops = true) (hops : ops.toList = o :: l) (ho : o.op = .next x false) (hgd : o.guard = none)
 (hx : qN env x = .ref k 4 0) (hl : qB k ph = some (qZI (.mp j) since last seen)) (hsp : spec P 1000000002 = true) (hjk : j ≠ k) (hm : wJ P (.mp j) ph = some (j, obm, since, es)) (hborn : ∀ e ∈ es, e.born < since) (hpl : ∀ e ∈ es, zG e.key = true)
 (h0 : (∀ e ∈ es, e.born ∈ seen) -> (pops P tab inl nm (ops.toList.map (·.dst)) l (yN env o.dst (.tup [fvv (.bool false)])) (xN k (qZI (.mp j) since 0 seen) ph)).zIV P G w (fun g e p => Q .normal g e p) g)
 (h1 : ∀ e ∈ es, e.born ∉ seen -> (pops P tab inl nm (ops.toList.map (·.dst)) l (yN env o.dst (.tup [fvv (.bool true), .unk, .unk])) (xN k (qZI (.mp j) since (e.born + 1) (insertSorted e.born seen)) ph)).zIV P G w (fun g e p => Q .normal g e p) g) :
 qU P G rd nm w (.region id ops false) g env ph Q := by
 intro Z H m zIC D hs hb B F f a wd hF hr hR hG zII hmk;have zM9 : ∀ o' ∈ ops.toList, o'.op.operands.toList.all (gK (zN f)) = true := fun o ho => zQR.1 (jL hG hok) o (by simpa using ho)
 suffices main : ∀ Qx : Exit -> Act -> World -> Prop, (∀ (g' : Γ) (env' : List PV) (ph' : PHp) (Z' : Nat -> Prop) (H' : IH) (m' : Nat -> Nat) (zIT : Env) (D' : Nat -> Prop) (f' : Inj) (a' : Act) (w' : World), Q .normal g' env' ph' -> Rel P f' H' w' -> Grow f H wd f' H' w' -> qC P f' zIT a'.tmps.toList -> Marks B f' w' a'.defers -> St P w g' env' ph' Z' H' m' zIT D' ->
  StD Z H (own m ph) D Z' H' (own m' ph') D' -> KR (inP nm) (own m ph) (own m' ph') -> Qx .normal a' w') -> wpListIn F 0 P ops Qx ops.toList a wd by
  refine wpIn_region_list (main _ ?_);intro g' env' ph' Z' H' m' zIT D' f' a' w' q1 q2 q3 q4 q5 q6 q7 q8;exact ⟨⟨.normal, zIT, H'⟩, f', ⟨Z', m', env', ph', g', D', q6, q7, q8, q1⟩, rfl, q2, q3, q4, q5⟩
 intro Qx hfin;rw [hops] at zM9;have hl2 : wpListIn F 0 P ops Qx ops.toList a wd = wpListIn F 0 P ops Qx (o :: l) a wd := by rw [hops]
 rw [hl2];unfold wpListIn;have hw : xY ops o zIC = some true := qB4 hs.vrl (by unfold fK; rw [hgd]);rw [xR zII hw, if_pos rfl];have hvx := qK hs.vrl x;rw [hx] at hvx;obtain ⟨hv, hgr, hbs, mb, seen', g1, g2, g3, g4, g5⟩ := qZB hs.hp hvx hl hsp rfl rfl
 have hse : seen = seen' := by
  have : ∀ (a b : List Nat), a.map iv = b.map iv -> a = b := fun a b h => by
   induction a generalizing b with
   | nil => cases b with
     | nil => rfl
     | cons y b => cases h
   | cons x a ih =>
     cases b with
     | nil => cases h
     | cons y b =>
       simp only [zQ0, zRP, iv, PV.f.injEq, FV.v.injEq, Value.int.injEq, true_and] at h;rw [ih b h.2, Int.ofNat.inj h.1]
  exact this _ _ g2
 subst hse;obtain ⟨m1, m2, m3, m4, m5, m6, m7, arr, m8, m9⟩ := gN hs.hp g3 hm;cases m5;subst m9
 have key : ∀ (tv : PV) (u : Value) (last' : Nat) (sn : List Nat), (∀ Z H M, VR P Z H M tv u) -> (pops P tab inl nm (ops.toList.map (·.dst)) l (yN env o.dst tv) (xN k (qZI (.mp j) since last' sn) ph)).zIV P G w (fun g e p => Q .normal g e p) g ->
  ∀ v' w' f', Rel P f' (H.put (m k) (.mapIter (some (m j)) since (List.toArray sn) last')) w' -> Grow f H wd f' (H.put (m k) (.mapIter (some (m j)) since (List.toArray sn) last')) w' -> zIB P f' u v' ->
  wpListIn F 0 P ops Qx l (a.put o.dst v') w' := fun tv u last' sn htv hh v' w' f' k1 k2 k3 => by
  obtain ⟨r1, r2, r3⟩ := hs.hp.mit (last' := last') (seen' := sn) hl hsp hjk g3;have s1 := hs.step r1 (hs.vrl.mono (p := fun _ => false) (fun _ h => h) r2.size (hs.hp.zJR r2) (r3 _) (fun j hj => by cases hj)) r2
  refine vZ hF s.s.spec s.t l g (yN env o.dst tv) _ Z _ m (zIC.zIX o.dst u) D f' (a.put o.dst v') w' k1 (hG.mono k2.le) (jW (zII.mono k2.le) k3 _) (by rw [put_defers]; exact Marks.grow k2 _ hmk)
   (fun o' ho' => zQR.2 fun x hx => jN (zO k2.le) (zQR.1 (zM9 o' (by simp [ho'])) x hx)) ⟨s1.hp, s1.vrl.zIX (htv _ _ _) _, s1.wd, s1.dis⟩ (by rw [r2.base]; exact zQ6 hb r2.size) hh ?_
  intro g' env' ph' Z' H' m' zIT D' f2 a' w2 q1 q2 q3 q4 q5 q6 q7 q8;exact hfin g' env' ph' Z' H' m' zIT D' f2 a' w2 q1 q2 (k2.trans q3) q4 q5 q6 ((StD.of r2).trans q7) ((r3 _).trans q8)
 refine uD (run := uN) (nat := fun _ => none) (G := G) hF (qJ5 qOK) qDC hR hG zII (zM9 o (by simp))
  (Q := fun r => (r = (.tuple #[.bool false], H.put (m k) (.mapIter (some (m j)) since (List.toArray seen) 0)) ∧ ∀ e ∈ arr.toList, e.born ∈ seen) ∨ ∃ e ∈ arr.toList, e.born ∉ seen ∧ r = (.tuple #[.bool true, e.key, e.val], H.put (m k) (.mapIter (some (m j)) since (List.toArray (insertSorted e.born seen)) (e.born + 1)))) ?_ ?_
 ·unfold qAD iop;rw [ho];exact zCF hv g1 m8 hbs hborn hpl (fun h => .inl ⟨rfl, h⟩) fun e he hn => .inr ⟨e, he, hn, rfl⟩
 ·rintro r v' w' f' (⟨rfl, hall⟩ | ⟨e, he, hn, rfl⟩) k1 k2 k3
  ·refine key (.tup [fvv (.bool false)]) _ 0 seen (fun Z H M => VRL.zKD (.cons (vM rfl) .nil)) (h0 hall) v' w' f' k1 k2 k3
  ·refine key (.tup [fvv (.bool true), .unk, .unk]) _ (e.born + 1) (insertSorted e.born seen) (fun Z H M => VRL.zKD (.cons (vM rfl) (.cons .unk (.cons .unk .nil)))) (h1 e he hn) v' w' f' k1 k2 k3
def RQM {σ A : Type} (Gd : σ -> Prop) (E : σ -> List PV) (Ph : Nat -> List Nat -> σ -> PHp) (Gm : σ -> Γ) (α : σ -> A) (n : Nat) (stp : Nat -> A -> Option A) (id : Nat) (r : A) (Q : YQ Γ) (seen : List Nat) (s : σ) : YQ Γ := fun e g env ph =>
 (e ≠ .normal ∧ (∀ i, i < n -> i ∈ seen) ∧ (α s = r -> BQY id Q e g env ph)) ∨
 (e = .normal ∧ ∃ i s', i < n ∧ i ∉ seen ∧ stp i (α s) = some (α s') ∧ WkP env (E s') ∧ qA5 (Ph (i + 1) (insertSorted i seen) s') ph ∧ g = Gm s' ∧ Gd s')
theorem qU.zOG {σ A : Type} (Gd : σ -> Prop) (E : σ -> List PV) (Ph : Nat -> List Nat -> σ -> PHp) (Gm : σ -> Γ) (α : σ -> A) (n : Nat) {stp : Nat -> A -> Option A} {s0 : σ} {r : A} (hr : w9 n stp (α s0) = some r) {Q : YQ Γ} (hw : WkP env (E s0)) (hs : qA5 (Ph 0 [] s0) ph) (hg : g = Gm s0) (hgd : Gd s0)
 (hx : ∀ last seen s, Gd s -> (∀ i, i < n -> i ∉ seen -> ∃ a, stp i (α s) = some a) -> qU P G rd nm w x (Gm s) (E s) (Ph last seen s) (RQM Gd E Ph Gm α n stp id r Q seen s)) : qU P G rd nm w (.block id (.loop x)) g env ph Q := by
 subst hg;refine .pre' (fun Z H m vs hp hv => ⟨Z, m, bN hw hs Z H m vs hp hv⟩) (.block ?_);intro Z H m zIC D a hb
 refine .loop (fun k zJI H1 => ∃ s last seen vis Z1 m1 D1, Gd s ∧ k + List.length vis = n ∧ vis.Nodup ∧ (∀ i ∈ vis, i < n) ∧ (∀ i, i ∈ seen ↔ i ∈ vis) ∧ vis.foldlM (fun s i => stp i s) (α s0) = some (α s) ∧ St P w (Gm s) (E s) (Ph last seen s) Z1 H1 m1 zJI D1 ∧
  StD Z H (own m (Ph 0 [] s0)) D Z1 H1 (own m1 (Ph last seen s)) D1 ∧ KR (inP nm) (own m (Ph 0 [] s0)) (own m1 (Ph last seen s))) ?_ (n := n) ⟨s0, 0, [], [], Z, m, D, hgd, by simp, by simp, by simp, by simp, rfl, a, .refl, .refl _ _⟩
 rintro k zJI H1 ⟨s, last, seen, vis, Z1, m1, D1, qg, q0, q1, q2, q3, q4, q5, q6, q7⟩;refine (hx last seen s qg (fun i hi hni => qF8 hr q1 q2 q4 hi fun h => hni ((q3 i).2 h)) Z1 H1 m1 zJI D1 q5 (by rw [q6.base]; exact zQ6 hb q6.size)).mono ?_;rintro o ⟨Z2, m2, zI5, ph2, g2, D2, a, b, c, e⟩
 rcases e with ⟨e1, e2, e3⟩ | ⟨e1, i, s', f1, f2, f3, f4, f5, f6, f7⟩
 ·have hend : α s = r := qLJ hr q1 (fun i => ⟨q2 i, fun h => (q3 i).1 (e2 i h)⟩) q4;have e4 := e3 hend
  cases ho : o.e with
  | normal => exact absurd ho e1
  | exit i => simp only; exact ⟨Z2, m2, zI5, ph2, g2, D2, a, q6.trans b, q7.trans c, by rw [ho] at e4; exact e4⟩
  | goto l => simp only; exact ⟨Z2, m2, zI5, ph2, g2, D2, a, q6.trans b, q7.trans c, by rw [ho] at e4; exact e4⟩
  | ret => simp only; exact ⟨Z2, m2, zI5, ph2, g2, D2, a, q6.trans b, q7.trans c, by rw [ho] at e4; exact e4⟩
 ·subst f6;rw [e1];simp only;have hni : i ∉ vis := fun h => f2 ((q3 i).2 h)
  have hlen := qLX (sI q1 hni) (qOE q2 f1);rw [zQ8] at hlen;simp only [zRB, zUH] at hlen;obtain ⟨w1, w2, w3, w4⟩ := bN (p := inP nm) f4 f5 Z2 o.H m2 o.env a.hp a.vrl;refine ⟨k - 1, by omega, s', i + 1, insertSorted i seen, vis ++ [i], Z2, m2, D2, f7, by rw [zQ8]; simp only [zRB, zUH]; omega, sI q1 hni, qOE q2 f1, fun x => ?_, ?_, a.step w1 w2 w3, (q6.trans b).trans (.of w3), (q7.trans c).trans w4⟩
  ·rw [vH, q3, zRA];simp only [zQ2, List.not_mem_nil, or_false];exact or_comm
  ·rw [zVH, q4];simp only [Option.bind_eq_bind, zRE, List.foldlM_cons, List.foldlM_nil, f3];rfl
def RQA {σ A B : Type} (E : σ -> List PV) (Ph : σ -> PHp) (Gm : σ -> Γ) (α : σ -> A) (id : Nat) (r : B) (Q : YQ Γ) (x : A ⊕ B) : YQ Γ := fun e g env ph => match x with
 | .inl a' => e = .normal ∧ ∃ s', α s' = a' ∧ WkP env (E s') ∧ qA5 (Ph s') ph ∧ g = Gm s'
 | .inr r' => r' = r -> e ≠ .normal ∧ BQY id Q e g env ph
theorem qU.zKT {σ A B : Type} (E : σ -> List PV) (Ph : σ -> PHp) (Gm : σ -> Γ) (α : σ -> A) {stp : σ -> Option (A ⊕ B)} {s0 : σ} {r : B} (hr : qQ (fun a => aT (fun s => α s = a) stp) (α s0) = some r) {Q : YQ Γ} (hw : WkP env (E s0)) (hs : qA5 (Ph s0) ph) (hg : g = Gm s0)
 (hx : ∀ s y, stp s = some y -> qU P G rd nm w x (Gm s) (E s) (Ph s) (RQA E Ph Gm α id r Q y)) : qU P G rd nm w (.block id (.loop x)) g env ph Q := by
 obtain ⟨n, hn⟩ := aH hr;subst hg;refine .pre' (fun Z H m vs hp hv => ⟨Z, m, bN hw hs Z H m vs hp hv⟩) (.block ?_);intro Z H m zIC D a hb;refine .loop (fun n zJI H1 => ∃ s Z1 m1 D1, aG n (fun a => aT (fun s => α s = a) stp) (α s) = some r ∧ St P w (Gm s) (E s) (Ph s) Z1 H1 m1 zJI D1 ∧ StD Z H (own m (Ph s0)) D Z1 H1 (own m1 (Ph s)) D1 ∧ KR (inP nm) (own m (Ph s0)) (own m1 (Ph s))) ?_ (n := n) ⟨s0, Z, m, D, hn, a, .refl, .refl _ _⟩;rintro n1 zJI H1 ⟨s, Z1, m1, D1, q1, q2, q3, q4⟩
 cases n1 with
 | zero => cases q1
 | succ n1 =>
   unfold aG at q1
   cases hf : aT (fun s' => α s' = α s) stp with
   | none => simp only [hf] at q1; cases q1
   | some y =>
     simp only [hf] at q1;refine (hx s y (nZ hf s rfl) Z1 H1 m1 zJI D1 q2 (by rw [q3.base]; exact zQ6 hb q3.size)).mono ?_;rintro o ⟨Z2, m2, zI5, ph2, g2, D2, a, b, c, e⟩
     cases y with
     | inl a' =>
       obtain ⟨e1, s', e0, e2, e3, e4⟩ := e;subst e4;subst e0;rw [e1];simp only;obtain ⟨f1, f2, f3, f4⟩ := bN (p := inP nm) e2 e3 Z2 o.H m2 o.env a.hp a.vrl;exact ⟨n1, zR5 _, s', Z2, m2, D2, q1, a.step f1 f2 f3, (q3.trans b).trans (.of f3), (q4.trans c).trans f4⟩
     | inr r' =>
       simp only [zQV] at q1;subst q1;obtain ⟨e1, e2⟩ := e rfl
       cases ho : o.e with
       | normal => exact absurd ho e1
       | exit i => simp only; exact ⟨Z2, m2, zI5, ph2, g2, D2, a, q3.trans b, q4.trans c, by rw [ho] at e2; exact e2⟩
       | goto l => simp only; exact ⟨Z2, m2, zI5, ph2, g2, D2, a, q3.trans b, q4.trans c, by rw [ho] at e2; exact e2⟩
       | ret => simp only; exact ⟨Z2, m2, zI5, ph2, g2, D2, a, q3.trans b, q4.trans c, by rw [ho] at e2; exact e2⟩
end
end Go.Idl
