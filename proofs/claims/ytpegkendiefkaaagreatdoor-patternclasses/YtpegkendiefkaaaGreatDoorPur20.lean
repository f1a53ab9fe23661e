/- Ranges over maps on values without a heap. Conditions: none. -/
import Derived.Test.YtpegkendiefkaaaGreatDoorPur19
set_option linter.all false
namespace Go.Idl
variable [Gc]
variable {i id j k last mb n since : Nat} {l seen vis : List Nat} {x : Code}
noncomputable def aR {α R : Type} (p : α -> Prop) (F : α -> Option R) : Option R := open Classical in if h : ∃ r, (∃ a, p a) ∧ ∀ a, p a -> F a = some r then some (Classical.choose h) else none
theorem o6 {α R : Type} {p : α -> Prop} {F : α -> Option R} {r : R} (h : aR p F = some r) : ∀ a, p a -> F a = some r := by
 unfold aR at h;split at h
 ·rename_i hh;cases h;exact (Classical.choose_spec hh).2
 ·cases h
theorem dI {α R : Type} {p : α -> Prop} {F : α -> Option R} {r : R} (h0 : ∃ a, p a) (h : ∀ a, p a -> F a = some r) : aR p F = some r := by
 have hh : ∃ r, (∃ a, p a) ∧ ∀ a, p a -> F a = some r := ⟨r, h0, h⟩
 unfold aR;rw [dif_pos hh];obtain ⟨a, ha⟩ := h0;rw [<- h a ha, (Classical.choose_spec hh).2 a ha]
noncomputable def wX {A : Type} (n : Nat) (F : Nat -> A -> Option A) (a : A) : Option A := aR (fun l : List Nat => l.Perm (List.range n)) fun l => l.foldlM (fun s i => F i s) a
theorem tH {A : Type} {F : Nat -> A -> Option A} {a r : A} (h : wX n F a = some r) (hl : l.Perm (List.range n)) : l.foldlM (fun s i => F i s) a = some r := o6 h l hl
theorem qNT {A : Type} {F : Nat -> A -> Option A} {a r : A} (h : ∀ l : List Nat, l.Perm (List.range n) -> l.foldlM (fun s i => F i s) a = some r) : wX n F a = some r := dI ⟨List.range n, .refl _⟩ h
theorem qPR {l : List Nat} (hn : l.Nodup) (hlt : ∀ x ∈ l, x < n) : ∃ t, (l ++ t).Perm (List.range n) := by
 refine ⟨(List.range n).filter fun x => !decide (x ∈ l), (List.perm_ext_iff_of_nodup ?_ zYA).2 fun x => ?_⟩
 ·rw [zYT];refine ⟨hn, zYA.filter _, fun x hx y hy e => ?_⟩;subst e;have := (zVS.1 hy).2;simp only [hx, decide_true, zVK] at this;cases this
 ·rw [zUQ, zVS, zUW];constructor
  ·rintro (h | h)
   ·exact hlt x h
   ·exact h.1
  ·intro h;by_cases hx : x ∈ l
   ·exact .inl hx
   ·exact .inr ⟨h, by simp [hx]⟩
theorem qJY {l : List Nat} (hn : l.Nodup) (hlt : ∀ x ∈ l, x < n) : l.length <= n := by
 obtain ⟨t, ht⟩ := qPR hn hlt;have := ht.length_eq;rw [zUK, List.length_range] at this;omega
theorem rE (hn : l.Nodup) (hi : i ∉ l) : (l ++ [i]).Nodup := by
 rw [zYT];exact ⟨hn, by simp, fun x hx y hy => by simp at hy; subst hy; exact fun e => hi (e ▸ hx)⟩
theorem qL5 {l : List Nat} {i : Nat} (hv : ∀ x ∈ l, x < n) (hi : i < n) : ∀ x ∈ l ++ [i], x < n := fun x hx => by
 rw [zUQ] at hx;rcases hx with hx | hx
 ·exact hv x hx
 ·simp at hx; omega
theorem qF6 {A : Type} {F : Nat -> A -> Option A} {a r b : A} (h : wX n F a = some r) {vis : List Nat} (hn : vis.Nodup) (hv : ∀ i ∈ vis, i < n) (hb : vis.foldlM (fun s i => F i s) a = some b) {i : Nat} (hi : i < n) (hni : i ∉ vis) : ∃ c, F i b = some c := by
 obtain ⟨t, ht⟩ := qPR (rE hn hni) (qL5 hv hi);have := tH h ht;rw [zYP, zYP, hb] at this;simp only [Option.bind_eq_bind, zUT, List.foldlM_cons, List.foldlM_nil] at this
 cases hc : F i b with
 | none => rw [hc] at this; cases this
 | some c => exact ⟨c, rfl⟩
theorem qJ0 {A : Type} {F : Nat -> A -> Option A} {a r b : A} (h : wX n F a = some r) (hn : vis.Nodup) (hv : ∀ i, i ∈ vis ↔ i < n) (hb : vis.foldlM (fun s i => F i s) a = some b) : b = r := by
 have hp : vis.Perm (List.range n) := (List.perm_ext_iff_of_nodup hn zYA).2 fun i => by rw [hv, zUW]
 have := tH h hp;rw [hb] at this;exact zVT this
variable {P : Program} {G : Nat -> Bool} {nat : xI} {tab : gY} {inl : FuncId -> Bool} {nm : Nm} {rd : Bool} {good : FuncId -> Bool}
section
variable {Z : Nat -> Prop} {H : IH} {m : Nat -> Nat} {ph : PHp}
def qZD (mv : PV) (since last : Nat) (seen : List Nat) : PO := ⟨1000000002, false, qCJ mv since last seen⟩
theorem Hp.mit (hp : Hp P Z H (own m ph)) {last' : Nat} {seen' : List Nat} (hl : qD k ph = some (qZD (.mp j) since last seen)) (hsp : spec P 1000000002 = true) (hjk : j ≠ k) (hv : VR P Z H (own m ph) (.mp j) (.map (some mb))) :
 Hp P Z (H.put (m k) (.mapIter (some mb) since (List.toArray seen') last')) (own m (xP k (qZD (.mp j) since last' seen') ph)) ∧
  Step Z H (own m ph) Z (H.put (m k) (.mapIter (some mb) since (List.toArray seen') last')) (own m (xP k (qZD (.mp j) since last' seen') ph)) ∧ ∀ p, KR p (own m ph) (own m (xP k (qZD (.mp j) since last' seen') ph)) := by
 refine hp.zPK (cs := qCJ (.mp j) since last' seen') hl hsp rfl (zT0 _) (.inr ⟨rfl, rfl, mb, since, last', seen', .mp j, sI, rfl, qYI (qVH fun b' ob' hM => ?_)⟩)
 have e : own m (xP k (qZD (.mp j) since last' seen') ph) j = own m ph j := by
  unfold own; rw [zZ, if_neg (fun h => hjk h.1)]
 have hM : own m (xP k (qZD (.mp j) since last' seen') ph) j = some (b', ob') := hM;rw [e] at hM
 cases hv with
 | mp _ h =>
   obtain ⟨h1, h2⟩ := h b' ob' hM;cases h2;exact ⟨h1, rfl⟩
theorem zA3 {v : Value} {a : Array MapEntry} (hv : v = .pointer (some ⟨k, 0, none⟩)) (h1 : H.get k = some (.mapIter (some mb) since (List.toArray seen) last)) (h2 : H.get mb = some (.map a since)) (hb : H.base <= k)
 (hborn : ∀ e ∈ a.toList, e.born < since) (hpl : ∀ e ∈ a.toList, zG e.key = true) {run : Job -> IH -> T Out} {Q : Value × IH -> Prop}
 (q0 : (∀ e ∈ a.toList, e.born ∈ seen) -> Q (.tuple #[.bool false], H.put k (.mapIter (some mb) since (List.toArray seen) 0)))
 (q1 : ∀ e ∈ a.toList, e.born ∉ seen -> Q (.tuple #[.bool true, e.key, e.val], H.put k (.mapIter (some mb) since (List.toArray (insertSorted e.born seen)) (e.born + 1)))) :
 (qED run (fun _ => none) (qCR v false H)).holds Q := by
 subst hv
 have hall : (a.all fun e => decide (e.born < since)) = true := by
  rw [zWF];intro e he;exact decide_eq_true (hborn e (Array.mem_toList_iff.2 he))
 have hn : qCR (.pointer (some ⟨k, 0, none⟩)) false H = nI mb k since (List.toArray seen) (a.filter fun e => !(List.toArray seen).contains e.born) H := by
  unfold qCR;simp only [h1, h2, hb, decide_true, beq_self_eq_true, zU3, hall, if_true]
 rw [hn]
 have hmem : ∀ e, e ∈ (a.filter fun e => !(List.toArray seen).contains e.born).toList ↔ e ∈ a.toList ∧ e.born ∉ seen := fun e => by
  rw [zWR, zVS];simp
 unfold nI
 cases hem : (a.filter fun e => !(List.toArray seen).contains e.born).isEmpty with
 | true =>
   rw [if_pos rfl];refine q0 fun e he => ?_
   refine Classical.byContradiction fun hns => ?_
   have h3 := (hmem e).2 ⟨he, hns⟩;rw [Array.isEmpty_iff] at hem;rw [hem] at h3;simp at h3
 | false =>
   rw [if_neg (by simp)];show ∀ i, i < _ -> _;intro i hi;have hg : (a.filter fun e => !(List.toArray seen).contains e.born)[i]? = some ((a.filter fun e => !(List.toArray seen).contains e.born)[i]) := zUJ hi;have h3 := (hmem _).1 (Array.mem_toList_iff.2 (Array.getElem_mem hi));simp only [hg, hpl _ h3.1, zVK, zV4, if_false];have := q1 _ h3.1 h3.2;exact this
end
section
variable {Γ : Type} {w : Wld Γ} {g : Γ} {env : List PV} {ph : PHp}
theorem zIN.zMD (s : zIN P good nat G tab) {ops : Array Oper} {o : Oper} {l : List Oper} {x : Operand} {Q : YQ Γ} {obm : PO} {es : List MapEntry} (hok : fF G ops = true) (hops : ops.toList = o :: l) (ho : o.op = .next x false) (hgd : o.guard = none)
 (hx : qN env x = .ref k 4 0) (hl : qD k ph = some (qZD (.mp j) since last seen)) (hsp : spec P 1000000002 = true) (hjk : j ≠ k) (hm : vX P (.mp j) ph = some (j, obm, since, es)) (hborn : ∀ e ∈ es, e.born < since) (hpl : ∀ e ∈ es, zG e.key = true)
 (h0 : (∀ e ∈ es, e.born ∈ seen) -> (pops P tab inl nm (ops.toList.map (·.dst)) l (yO env o.dst (.tup [fvv (.bool false)])) (xP k (qZD (.mp j) since 0 seen) ph)).zIC P G w (fun g e p => Q .normal g e p) g)
 (h1 : ∀ e ∈ es, e.born ∉ seen -> (pops P tab inl nm (ops.toList.map (·.dst)) l (yO env o.dst (.tup [fvv (.bool true), .unk, .unk])) (xP k (qZD (.mp j) since (e.born + 1) (insertSorted e.born seen)) ph)).zIC P G w (fun g e p => Q .normal g e p) g) :
 qU P G rd nm w (.region id ops false) g env ph Q := by
 intro Z H m zHR D hs hb B F f a wd hF hr hR hG zHX hmk;have zNZ : ∀ o' ∈ ops.toList, o'.op.operands.toList.all (gD (zN f)) = true := fun o ho => zT3.1 (jP hG hok) o (by simpa using ho)
 suffices main : ∀ Qx : Exit -> Act -> World -> Prop, (∀ (g' : Γ) (env' : List PV) (ph' : PHp) (Z' : Nat -> Prop) (H' : IH) (m' : Nat -> Nat) (zIA : Env) (D' : Nat -> Prop) (f' : Inj) (a' : Act) (w' : World), Q .normal g' env' ph' -> Rel P f' H' w' -> Grow f H wd f' H' w' -> qE P f' zIA a'.tmps.toList -> Marks B f' w' a'.defers -> St P w g' env' ph' Z' H' m' zIA D' ->
  StD Z H (own m ph) D Z' H' (own m' ph') D' -> KR (inP nm) (own m ph) (own m' ph') -> Qx .normal a' w') -> wpListIn F 0 P ops Qx ops.toList a wd by
  refine wpIn_region_list (main _ ?_);intro g' env' ph' Z' H' m' zIA D' f' a' w' q1 q2 q3 q4 q5 q6 q7 q8;exact ⟨⟨.normal, zIA, H'⟩, f', ⟨Z', m', env', ph', g', D', q6, q7, q8, q1⟩, rfl, q2, q3, q4, q5⟩
 intro Qx hfin;rw [hops] at zNZ;have hl2 : wpListIn F 0 P ops Qx ops.toList a wd = wpListIn F 0 P ops Qx (o :: l) a wd := by rw [hops]
 rw [hl2];unfold wpListIn;have hw : xY ops o zHR = some true := qC4 hs.vrl (by unfold fC; rw [hgd]);rw [xV zHX hw, if_pos rfl];have hvx := qK hs.vrl x;rw [hx] at hvx;obtain ⟨hv, hgr, hbs, mb, seen', g1, g2, g3, g4, g5⟩ := qZB hs.hp hvx hl hsp rfl rfl
 have hse : seen = seen' := by
  have : ∀ (a b : List Nat), a.map iv = b.map iv -> a = b := fun a b h => by
   induction a generalizing b with
   | nil => cases b with
     | nil => rfl
     | cons y b => cases h
   | cons x a ih =>
     cases b with
     | nil => cases h
     | cons y b =>
       simp only [zUB, zU4, iv, PV.f.injEq, FV.v.injEq, Value.int.injEq, true_and] at h;rw [ih b h.2, Int.ofNat.inj h.1]
  exact this _ _ g2
 subst hse;obtain ⟨m1, m2, m3, m4, m5, m6, m7, arr, m8, m9⟩ := fP hs.hp g3 hm;cases m5;subst m9
 have key : ∀ (tv : PV) (u : Value) (last' : Nat) (sn : List Nat), (∀ Z H M, VR P Z H M tv u) -> (pops P tab inl nm (ops.toList.map (·.dst)) l (yO env o.dst tv) (xP k (qZD (.mp j) since last' sn) ph)).zIC P G w (fun g e p => Q .normal g e p) g ->
  ∀ v' w' f', Rel P f' (H.put (m k) (.mapIter (some (m j)) since (List.toArray sn) last')) w' -> Grow f H wd f' (H.put (m k) (.mapIter (some (m j)) since (List.toArray sn) last')) w' -> zHQ P f' u v' ->
  wpListIn F 0 P ops Qx l (a.put o.dst v') w' := fun tv u last' sn htv hh v' w' f' k1 k2 k3 => by
  obtain ⟨r1, r2, r3⟩ := hs.hp.mit (last' := last') (seen' := sn) hl hsp hjk g3;have s1 := hs.step r1 (hs.vrl.mono (p := fun _ => false) (fun _ h => h) r2.size (hs.hp.zI9 r2) (r3 _) (fun j hj => by cases hj)) r2
  refine wF hF s.s.spec s.t l g (yO env o.dst tv) _ Z _ m (zHR.zIE o.dst u) D f' (a.put o.dst v') w' k1 (hG.mono k2.le) (jZ (zHX.mono k2.le) k3 _) (by rw [put_defers]; exact Marks.grow k2 _ hmk)
   (fun o' ho' => zT3.2 fun x hx => jV (zO k2.le) (zT3.1 (zNZ o' (by simp [ho'])) x hx)) ⟨s1.hp, s1.vrl.zIE (htv _ _ _) _, s1.wd, s1.dis⟩ (by rw [r2.base]; exact zUS hb r2.size) hh ?_
  intro g' env' ph' Z' H' m' zIA D' f2 a' w2 q1 q2 q3 q4 q5 q6 q7 q8;exact hfin g' env' ph' Z' H' m' zIA D' f2 a' w2 q1 q2 (k2.trans q3) q4 q5 q6 ((StD.of r2).trans q7) ((r3 _).trans q8)
 refine uI (run := uQ) (nat := fun _ => none) (G := G) hF (qI5 qNA) qBW hR hG zHX (zNZ o (by simp))
  (Q := fun r => (r = (.tuple #[.bool false], H.put (m k) (.mapIter (some (m j)) since (List.toArray seen) 0)) ∧ ∀ e ∈ arr.toList, e.born ∈ seen) ∨ ∃ e ∈ arr.toList, e.born ∉ seen ∧ r = (.tuple #[.bool true, e.key, e.val], H.put (m k) (.mapIter (some (m j)) since (List.toArray (insertSorted e.born seen)) (e.born + 1)))) ?_ ?_
 ·unfold qAB iop;rw [ho];exact zA3 hv g1 m8 hbs hborn hpl (fun h => .inl ⟨rfl, h⟩) fun e he hn => .inr ⟨e, he, hn, rfl⟩
 ·rintro r v' w' f' (⟨rfl, hall⟩ | ⟨e, he, hn, rfl⟩) k1 k2 k3
  ·refine key (.tup [fvv (.bool false)]) _ 0 seen (fun Z H M => VRL.zJX (.cons (vM rfl) .nil)) (h0 hall) v' w' f' k1 k2 k3
  ·refine key (.tup [fvv (.bool true), .unk, .unk]) _ (e.born + 1) (insertSorted e.born seen) (fun Z H M => VRL.zJX (.cons (vM rfl) (.cons .unk (.cons .unk .nil)))) (h1 e he hn) v' w' f' k1 k2 k3
def RQM {σ A : Type} (Gd : σ -> Prop) (E : σ -> List PV) (Ph : Nat -> List Nat -> σ -> PHp) (Gm : σ -> Γ) (α : σ -> A) (n : Nat) (stp : Nat -> A -> Option A) (id : Nat) (r : A) (Q : YQ Γ) (seen : List Nat) (s : σ) : YQ Γ := fun e g env ph =>
 (e ≠ .normal ∧ (∀ i, i < n -> i ∈ seen) ∧ (α s = r -> BQY id Q e g env ph)) ∨
 (e = .normal ∧ ∃ i s', i < n ∧ i ∉ seen ∧ stp i (α s) = some (α s') ∧ WkP env (E s') ∧ qAX (Ph (i + 1) (insertSorted i seen) s') ph ∧ g = Gm s' ∧ Gd s')
theorem qU.zPY {σ A : Type} (Gd : σ -> Prop) (E : σ -> List PV) (Ph : Nat -> List Nat -> σ -> PHp) (Gm : σ -> Γ) (α : σ -> A) (n : Nat) {stp : Nat -> A -> Option A} {s0 : σ} {r : A} (hr : wX n stp (α s0) = some r) {Q : YQ Γ} (hw : WkP env (E s0)) (hs : qAX (Ph 0 [] s0) ph) (hg : g = Gm s0) (hgd : Gd s0)
 (hx : ∀ last seen s, Gd s -> (∀ i, i < n -> i ∉ seen -> ∃ a, stp i (α s) = some a) -> qU P G rd nm w x (Gm s) (E s) (Ph last seen s) (RQM Gd E Ph Gm α n stp id r Q seen s)) : qU P G rd nm w (.block id (.loop x)) g env ph Q := by
 subst hg;refine .pre' (fun Z H m vs hp hv => ⟨Z, m, dH hw hs Z H m vs hp hv⟩) (.block ?_);intro Z H m zHR D a hb
 refine .loop (fun k zIZ H1 => ∃ s last seen vis Z1 m1 D1, Gd s ∧ k + List.length vis = n ∧ vis.Nodup ∧ (∀ i ∈ vis, i < n) ∧ (∀ i, i ∈ seen ↔ i ∈ vis) ∧ vis.foldlM (fun s i => stp i s) (α s0) = some (α s) ∧ St P w (Gm s) (E s) (Ph last seen s) Z1 H1 m1 zIZ D1 ∧
  StD Z H (own m (Ph 0 [] s0)) D Z1 H1 (own m1 (Ph last seen s)) D1 ∧ KR (inP nm) (own m (Ph 0 [] s0)) (own m1 (Ph last seen s))) ?_ (n := n) ⟨s0, 0, [], [], Z, m, D, hgd, by simp, by simp, by simp, by simp, rfl, a, .refl, .refl _ _⟩
 rintro k zIZ H1 ⟨s, last, seen, vis, Z1, m1, D1, qg, q0, q1, q2, q3, q4, q5, q6, q7⟩;refine (hx last seen s qg (fun i hi hni => qF6 hr q1 q2 q4 hi fun h => hni ((q3 i).2 h)) Z1 H1 m1 zIZ D1 q5 (by rw [q6.base]; exact zUS hb q6.size)).mono ?_;rintro o ⟨Z2, m2, zIM, ph2, g2, D2, a, b, c, e⟩
 rcases e with ⟨e1, e2, e3⟩ | ⟨e1, i, s', f1, f2, f3, f4, f5, f6, f7⟩
 ·have hend : α s = r := qJ0 hr q1 (fun i => ⟨q2 i, fun h => (q3 i).1 (e2 i h)⟩) q4;have e4 := e3 hend
  cases ho : o.e with
  | normal => exact absurd ho e1
  | exit i => simp only; exact ⟨Z2, m2, zIM, ph2, g2, D2, a, q6.trans b, q7.trans c, by rw [ho] at e4; exact e4⟩
  | goto l => simp only; exact ⟨Z2, m2, zIM, ph2, g2, D2, a, q6.trans b, q7.trans c, by rw [ho] at e4; exact e4⟩
  | ret => simp only; exact ⟨Z2, m2, zIM, ph2, g2, D2, a, q6.trans b, q7.trans c, by rw [ho] at e4; exact e4⟩
 ·subst f6;rw [e1];simp only;have hni : i ∉ vis := fun h => f2 ((q3 i).2 h)
  have hlen := qJY (rE q1 hni) (qL5 q2 f1);rw [zUK] at hlen;simp only [zUI, zWK] at hlen;obtain ⟨w1, w2, w3, w4⟩ := dH (p := inP nm) f4 f5 Z2 o.H m2 o.env a.hp a.vrl;refine ⟨k - 1, by omega, s', i + 1, insertSorted i seen, vis ++ [i], Z2, m2, D2, f7, by rw [zUK]; simp only [zUI, zWK]; omega, rE q1 hni, qL5 q2 f1, fun x => ?_, ?_, a.step w1 w2 w3, (q6.trans b).trans (.of w3), (q7.trans c).trans w4⟩
  ·rw [vI, q3, zUQ];simp only [zUD, List.not_mem_nil, or_false];exact or_comm
  ·rw [zYP, q4];simp only [Option.bind_eq_bind, zUT, List.foldlM_cons, List.foldlM_nil, f3];rfl
def RQA {σ A B : Type} (E : σ -> List PV) (Ph : σ -> PHp) (Gm : σ -> Γ) (α : σ -> A) (id : Nat) (r : B) (Q : YQ Γ) (x : A ⊕ B) : YQ Γ := fun e g env ph => match x with
 | .inl a' => e = .normal ∧ ∃ s', α s' = a' ∧ WkP env (E s') ∧ qAX (Ph s') ph ∧ g = Gm s'
 | .inr r' => r' = r -> e ≠ .normal ∧ BQY id Q e g env ph
theorem qU.zKM {σ A B : Type} (E : σ -> List PV) (Ph : σ -> PHp) (Gm : σ -> Γ) (α : σ -> A) {stp : σ -> Option (A ⊕ B)} {s0 : σ} {r : B} (hr : qJ (fun a => aR (fun s => α s = a) stp) (α s0) = some r) {Q : YQ Γ} (hw : WkP env (E s0)) (hs : qAX (Ph s0) ph) (hg : g = Gm s0)
 (hx : ∀ s y, stp s = some y -> qU P G rd nm w x (Gm s) (E s) (Ph s) (RQA E Ph Gm α id r Q y)) : qU P G rd nm w (.block id (.loop x)) g env ph Q := by
 obtain ⟨n, hn⟩ := aW hr;subst hg;refine .pre' (fun Z H m vs hp hv => ⟨Z, m, dH hw hs Z H m vs hp hv⟩) (.block ?_);intro Z H m zHR D a hb;refine .loop (fun n zIZ H1 => ∃ s Z1 m1 D1, aO n (fun a => aR (fun s => α s = a) stp) (α s) = some r ∧ St P w (Gm s) (E s) (Ph s) Z1 H1 m1 zIZ D1 ∧ StD Z H (own m (Ph s0)) D Z1 H1 (own m1 (Ph s)) D1 ∧ KR (inP nm) (own m (Ph s0)) (own m1 (Ph s))) ?_ (n := n) ⟨s0, Z, m, D, hn, a, .refl, .refl _ _⟩;rintro n1 zIZ H1 ⟨s, Z1, m1, D1, q1, q2, q3, q4⟩
 cases n1 with
 | zero => cases q1
 | succ n1 =>
   unfold aO at q1
   cases hf : aR (fun s' => α s' = α s) stp with
   | none => simp only [hf] at q1; cases q1
   | some y =>
     simp only [hf] at q1;refine (hx s y (o6 hf s rfl) Z1 H1 m1 zIZ D1 q2 (by rw [q3.base]; exact zUS hb q3.size)).mono ?_;rintro o ⟨Z2, m2, zIM, ph2, g2, D2, a, b, c, e⟩
     cases y with
     | inl a' =>
       obtain ⟨e1, s', e0, e2, e3, e4⟩ := e;subst e4;subst e0;rw [e1];simp only;obtain ⟨f1, f2, f3, f4⟩ := dH (p := inP nm) e2 e3 Z2 o.H m2 o.env a.hp a.vrl;exact ⟨n1, zVE _, s', Z2, m2, D2, q1, a.step f1 f2 f3, (q3.trans b).trans (.of f3), (q4.trans c).trans f4⟩
     | inr r' =>
       simp only [zT5] at q1;subst q1;obtain ⟨e1, e2⟩ := e rfl
       cases ho : o.e with
       | normal => exact absurd ho e1
       | exit i => simp only; exact ⟨Z2, m2, zIM, ph2, g2, D2, a, q3.trans b, q4.trans c, by rw [ho] at e2; exact e2⟩
       | goto l => simp only; exact ⟨Z2, m2, zIM, ph2, g2, D2, a, q3.trans b, q4.trans c, by rw [ho] at e2; exact e2⟩
       | ret => simp only; exact ⟨Z2, m2, zIM, ph2, g2, D2, a, q3.trans b, q4.trans c, by rw [ho] at e2; exact e2⟩
end
end Go.Idl
