/- TopHawserOrders: for every input the law returns true; the arguments read behind the call as before. Conditions: none beyond the card's own. -/
import Derived.Test.YtpnecffgnjijjaaGreatDoorCW9
import Derived.Test.YtpnecffgnjijjaaGreatDoorTU2
set_option linter.all false
set_option maxHeartbeats 100000000
namespace Go.Proofs.YtpnecffgnjijjaaGreatDoor
open Go.ChangeShapes Go.WideShapes Go.ChangeAt Go.RowKit Go.Joins Go.Deep
set_option maxRecDepth 100000 in
theorem gN (os:Os)(started:os.Started)(H:Type)(enc:TypeId×Value->H) :
 ReturnsInHanded {} Tryz.checked os 3 .any (fun w args=>(Rows.topHawserOrdersSpec.pre enc Tryz.prog Tryz.f3 [] false w args∧laidMetH Tryz.prog Rows.topHawserOrdersRow.laid w)∧sizedMet enc Tryz.prog Tryz.f3 (OpenSpec.ofChange Rows.topHawserOrdersSpec) false w args)
  (Rows.topHawserOrdersSpec.post enc Tryz.prog Tryz.f3 false true false false):=by
 refine returnsInHanded_of_change_and (C:=Tryz.checked) (X:=fun w _=>laidMetH Tryz.prog Rows.topHawserOrdersRow.laid w) (fun _ _ _ hh h=>h.of_heap hh) own started (by kernel_rfl) Tryz.func3
  (ChangeSpec.witness_shaped (enc:=enc) (C:=Tryz.checked) (os:=os) (X:=fun w _=>laidMetH Tryz.prog Rows.topHawserOrdersRow.laid w) false (World.laidAll Tryz.prog os Rows.topHawserOrdersRow.laid) #[.agg #[.slice none 0 0,.slice none 0 0,.slice none 0 0]] 8 (World.laidAll_os _ _ _)
    (World.shaped_of_ZipB (by kernel_rfl) (by kernel_rfl)) (by kernel_rfl) (by kernel_rfl) (by kernel_rfl)
    (by rw[MakeChecks.laidMetH_plain _ _ _ (by kernel_rfl)];exact laidMet_laidAll _ (by kernel_rfl) (by kernel_rfl))) ?_
 intro W base args ds gs before hval0 hW _ _ hL _;have hval:∀ (j:Nat) t v,Tryz.f3.params[j]?=some t->args[j]?=some v->Value.okWide Tryz.prog W .any base t v:=hval0;have hW':=hW;obtain⟨p,q,hA0,hV,rfl,hfz,hnd⟩:=hW;have hA:DataW.TrodAll enc Tryz.prog W 0 (fun _=>true) true Tryz.f3.params.toList args.toList ds p:=hA0;rw[Tryz.params3] at hA hval;have hA:DataW.TrodAll enc Tryz.prog W 0 (fun _=>true) true [25] args.toList ds p:=hA;obtain⟨rfl,rfl⟩:=trodVars_none hV;have hlen:=Go.Sv.zGQ hA
 obtain⟨d0,rfl⟩:∃ d0,ds=[d0]:=by
  match ds,hlen with
  | [d0],_=>exact⟨d0,rfl⟩
 obtain⟨hs,_,_,h3⟩:=qLX (show laidMetH Tryz.prog zAF W from hL);refine (Go.Sv.Lib.zMI (gl:=[(7,gD)]) (k:=10) LAW zET (g:=3) (ats:=[((Go.Sv.Ty.list 3 (Go.Sv.Ty.int IntKind.i64)).pair ((Go.Sv.Ty.list 3 (Go.Sv.Ty.int IntKind.i64)).pair (Go.Sv.Ty.list 22 (Go.Sv.Ty.list 3 (Go.Sv.Ty.int IntKind.i64)))))]) (F:=H3) rfl (fun x _=>zE3 x.1 x.2.1 x.2.2) (zDA hs h3) (by omega) (n:=6) (is:=[25]) (by kernel_rfl) hA (fun j i v h1 h2=>hval j i v (by simpa using h1) h2)).mono fun e W' ⟨he,hb⟩=>?_
 subst he;refine⟨_,rfl,_,_,_,[],p,[],hW',?_,?_,rfl,hb.frame _,fun h=>by cases h⟩
 ·exact trodAll_mk1 (shut_bool Tryz.underlying4 true)
 ·exact Go.Sv.zHA laidOut hb [25] _ _ _ (Go.Sv.zIC (by kernel_rfl)) hA fun x hx=>hW'.lt x (by simp[hx])
theorem zDH {a b:Bool}(h:a=true)(k:b=true):(a&&b)=true:=by rw[h,k];rfl
theorem zBI:joinedFacts Tryz.prog 3 Tryz.f3 Rows.topHawserOrdersSpec Rows.topHawserOrdersRow=true:=by
 unfold joinedFacts
 repeat' with_reducible apply zDH
 all_goals as_aux_lemma=>kernel_rfl
theorem bG:Rows.TopHawserOrdersSaid :=
 OpenClaim.holds_of_wide 3 Tryz.f3 rfl rfl rfl rfl rfl rfl rfl ⟨rfl,rfl,rfl,rfl,rfl⟩ rfl rfl rfl rfl rfl (by kernel_rfl) Tryz.func3 zBI
  (of_decide_eq_true (by kernel_rfl)) (by unfold Func.isWrapper;rw[if_neg (of_decide_eq_false (by kernel_rfl))];exact⟨rfl,rfl⟩)
  (fun os started H enc _=>gN os started H enc)
theorem top_hawser_orders:Rows.TopHawserOrdersCardSaid :=
 Claim7.holds_tied_plain_at .later [] [.data,.data,.data,.data,.sentinel,.sentinel,.pinned] true (true, "c0eabaac8e179302475514b80d4c4592d3d19c68184491c495fcee3b63386137") true
  bG (fun _ h=>by cases h) (by as_aux_lemma=>kernel_rfl) (fun _ h=>by cases h) topHawserOrders_row_tie rfl ⟨rfl,rfl⟩ (by as_aux_lemma=>kernel_rfl) rfl
  (fun f fn hf hfn=>by
    obtain rfl:f=3:=Option.some.inj ((show Tryz.prog.funcNamed "becket/beckettop.TopHawserOrders" = some 3 by as_aux_lemma=>kernel_rfl).symm.trans hf) |>.symm
    obtain rfl:fn=Tryz.f3:=(Option.some.inj (Tryz.func3.symm.trans hfn)).symm
    exact⟨by as_aux_lemma=>kernel_rfl,fun j t ht=>by
     rw[Tryz.params3] at ht
     have h3:t=25:=by
      rcases j with _ | j <;> simp at ht <;> simp[ht]
     rcases h3 with rfl
     ·exact (show Tryz.prog.wantsStandIn 25=false by kernel_rfl)⟩)
  (by as_aux_lemma=>kernel_rfl)
#print axioms top_hawser_orders
end Go.Proofs.YtpnecffgnjijjaaGreatDoor
