/- WorksShops: for every input the law returns true; the arguments read behind the call as before. Conditions: none beyond the card's own. -/
import Derived.Test.YtkmfigmiehpcpaaGreatDoorCW9
import Derived.Test.YtkmfigmiehpcpaaGreatDoorSU7
set_option linter.all false
set_option maxHeartbeats 100000000
namespace Go.Proofs.YtkmfigmiehpcpaaGreatDoor
open Go.ChangeShapes Go.WideShapes Go.ChangeAt Go.RowKit Go.Joins Go.Deep
set_option maxRecDepth 100000 in
theorem nU (os:Os)(started:os.Started)(H:Type)(enc:TypeId×Value->H) :
 ReturnsInHanded {} Tryz.checked os 3 .any (fun w args=>(Rows.worksShopsSpec.pre enc Tryz.prog Tryz.f3 [] false w args∧laidMetH Tryz.prog Rows.worksShopsRow.laid w)∧sizedMet enc Tryz.prog Tryz.f3 (OpenSpec.ofChange Rows.worksShopsSpec) false w args)
  (Rows.worksShopsSpec.post enc Tryz.prog Tryz.f3 false true false false):=by
 refine returnsInHanded_of_change_and (C:=Tryz.checked) (X:=fun w _=>laidMetH Tryz.prog Rows.worksShopsRow.laid w) (fun _ _ _ hh h=>h.of_heap hh) own started (by kernel_rfl) Tryz.func3
  (ChangeSpec.witness_shaped (enc:=enc) (C:=Tryz.checked) (os:=os) (X:=fun w _=>laidMetH Tryz.prog Rows.worksShopsRow.laid w) false (World.laidAll Tryz.prog os Rows.worksShopsRow.laid) #[.agg #[.slice none 0 0,.slice none 0 0,.slice none 0 0],.slice none 0 0] 8 (World.laidAll_os _ _ _)
    (World.shaped_of_ZipB (by kernel_rfl) (by kernel_rfl)) (by kernel_rfl) (by kernel_rfl) (by kernel_rfl)
    (by rw[MakeChecks.laidMetH_plain _ _ _ (by kernel_rfl)];exact laidMet_laidAll _ (by kernel_rfl) (by kernel_rfl))) ?_
 intro W base args ds gs before hval0 hW _ _ hL _;have hval:∀ (j:Nat) t v,Tryz.f3.params[j]?=some t->args[j]?=some v->Value.okWide Tryz.prog W .any base t v:=hval0;have hW':=hW;obtain⟨p,q,hA0,hV,rfl,hfz,hnd⟩:=hW;have hA:DataW.TrodAll enc Tryz.prog W 0 (fun _=>true) true Tryz.f3.params.toList args.toList ds p:=hA0;rw[Tryz.params3] at hA hval;have hA:DataW.TrodAll enc Tryz.prog W 0 (fun _=>true) true [25,22] args.toList ds p:=hA;obtain⟨rfl,rfl⟩:=trodVars_none hV;have hlen:=Go.Sv.zFY hA
 obtain⟨d0,d1,rfl⟩:∃ d0 d1,ds=[d0,d1]:=by
  match ds,hlen with
  | [d0,d1],_=>exact⟨d0,d1,rfl⟩
 obtain⟨hs,_,_,h3⟩:=qMK (show laidMetH Tryz.prog q9R W from hL);refine (Go.Sv.Lib.zMJ (gl:=[(5,uZ)]) (k:=10) LAW zDZ (g:=3) (ats:=[((Go.Sv.Ty.list 3 (Go.Sv.Ty.int IntKind.i64)).pair ((Go.Sv.Ty.list 3 (Go.Sv.Ty.int IntKind.i64)).pair (Go.Sv.Ty.list 22 (Go.Sv.Ty.list 3 (Go.Sv.Ty.int IntKind.i64))))),(Go.Sv.Ty.list 3 (Go.Sv.Ty.int IntKind.i64))]) (F:=H4) rfl (fun x _=>zD2 x.1.1 x.1.2.1 x.1.2.2 x.2) (zCY hs h3) (by omega) (n:=6) (is:=[25,22]) (by kernel_rfl) hA (fun j i v h1 h2=>hval j i v (by simpa using h1) h2)).mono fun e W' ⟨he,hb⟩=>?_
 subst he;refine⟨_,rfl,_,_,_,[],p,[],hW',?_,?_,rfl,hb.frame _,fun h=>by cases h⟩
 ·exact trodAll_mk1 (shut_bool Tryz.underlying4 true)
 ·exact Go.Sv.zGI laidOut hb [25,22] _ _ _ (Go.Sv.zHJ (by kernel_rfl)) hA fun x hx=>hW'.lt x (by simp[hx])
theorem zCN {a b:Bool}(h:a=true)(k:b=true):(a&&b)=true:=by rw[h,k];rfl
theorem q8Z:joinedFacts Tryz.prog 3 Tryz.f3 Rows.worksShopsSpec Rows.worksShopsRow=true:=by
 unfold joinedFacts
 repeat' with_reducible apply zCN
 all_goals as_aux_lemma=>kernel_rfl
theorem qAK:Rows.WorksShopsSaid :=
 OpenClaim.holds_of_wide 3 Tryz.f3 rfl rfl rfl rfl rfl rfl rfl ⟨rfl,rfl,rfl,rfl,rfl⟩ rfl rfl rfl rfl rfl (by kernel_rfl) Tryz.func3 q8Z
  (of_decide_eq_true (by kernel_rfl)) (by unfold Func.isWrapper;rw[if_neg (of_decide_eq_false (by kernel_rfl))];exact⟨rfl,rfl⟩)
  (fun os started H enc _=>nU os started H enc)
theorem works_shops:Rows.WorksShopsCardSaid :=
 Claim7.holds_tied_plain_at .later [] [.data,.data,.data,.data,.sentinel,.sentinel,.pinned] true (true, "f81f591c06d290832ef1c3103192a463225f688a4f008fea90de614dc2e001e6") true
  qAK (fun _ h=>by cases h) (by as_aux_lemma=>kernel_rfl) (fun _ h=>by cases h) worksShops_row_tie rfl ⟨rfl,rfl⟩ (by as_aux_lemma=>kernel_rfl) rfl
  (fun f fn hf hfn=>by
    obtain rfl:f=3:=Option.some.inj ((show Tryz.prog.funcNamed "becket/becketlaw09.WorksShops" = some 3 by as_aux_lemma=>kernel_rfl).symm.trans hf) |>.symm
    obtain rfl:fn=Tryz.f3:=(Option.some.inj (Tryz.func3.symm.trans hfn)).symm
    exact⟨by as_aux_lemma=>kernel_rfl,fun j t ht=>by
     rw[Tryz.params3] at ht
     have h3:t=22∨t=25:=by
      rcases j with _ | _ | j <;> simp at ht <;> simp[ht]
     rcases h3 with rfl | rfl
     ·exact (show Tryz.prog.wantsStandIn 22=false by kernel_rfl)
     ·exact (show Tryz.prog.wantsStandIn 25=false by kernel_rfl)⟩)
  (by as_aux_lemma=>kernel_rfl)
#print axioms works_shops
end Go.Proofs.YtkmfigmiehpcpaaGreatDoor
