/- WorksBests: for every input the law returns true; the arguments read behind the call as before. Conditions: none beyond the card's own. -/
import Derived.Test.YtmojbdabaigobaaGreatDoorCW9
import Derived.Test.YtmojbdabaigobaaGreatDoorBU2
set_option linter.all false
set_option maxHeartbeats 100000000
namespace Go.Proofs.YtmojbdabaigobaaGreatDoor
open Go.ChangeShapes Go.WideShapes Go.ChangeAt Go.RowKit Go.Joins Go.Deep
set_option maxRecDepth 100000 in
theorem nC (os:Os)(started:os.Started)(H:Type)(enc:TypeId×Value->H) :
 ReturnsInHanded {} Tryz.checked os 3 .any (fun w args=>(Rows.worksBestsSpec.pre enc Tryz.prog Tryz.f3 [] false w args∧laidMetH Tryz.prog Rows.worksBestsRow.laid w)∧sizedMet enc Tryz.prog Tryz.f3 (OpenSpec.ofChange Rows.worksBestsSpec) false w args)
  (Rows.worksBestsSpec.post enc Tryz.prog Tryz.f3 false true false false):=by
 refine returnsInHanded_of_change_and (C:=Tryz.checked) (X:=fun w _=>laidMetH Tryz.prog Rows.worksBestsRow.laid w) (fun _ _ _ hh h=>h.of_heap hh) own started (by kernel_rfl) Tryz.func3
  (ChangeSpec.witness_shaped (enc:=enc) (C:=Tryz.checked) (os:=os) (X:=fun w _=>laidMetH Tryz.prog Rows.worksBestsRow.laid w) false (World.laidAll Tryz.prog os Rows.worksBestsRow.laid) #[.agg #[.slice none 0 0,.slice none 0 0,.slice none 0 0],.int .i64 0] 8 (World.laidAll_os _ _ _)
    (World.shaped_of_ZipB (by kernel_rfl) (by kernel_rfl)) (by kernel_rfl) (by kernel_rfl) (by kernel_rfl)
    (by rw[MakeChecks.laidMetH_plain _ _ _ (by kernel_rfl)];exact laidMet_laidAll _ (by kernel_rfl) (by kernel_rfl))) ?_
 intro W base args ds gs before hval0 hW _ _ hL _;have hval:∀ (j:Nat) t v,Tryz.f3.params[j]?=some t->args[j]?=some v->Value.okWide Tryz.prog W .any base t v:=hval0;have hW':=hW;obtain⟨p,q,hA0,hV,rfl,hfz,hnd⟩:=hW;have hA:DataW.TrodAll enc Tryz.prog W 0 (fun _=>true) true Tryz.f3.params.toList args.toList ds p:=hA0;rw[Tryz.params3] at hA hval;have hA:DataW.TrodAll enc Tryz.prog W 0 (fun _=>true) true [25,3] args.toList ds p:=hA;obtain⟨rfl,rfl⟩:=trodVars_none hV;have hlen:=Go.Sv.zGI hA
 obtain⟨d0,d1,rfl⟩:∃ d0 d1,ds=[d0,d1]:=by
  match ds,hlen with
  | [d0,d1],_=>exact⟨d0,d1,rfl⟩
 obtain⟨hs,_,_,h3⟩:=qMR (show laidMetH Tryz.prog q9Q W from hL);refine (Go.Sv.Lib.zM4 (gl:=[(5,gK)]) (k:=10) LAW zEP (g:=3) (ats:=[((Go.Sv.Ty.list 3 (Go.Sv.Ty.int IntKind.i64)).pair ((Go.Sv.Ty.list 3 (Go.Sv.Ty.int IntKind.i64)).pair (Go.Sv.Ty.list 22 (Go.Sv.Ty.list 3 (Go.Sv.Ty.int IntKind.i64))))),(Go.Sv.Ty.int IntKind.i64)]) (F:=H7) rfl (fun x _=>zET x.1.1 x.1.2.1 x.1.2.2 x.2) (zDO hs h3) (by omega) (n:=6) (is:=[25,3]) (by kernel_rfl) hA (fun j i v h1 h2=>hval j i v (by simpa using h1) h2)).mono fun e W' ⟨he,hb⟩=>?_
 subst he;refine⟨_,rfl,_,_,_,[],p,[],hW',?_,?_,rfl,hb.frame _,fun h=>by cases h⟩
 ·exact trodAll_mk1 (shut_bool Tryz.underlying4 true)
 ·exact Go.Sv.zG2 laidOut hb [25,3] _ _ _ (Go.Sv.zH4 (by kernel_rfl)) hA fun x hx=>hW'.lt x (by simp[hx])
theorem zC8 {a b:Bool}(h:a=true)(k:b=true):(a&&b)=true:=by rw[h,k];rfl
theorem zBB:joinedFacts Tryz.prog 3 Tryz.f3 Rows.worksBestsSpec Rows.worksBestsRow=true:=by
 unfold joinedFacts
 repeat' with_reducible apply zC8
 all_goals as_aux_lemma=>kernel_rfl
theorem qCK:Rows.WorksBestsSaid :=
 OpenClaim.holds_of_wide 3 Tryz.f3 rfl rfl rfl rfl rfl rfl rfl ⟨rfl,rfl,rfl,rfl,rfl⟩ rfl rfl rfl rfl rfl (by kernel_rfl) Tryz.func3 zBB
  (of_decide_eq_true (by kernel_rfl)) (by unfold Func.isWrapper;rw[if_neg (of_decide_eq_false (by kernel_rfl))];exact⟨rfl,rfl⟩)
  (fun os started H enc _=>nC os started H enc)
theorem works_bests:Rows.WorksBestsCardSaid :=
 Claim7.holds_tied_plain_at .later [] [.data,.data,.data,.data,.sentinel,.sentinel,.pinned] true (true, "fa01a891613460103744858b70bf4370f975c66b0585b18f8687912a2356e22d") true
  qCK (fun _ h=>by cases h) (by as_aux_lemma=>kernel_rfl) (fun _ h=>by cases h) worksBests_row_tie rfl ⟨rfl,rfl⟩ (by as_aux_lemma=>kernel_rfl) rfl
  (fun f fn hf hfn=>by
    obtain rfl:f=3:=Option.some.inj ((show Tryz.prog.funcNamed "becket/becketlaw09.WorksBests" = some 3 by as_aux_lemma=>kernel_rfl).symm.trans hf) |>.symm
    obtain rfl:fn=Tryz.f3:=(Option.some.inj (Tryz.func3.symm.trans hfn)).symm
    exact⟨by as_aux_lemma=>kernel_rfl,fun j t ht=>by
     rw[Tryz.params3] at ht
     have h3:t=3∨t=25:=by
      rcases j with _ | _ | j <;> simp at ht <;> simp[ht]
     rcases h3 with rfl | rfl
     ·exact (show Tryz.prog.wantsStandIn 3=false by kernel_rfl)
     ·exact (show Tryz.prog.wantsStandIn 25=false by kernel_rfl)⟩)
  (by as_aux_lemma=>kernel_rfl)
#print axioms works_bests
end Go.Proofs.YtmojbdabaigobaaGreatDoor
