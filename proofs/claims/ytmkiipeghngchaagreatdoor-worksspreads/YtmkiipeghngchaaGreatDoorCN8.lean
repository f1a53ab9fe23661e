/- WorksSpreads: for every input the law returns true; the arguments read behind the call as before. Conditions: none beyond the card's own. -/
import Derived.Test.YtmkiipeghngchaaGreatDoorCW9
import Derived.Test.YtmkiipeghngchaaGreatDoorPV3
set_option linter.all false
set_option maxHeartbeats 100000000
namespace Go.Proofs.YtmkiipeghngchaaGreatDoor
open Go.ChangeShapes Go.WideShapes Go.ChangeAt Go.RowKit Go.Joins Go.Deep
set_option maxRecDepth 100000 in
theorem eG (os:Os)(started:os.Started)(H:Type)(enc:TypeId×Value->H) :
 ReturnsInHanded {} Tryz.checked os 8 .any (fun w args=>(Rows.worksSpreadsSpec.pre enc Tryz.prog Tryz.f8 [] false w args∧laidMetH Tryz.prog Rows.worksSpreadsRow.laid w)∧sizedMet enc Tryz.prog Tryz.f8 (OpenSpec.ofChange Rows.worksSpreadsSpec) false w args)
  (Rows.worksSpreadsSpec.post enc Tryz.prog Tryz.f8 false true false false):=by
 refine returnsInHanded_of_change_and (C:=Tryz.checked) (X:=fun w _=>laidMetH Tryz.prog Rows.worksSpreadsRow.laid w) (fun _ _ _ hh h=>h.of_heap hh) own started (by kernel_rfl) Tryz.func8
  (ChangeSpec.witness_shaped (enc:=enc) (C:=Tryz.checked) (os:=os) (X:=fun w _=>laidMetH Tryz.prog Rows.worksSpreadsRow.laid w) false (World.laidAll Tryz.prog os Rows.worksSpreadsRow.laid) #[.slice none 0 0,.int .i64 0,.slice none 0 0] 8 (World.laidAll_os _ _ _)
    (World.shaped_of_ZipB (by kernel_rfl) (by kernel_rfl)) (by kernel_rfl) (by kernel_rfl) (by kernel_rfl)
    (by rw[MakeChecks.laidMetH_plain _ _ _ (by kernel_rfl)];exact laidMet_laidAll _ (by kernel_rfl) (by kernel_rfl))) ?_
 intro W base args ds gs before hval0 hW _ _ hL _;have hval:∀ (j:Nat) t v,Tryz.f8.params[j]?=some t->args[j]?=some v->Value.okWide Tryz.prog W .any base t v:=hval0;have hW':=hW;obtain⟨p,q,hA0,hV,rfl,hfz,hnd⟩:=hW;have hA:DataW.TrodAll enc Tryz.prog W 0 (fun _=>true) true Tryz.f8.params.toList args.toList ds p:=hA0;rw[Tryz.params8] at hA hval;have hA:DataW.TrodAll enc Tryz.prog W 0 (fun _=>true) true [22,3,22] args.toList ds p:=hA;obtain⟨rfl,rfl⟩:=trodVars_none hV;have hlen:=Go.Sv.zGY hA
 obtain⟨d0,d1,d2,rfl⟩:∃ d0 d1 d2,ds=[d0,d1,d2]:=by
  match ds,hlen with
  | [d0,d1,d2],_=>exact⟨d0,d1,d2,rfl⟩
 obtain⟨hs,_,_,h3⟩:=qOP (show laidMetH Tryz.prog q9M W from hL);refine (Go.Sv.Lib.zNK (gl:=[(5,gL)]) (k:=10) LAW zE2 (g:=8) (ats:=[(Go.Sv.Ty.list 3 (Go.Sv.Ty.int IntKind.i64)),(Go.Sv.Ty.int IntKind.i64),(Go.Sv.Ty.list 3 (Go.Sv.Ty.int IntKind.i64))]) (F:=H8) rfl (fun x _=>zE3 x.1 x.2.1 x.2.2) (zDM hs h3) (by omega) (n:=6) (is:=[22,3,22]) (by kernel_rfl) hA (fun j i v h1 h2=>hval j i v (by simpa using h1) h2)).mono fun e W' ⟨he,hb⟩=>?_
 subst he;refine⟨_,rfl,_,_,_,[],p,[],hW',?_,?_,rfl,hb.frame _,fun h=>by cases h⟩
 ·exact trodAll_mk1 (shut_bool Tryz.underlying4 true)
 ·exact Go.Sv.zHJ laidOut hb [22,3,22] _ _ _ (Go.Sv.zIL (by kernel_rfl)) hA fun x hx=>hW'.lt x (by simp[hx])
theorem zC9 {a b:Bool}(h:a=true)(k:b=true):(a&&b)=true:=by rw[h,k];rfl
theorem zB5:joinedFacts Tryz.prog 8 Tryz.f8 Rows.worksSpreadsSpec Rows.worksSpreadsRow=true:=by
 unfold joinedFacts
 repeat' with_reducible apply zC9
 all_goals as_aux_lemma=>kernel_rfl
theorem sS:Rows.WorksSpreadsSaid :=
 OpenClaim.holds_of_wide 8 Tryz.f8 rfl rfl rfl rfl rfl rfl rfl ⟨rfl,rfl,rfl,rfl,rfl⟩ rfl rfl rfl rfl rfl (by kernel_rfl) Tryz.func8 zB5
  (of_decide_eq_true (by kernel_rfl)) (by unfold Func.isWrapper;rw[if_neg (of_decide_eq_false (by kernel_rfl))];exact⟨rfl,rfl⟩)
  (fun os started H enc _=>eG os started H enc)
theorem works_spreads:Rows.WorksSpreadsCardSaid :=
 Claim7.holds_tied_plain_at .later [] [.data,.data,.data,.data,.sentinel,.sentinel,.pinned] true (true, "431cc6411de75b26e0b7f0409b017e58d92c315387fe7908564893b2b2c35668") true
  sS (fun _ h=>by cases h) (by as_aux_lemma=>kernel_rfl) (fun _ h=>by cases h) worksSpreads_row_tie rfl ⟨rfl,rfl⟩ (by as_aux_lemma=>kernel_rfl) rfl
  (fun f fn hf hfn=>by
    obtain rfl:f=8:=Option.some.inj ((show Tryz.prog.funcNamed "becket/becketlaw09.WorksSpreads" = some 8 by as_aux_lemma=>kernel_rfl).symm.trans hf) |>.symm
    obtain rfl:fn=Tryz.f8:=(Option.some.inj (Tryz.func8.symm.trans hfn)).symm
    exact⟨by as_aux_lemma=>kernel_rfl,fun j t ht=>by
     rw[Tryz.params8] at ht
     have h3:t=3∨t=22:=by
      rcases j with _ | _ | _ | j <;> simp at ht <;> simp[ht]
     rcases h3 with rfl | rfl
     ·exact (show Tryz.prog.wantsStandIn 3=false by kernel_rfl)
     ·exact (show Tryz.prog.wantsStandIn 22=false by kernel_rfl)⟩)
  (by as_aux_lemma=>kernel_rfl)
#print axioms works_spreads
end Go.Proofs.YtmkiipeghngchaaGreatDoor
