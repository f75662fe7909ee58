/- DfaSubsets: the statement, as a tied card. -/
import Derived.Test.YtddgppmcbjjliaaGreatDoorTdS
import Derived.Test.YtddgppmcbjjliaaGreatDoorTie
import Derived.Test.YtddgppmcbjjliaaGreatDoorCards
import Derived.SevenTiedAt
set_option linter.all false
namespace Go.Proofs.YtddgppmcbjjliaaGreatDoor
open Go Abs Go.ChangeShapes Go.WideShapes Go.ChangeAt Go.RowKit
set_option maxRecDepth 100000 in
theorem cb8 (os : Os) (started : os.Started) (H : Type) (enc : TypeId × Value → H) :
  ReturnsInHanded {} Tryz.checked os 3 .any (fun w args => (Rows.dfaSubsetsSpec.pre enc Tryz.prog Tryz.f3 [] false w args ∧ laidMetH Tryz.prog ef0 w) ∧ sizedMet enc Tryz.prog Tryz.f3 (OpenSpec.ofChange Rows.dfaSubsetsSpec) false w args)
   (Rows.dfaSubsetsSpec.post enc Tryz.prog Tryz.f3 false true false false) := by
 refine returnsInHanded_of_change_and (C := Tryz.checked) (X := fun w _ => laidMetH Tryz.prog ef0 w) (fun _ _ _ hh h => h.of_heap hh) own started (by kernel_rfl) Tryz.func3
  (ChangeSpec.witness_shaped (enc := enc) (C := Tryz.checked) (os := os) (X := fun w _ => laidMetH Tryz.prog ef0 w) false (World.doorLaid Tryz.prog 400 os) #[.agg #[.slice none 0 0, .slice none 0 0, .slice none 0 0, .slice none 0 0, .slice none 0 0, .int .i64 0]] 8 rfl (World.shaped_of_RefB (by kernel_rfl) (by kernel_rfl)) (by kernel_rfl) (by kernel_rfl) (by kernel_rfl) (ev4 os _)) ?_
 intro W base args ds gs before hval0 hW _ _ hL _
 have hval : ∀ (j : Nat) t v, Tryz.f3.params[j]? = some t → args[j]? = some v → Value.okWide Tryz.prog W .any base t v := hval0
 have hW' := hW
 obtain ⟨p, q, hA0, hV, rfl, hfz, hnd⟩ := hW
 have hA : DataW.TrodAll enc Tryz.prog W 0 (fun _ => true) true Tryz.f3.params.toList args.toList ds p := hA0
 rw [Tryz.params3] at hA hval
 obtain ⟨w0, d0, rfl, rfl, g0⟩ := trodAll_one hA
 obtain ⟨rfl, rfl⟩ := trodVars_none hV
 have k0 := hval 0 27 w0 rfl rfl
 obtain ⟨es0, s0, r0⟩ := eq7 (D := 5) (by kernel_rfl) k0 g0
 obtain ⟨v0, h0, e0⟩ := shNfa s0
 rw [e0] at r0
 refine (dh6 (cc2 v0) (start hL) (by0 r0)).mono fun e W' ⟨he, hg, hb⟩ => ?_
 subst he
 have hlt : ∀ x ∈ p, x.block < W.heap.size := fun x hx => hW'.lt x (by simpa using hx)
 have m := fun (x : MemPlace) (hx : x ∈ p) => hb.same (hlt x hx)
 exact ⟨_, rfl, eb2 (pa := p) (pv := []) hW' (fun _ _ _ => trodAll_mk1 (shut_bool Tryz.underlying4 _)) (fun sp hsp => by
   have hin : ∀ x ∈ p, sp x.block = true := fun x hx => hsp x (by simpa using hx)
   rw [Tryz.params3]
   exact trodAll_mk1 (WideElems.Trod_stays fc6 (by kernel_rfl) (of_decide_eq_true (by kernel_rfl)) g0 (fun x hx => m x (by simp [hx])) fun x hx => hin x (by simp [hx]))) (fun _ _ => rfl) (by simp) (hg.but _) hg.froz (ok_one (by kernel_rfl) rfl (okWide_bool_mk Tryz.underlying4 _))⟩
theorem ch8 : Rows.DfaSubsetsSaid :=
 OpenClaim.holds_of_wide 3 Tryz.f3 rfl rfl rfl rfl rfl rfl rfl ⟨rfl, rfl, rfl, rfl, rfl⟩ rfl rfl rfl rfl rfl (by kernel_rfl) Tryz.func3 (by kernel_rfl)
  (of_decide_eq_true (by kernel_rfl)) (by unfold Func.isWrapper; first | (rw [if_pos (by decide +kernel)]; kernel_rfl) | (rw [if_neg (by decide +kernel)]; exact ⟨rfl, rfl⟩))
  (fun os started H enc _ => cb8 os started H enc)
theorem proved : Rows.DfaSubsetsCardSaid :=
 Claim7.holds_tied_plain_at .later [] [.data] true (true, "3fd8ba0d5526893f85207cb267b60c25ea8badae4dec50ddd749aca4b027a746") false
  ch8 (fun _ h => by cases h) (by kernel_rfl) (fun _ h => by cases h) dfaSubsets_row_tie rfl ⟨rfl, rfl⟩ (by kernel_rfl) rfl
  (fun f fn hf hfn => by
   obtain rfl : f = 3 := Option.some.inj ((show Tryz.prog.funcNamed "hackle/hacklelaw09.DfaSubsets" = some 3 by kernel_rfl).symm.trans hf) |>.symm
   obtain rfl : fn = Tryz.f3 := (Option.some.inj (Tryz.func3.symm.trans hfn)).symm
   exact ⟨by kernel_rfl, fun j t ht => by
    rw [Tryz.params3] at ht
    have hm : t ∈ [27] := by simpa using Array.mem_of_getElem? ht
    have hall : ([27].all fun u => !Tryz.prog.wantsStandIn u) = true := by kernel_rfl
    exact (show Tryz.prog.wantsStandIn t = false by simpa using List.all_eq_true.1 hall t hm)⟩)
  (by kernel_rfl)
end Go.Proofs.YtddgppmcbjjliaaGreatDoor
