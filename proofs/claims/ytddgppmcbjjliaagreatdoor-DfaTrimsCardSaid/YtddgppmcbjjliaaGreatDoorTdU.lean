/- DfaTrims: the statement, as a tied card. -/
import Derived.Test.YtddgppmcbjjliaaGreatDoorTdS
import Derived.Test.YtddgppmcbjjliaaGreatDoorTie
import Derived.Test.YtddgppmcbjjliaaGreatDoorCards
import Derived.SevenTiedAt
set_option linter.all false
namespace Go.Proofs.YtddgppmcbjjliaaGreatDoor
open Go Abs Go.ChangeShapes Go.WideShapes Go.ChangeAt Go.RowKit
set_option maxRecDepth 100000 in
theorem liftedDfaTrims (os : Os) (started : os.Started) (H : Type) (enc : TypeId × Value → H) :
    ReturnsInHanded {} Tryz.checked os 4 .any (fun w args => (Rows.dfaTrimsSpec.pre enc Tryz.prog Tryz.f4 [] false w args ∧ laidMetH Tryz.prog laidL w) ∧ sizedMet enc Tryz.prog Tryz.f4 (OpenSpec.ofChange Rows.dfaTrimsSpec) false w args)
      (Rows.dfaTrimsSpec.post enc Tryz.prog Tryz.f4 false true false false) := by
  refine returnsInHanded_of_change_and (C := Tryz.checked) (X := fun w _ => laidMetH Tryz.prog laidL w) (fun _ _ _ hh h => h.of_heap hh) own started (by kernel_rfl) Tryz.func4
    (ChangeSpec.witness_shaped (enc := enc) (C := Tryz.checked) (os := os) (X := fun w _ => laidMetH Tryz.prog laidL w) false (World.doorLaid Tryz.prog 400 os) #[.agg ((Array.replicate 256 (.int .u8 0)) ++ #[.int .i64 0, .slice none 0 0, .slice none 0 0]), .string ⟨#[]⟩] 8 rfl (World.shaped_of_RefB (by kernel_rfl) (by kernel_rfl)) (by kernel_rfl) (by kernel_rfl) (by kernel_rfl) (door_met os _)) ?_
  intro W base args ds gs before hval0 hW _ _ hL _
  have hval : ∀ (j : Nat) t v, Tryz.f4.params[j]? = some t → args[j]? = some v → Value.okWide Tryz.prog W .any base t v := hval0
  have hW' := hW
  obtain ⟨p, q, hA0, hV, rfl, hfz, hnd⟩ := hW
  have hA : DataW.TrodAll enc Tryz.prog W 0 (fun _ => true) true Tryz.f4.params.toList args.toList ds p := hA0
  rw [Tryz.params4] at hA hval
  obtain ⟨w0, w1, d0, d1, p0, p1, rfl, rfl, rfl, g0, g1⟩ := trodAll_two hA
  obtain ⟨rfl, rfl⟩ := trodVars_none hV
  have k0 := hval 0 44 w0 rfl rfl
  obtain ⟨es0, s0, r0⟩ := read_arg (D := 5) (by kernel_rfl) k0 g0
  obtain ⟨v0, h0, e0⟩ := shDfa s0
  rw [e0] at r0
  have k1 := hval 1 9 w1 rfl rfl
  obtain ⟨es1, s1, r1⟩ := read_arg (D := 5) (by kernel_rfl) k1 g1
  obtain ⟨v1, h1, e1⟩ := shape_str (D := 4) Tryz.underlying9 s1
  rw [e1] at r1
  refine (calls_true2 (dfaTrims_calls v0 v1 h1) (start hL) (rcs_two r0 r1)).mono fun e W' ⟨he, hg, hb⟩ => ?_
  subst he
  have hlt : ∀ x ∈ p0 ++ p1, x.block < W.heap.size := fun x hx => hW'.lt x (by simpa using hx)
  have m := fun (x : MemPlace) (hx : x ∈ p0 ++ p1) => hb.same (hlt x hx)
  exact ⟨_, rfl, post_same (pa := p0 ++ p1) (pv := []) hW' (fun _ _ _ => trodAll_mk1 (shut_bool Tryz.underlying4 _)) (fun sp hsp => by
      have hin : ∀ x ∈ p0 ++ p1, sp x.block = true := fun x hx => hsp x (by simpa using hx)
      rw [Tryz.params4]
      exact trodAll_mk2 (WideElems.Trod_stays laidOut (by kernel_rfl) (of_decide_eq_true (by kernel_rfl)) g0 (fun x hx => m x (by simp [hx])) fun x hx => hin x (by simp [hx])) (WideElems.Trod_stays laidOut (by kernel_rfl) (of_decide_eq_true (by kernel_rfl)) g1 (fun x hx => m x (by simp [hx])) fun x hx => hin x (by simp [hx]))) (fun _ _ => rfl) (by simp) (hg.but _) hg.froz (ok_one (by kernel_rfl) rfl (okWide_bool_mk Tryz.underlying4 _))⟩
theorem holdsDfaTrims : Rows.DfaTrimsSaid :=
  OpenClaim.holds_of_wide 4 Tryz.f4 rfl rfl rfl rfl rfl rfl rfl ⟨rfl, rfl, rfl, rfl, rfl⟩ rfl rfl rfl rfl rfl (by kernel_rfl) Tryz.func4 (by kernel_rfl)
    (of_decide_eq_true (by kernel_rfl)) (by unfold Func.isWrapper; first | (rw [if_pos (by decide +kernel)]; kernel_rfl) | (rw [if_neg (by decide +kernel)]; exact ⟨rfl, rfl⟩))
    (fun os started H enc _ => liftedDfaTrims os started H enc)
theorem proved : Rows.DfaTrimsCardSaid :=
  Claim7.holds_tied_plain_at .later [] [.data] true (true, "3fd8ba0d5526893f85207cb267b60c25ea8badae4dec50ddd749aca4b027a746") false
    holdsDfaTrims (fun _ h => by cases h) (by kernel_rfl) (fun _ h => by cases h) dfaTrims_row_tie rfl ⟨rfl, rfl⟩ (by kernel_rfl) rfl
    (fun f fn hf hfn => by
      obtain rfl : f = 4 := Option.some.inj ((show Tryz.prog.funcNamed "hackle/hacklelaw09.DfaTrims" = some 4 by kernel_rfl).symm.trans hf) |>.symm
      obtain rfl : fn = Tryz.f4 := (Option.some.inj (Tryz.func4.symm.trans hfn)).symm
      exact ⟨by kernel_rfl, fun j t ht => by
        rw [Tryz.params4] at ht
        have hm : t ∈ [44, 9] := by simpa using Array.mem_of_getElem? ht
        have hall : ([44, 9].all fun u => !Tryz.prog.wantsStandIn u) = true := by kernel_rfl
        exact (show Tryz.prog.wantsStandIn t = false by simpa using List.all_eq_true.1 hall t hm)⟩)
    (by kernel_rfl)
end Go.Proofs.YtddgppmcbjjliaaGreatDoor
