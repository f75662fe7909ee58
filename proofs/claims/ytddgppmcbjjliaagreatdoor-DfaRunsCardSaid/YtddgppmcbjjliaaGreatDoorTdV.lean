/- DfaRuns: the statement, as a tied card. -/
import Derived.Test.YtddgppmcbjjliaaGreatDoorTdS
import Derived.Test.YtddgppmcbjjliaaGreatDoorTie
import Derived.Test.YtddgppmcbjjliaaGreatDoorCards
import Derived.SevenTiedAt
set_option linter.all false
namespace Go.Proofs.YtddgppmcbjjliaaGreatDoor
open Go Abs Go.ChangeShapes Go.WideShapes Go.ChangeAt Go.RowKit
set_option maxRecDepth 100000 in
theorem liftedDfaRuns (os : Os) (started : os.Started) (H : Type) (enc : TypeId × Value → H) :
  ReturnsInHanded {} Tryz.checked os 5 .any (fun w args => (Rows.dfaRunsSpec.pre enc Tryz.prog Tryz.f5 [] false w args ∧ laidMetH Tryz.prog laidL w) ∧ sizedMet enc Tryz.prog Tryz.f5 (OpenSpec.ofChange Rows.dfaRunsSpec) false w args)
   (Rows.dfaRunsSpec.post enc Tryz.prog Tryz.f5 false true false false) := by
 refine returnsInHanded_of_change_and (C := Tryz.checked) (X := fun w _ => laidMetH Tryz.prog laidL w) (fun _ _ _ hh h => h.of_heap hh) own started (by kernel_rfl) Tryz.func5
  (ChangeSpec.witness_shaped (enc := enc) (C := Tryz.checked) (os := os) (X := fun w _ => laidMetH Tryz.prog laidL w) false (World.doorLaid Tryz.prog 400 os) #[.agg ((Array.replicate 256 (.int .u8 0)) ++ #[.int .i64 0, .slice none 0 0, .slice none 0 0]), .int .i64 0, .string ⟨#[]⟩] 8 rfl (World.shaped_of_RefB (by kernel_rfl) (by kernel_rfl)) (by kernel_rfl) (by kernel_rfl) (by kernel_rfl) (door_met os _)) ?_
 intro W base args ds gs before hval0 hW _ _ hL _
 have hval : ∀ (j : Nat) t v, Tryz.f5.params[j]? = some t → args[j]? = some v → Value.okWide Tryz.prog W .any base t v := hval0
 have hW' := hW
 obtain ⟨p, q, hA0, hV, rfl, hfz, hnd⟩ := hW
 have hA : DataW.TrodAll enc Tryz.prog W 0 (fun _ => true) true Tryz.f5.params.toList args.toList ds p := hA0
 rw [Tryz.params5] at hA hval
 obtain ⟨w0, w1, w2, d0, d1, d2, p0, p1, p2, rfl, rfl, rfl, g0, g1, g2⟩ := trodAll_three hA
 obtain ⟨rfl, rfl⟩ := trodVars_none hV
 have k0 := hval 0 44 w0 rfl rfl
 obtain ⟨es0, s0, r0⟩ := read_arg (D := 5) (by kernel_rfl) k0 g0
 obtain ⟨v0, h0, e0⟩ := shDfa s0
 rw [e0] at r0
 have k1 := hval 1 3 w1 rfl rfl
 obtain ⟨es1, s1, r1⟩ := read_arg (D := 5) (by kernel_rfl) k1 g1
 obtain ⟨v1, h1, hh1, e1⟩ := shape_i64 (D := 4) Tryz.underlying3 s1
 rw [e1] at r1
 have k2 := hval 2 9 w2 rfl rfl
 obtain ⟨es2, s2, r2⟩ := read_arg (D := 5) (by kernel_rfl) k2 g2
 obtain ⟨v2, h2, e2⟩ := shape_str (D := 4) Tryz.underlying9 s2
 rw [e2] at r2
 refine (calls_true2 (dfaRuns_calls v0 v1 v2 h2) (start hL) (rcs_three r0 r1 r2)).mono fun e W' ⟨he, hg, hb⟩ => ?_
 subst he
 have hlt : ∀ x ∈ p0 ++ p1 ++ p2, x.block < W.heap.size := fun x hx => hW'.lt x (by simpa using hx)
 have m := fun (x : MemPlace) (hx : x ∈ p0 ++ p1 ++ p2) => hb.same (hlt x hx)
 exact ⟨_, rfl, post_same (pa := p0 ++ p1 ++ p2) (pv := []) hW' (fun _ _ _ => trodAll_mk1 (shut_bool Tryz.underlying4 _)) (fun sp hsp => by
   have hin : ∀ x ∈ p0 ++ p1 ++ p2, sp x.block = true := fun x hx => hsp x (by simpa using hx)
   rw [Tryz.params5]
   exact ⟨p0, p1 ++ p2, (WideElems.Trod_stays laidOut (by kernel_rfl) (of_decide_eq_true (by kernel_rfl)) g0 (fun x hx => m x (by simp [hx])) fun x hx => hin x (by simp [hx])), trodAll_mk2 (WideElems.Trod_stays laidOut (by kernel_rfl) (of_decide_eq_true (by kernel_rfl)) g1 (fun x hx => m x (by simp [hx])) fun x hx => hin x (by simp [hx])) (WideElems.Trod_stays laidOut (by kernel_rfl) (of_decide_eq_true (by kernel_rfl)) g2 (fun x hx => m x (by simp [hx])) fun x hx => hin x (by simp [hx])), by simp⟩) (fun _ _ => rfl) (by simp) (hg.but _) hg.froz (ok_one (by kernel_rfl) rfl (okWide_bool_mk Tryz.underlying4 _))⟩
theorem holdsDfaRuns : Rows.DfaRunsSaid :=
 OpenClaim.holds_of_wide 5 Tryz.f5 rfl rfl rfl rfl rfl rfl rfl ⟨rfl, rfl, rfl, rfl, rfl⟩ rfl rfl rfl rfl rfl (by kernel_rfl) Tryz.func5 (by kernel_rfl)
  (of_decide_eq_true (by kernel_rfl)) (by unfold Func.isWrapper; first | (rw [if_pos (by decide +kernel)]; kernel_rfl) | (rw [if_neg (by decide +kernel)]; exact ⟨rfl, rfl⟩))
  (fun os started H enc _ => liftedDfaRuns os started H enc)
theorem proved : Rows.DfaRunsCardSaid :=
 Claim7.holds_tied_plain_at .later [] [.data] true (true, "3fd8ba0d5526893f85207cb267b60c25ea8badae4dec50ddd749aca4b027a746") false
  holdsDfaRuns (fun _ h => by cases h) (by kernel_rfl) (fun _ h => by cases h) dfaRuns_row_tie rfl ⟨rfl, rfl⟩ (by kernel_rfl) rfl
  (fun f fn hf hfn => by
   obtain rfl : f = 5 := Option.some.inj ((show Tryz.prog.funcNamed "hackle/hacklelaw09.DfaRuns" = some 5 by kernel_rfl).symm.trans hf) |>.symm
   obtain rfl : fn = Tryz.f5 := (Option.some.inj (Tryz.func5.symm.trans hfn)).symm
   exact ⟨by kernel_rfl, fun j t ht => by
    rw [Tryz.params5] at ht
    have hm : t ∈ [44, 3, 9] := by simpa using Array.mem_of_getElem? ht
    have hall : ([44, 3, 9].all fun u => !Tryz.prog.wantsStandIn u) = true := by kernel_rfl
    exact (show Tryz.prog.wantsStandIn t = false by simpa using List.all_eq_true.1 hall t hm)⟩)
  (by kernel_rfl)
end Go.Proofs.YtddgppmcbjjliaaGreatDoor
