/- OctsMakes: the statement, as a tied card. -/
import Derived.Test.YtcjnpmaljfkpgaaDoorS
import Derived.Test.YtcjnpmaljfkpgaaDoorTie
import Derived.Test.YtcjnpmaljfkpgaaDoorCards
import Derived.SevenTiedAt
namespace Go.Proofs.YtcjnpmaljfkpgaaDoor
open Go Abs Go.ChangeShapes Go.WideShapes Go.ChangeAt Go.RowKit

set_option maxRecDepth 100000 in
theorem liftedM (os : Os) (started : os.Started) (H : Type) (enc : TypeId × Value → H) :
    ReturnsInHanded {} Tryd.checked os 3 .any (fun w args => (Rows.octsMakesSpec.pre enc Tryd.prog Tryd.f3 [] false w args ∧ laidMetH Tryd.prog laidL w) ∧ sizedMet enc Tryd.prog Tryd.f3 (OpenSpec.ofChange Rows.octsMakesSpec) false w args)
      (Rows.octsMakesSpec.post enc Tryd.prog Tryd.f3 false true false false) := by
  refine returnsInHanded_of_change_and (C := Tryd.checked) (X := fun w _ => laidMetH Tryd.prog laidL w) (fun _ _ _ hh h => h.of_heap hh) own started (by kernel_rfl) Tryd.func3
    (ChangeSpec.witness_shaped (enc := enc) (C := Tryd.checked) (os := os) (X := fun w _ => laidMetH Tryd.prog laidL w) false (World.doorLaid Tryd.prog 400 os) #[.slice none 0 0, .int .u8 0, .int .u8 0] 8 rfl (World.shaped_of_RefB (by kernel_rfl) (by kernel_rfl)) (by kernel_rfl) (by kernel_rfl) (by kernel_rfl) (door_met os _)) ?_
  intro W base args ds gs before hval0 hW _ _ hL _
  have hval : ∀ (j : Nat) t v, Tryd.f3.params[j]? = some t → args[j]? = some v → Value.okWide Tryd.prog W .any base t v := hval0
  have hW' := hW
  obtain ⟨p, q, hA0, hV, rfl, hfz, hnd⟩ := hW
  have hA : DataW.TrodAll enc Tryd.prog W 0 (fun _ => true) true Tryd.f3.params.toList args.toList ds p := hA0
  rw [Tryd.params3] at hA hval
  obtain ⟨v0, v1, v2, d0, d1, d2, p0, p1, p2, rfl, rfl, rfl, h0, h1, h2⟩ := trodAll_three hA
  obtain ⟨rfl, rfl⟩ := trodVars_none hV
  have k0 := hval 0 22 v0 rfl rfl
  have k1 := hval 1 5 v1 rfl rfl
  have k2 := hval 2 5 v2 rfl rfl
  obtain ⟨es0, s0, r0⟩ := read_arg (D := 3) (by kernel_rfl) k0 h0
  obtain ⟨es1, s1, r1⟩ := read_arg (D := 3) (by kernel_rfl) k1 h1
  obtain ⟨es2, s2, r2⟩ := read_arg (D := 3) (by kernel_rfl) k2 h2
  obtain ⟨v, bs, rfl, hv, h8, hl⟩ := shape_bytes (D := 1) Tryd.underlying22 (by kernel_rfl) Tryd.underlying5 s0
  obtain ⟨lo, hlo, e1⟩ := shape_u8 (D := 2) Tryd.underlying5 s1
  obtain ⟨hi, hhi, e2⟩ := shape_u8 (D := 2) Tryd.underlying5 s2
  rw [e1] at r1
  rw [e2] at r2
  have e0 : packT Tryd.prog 22 [v] = v := by simp [packT, aggT, Tryd.underlying22, aggD]
  rw [e0] at r0
  have hlen : bs.length ≤ 9223372036854775807 := hl
  refine (calls_true2 (octsMakes_ok b3 alive b13 b15 b12 b14 hv h8 hlen lo hi hlo hhi []) (start hL) (rcs_three r0 r1 r2)).mono fun e W' ⟨he, hg, hb⟩ => ?_
  subst he
  have hlt : ∀ x ∈ p0 ++ p1 ++ p2, x.block < W.heap.size := fun x hx => hW'.lt x (by simpa using hx)
  exact ⟨_, rfl, post_same (pa := p0 ++ p1 ++ p2) (pv := []) hW' (fun _ _ _ => trodAll_mk1 (shut_bool Tryd.underlying4 _)) (fun sp hsp => by
      have hin : ∀ x ∈ p0 ++ p1 ++ p2, sp x.block = true := fun x hx => hsp x (by simpa using hx)
      have m := fun (x : MemPlace) (hx : x ∈ p0 ++ p1 ++ p2) => hb.same (hlt x hx)
      rw [Tryd.params3]
      refine ⟨p0, p1 ++ p2, WideElems.Trod_stays laidOut (by kernel_rfl) (of_decide_eq_true (by kernel_rfl)) h0 (fun x hx => m x (by simp [hx])) fun x hx => hin x (by simp [hx]),
        trodAll_mk2 (WideElems.Trod_stays laidOut (by kernel_rfl) (of_decide_eq_true (by kernel_rfl)) h1 (fun x hx => m x (by simp [hx])) fun x hx => hin x (by simp [hx]))
          (WideElems.Trod_stays laidOut (by kernel_rfl) (of_decide_eq_true (by kernel_rfl)) h2 (fun x hx => m x (by simp [hx])) fun x hx => hin x (by simp [hx])), by simp⟩) (fun _ _ => rfl) (by simp) (hg.but _) hg.froz (ok_one (by kernel_rfl) rfl (okWide_bool_mk Tryd.underlying4 _))⟩

theorem holdsM : Rows.OctsMakesSaid :=
  OpenClaim.holds_of_wide 3 Tryd.f3 rfl rfl rfl rfl rfl rfl rfl ⟨rfl, rfl, rfl, rfl, rfl⟩ rfl rfl rfl rfl rfl (by kernel_rfl) Tryd.func3 (by kernel_rfl)
    (of_decide_eq_true (by kernel_rfl)) (by unfold Func.isWrapper; first | (rw [if_pos (by decide +kernel)]; kernel_rfl) | (rw [if_neg (by decide +kernel)]; exact ⟨rfl, rfl⟩))
    (fun os started H enc _ => liftedM os started H enc)

theorem proved : Rows.OctsMakesCardSaid :=
  Claim7.holds_tied_plain_at .later [] [.data] true (true, "166bec2353e91d9e5c2cb85dd0d1e3ac186c5de888a54bb1df2e2c1a9346fd04") false
    holdsM (fun _ h => by cases h) (by kernel_rfl) (fun _ h => by cases h) octsMakes_row_tie rfl ⟨rfl, rfl⟩ (by kernel_rfl) rfl
    (fun f fn hf hfn => by
      obtain rfl : f = 3 := Option.some.inj ((show Tryd.prog.funcNamed "hackle/hacklelaw01.OctsMakes" = some 3 by kernel_rfl).symm.trans hf) |>.symm
      obtain rfl : fn = Tryd.f3 := (Option.some.inj (Tryd.func3.symm.trans hfn)).symm
      exact ⟨by kernel_rfl, fun j t ht => by
        rw [Tryd.params3] at ht
        have hm : t ∈ [22, 5, 5] := by simpa using Array.mem_of_getElem? ht
        have hall : ([22, 5, 5].all fun u => !Tryd.prog.wantsStandIn u) = true := by kernel_rfl
        exact (show Tryd.prog.wantsStandIn t = false by simpa using List.all_eq_true.1 hall t hm)⟩)
    (by kernel_rfl)

end Go.Proofs.YtcjnpmaljfkpgaaDoor
