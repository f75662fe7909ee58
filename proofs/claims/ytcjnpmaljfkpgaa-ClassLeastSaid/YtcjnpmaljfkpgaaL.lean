/- ClassLeast: the statement. -/
import Derived.Test.YtcjnpmaljfkpgaaRows
import Derived.Test.YtcjnpmaljfkpgaaB
import Derived.Test.YtcjnpmaljfkpgaaAbsRow
import Derived.WalkKit
import Derived.ProofKit
namespace Go.Proofs.Ytcjnpmaljfkpgaa
open Go Abs Go.ChangeShapes Go.WideShapes Go.ChangeAt Go.RowKit

theorem own : ownKnob Try.prog.godebug = none := by kernel_rfl
theorem laidOut : laidOutB Try.prog = true := by kernel_rfl

theorem hasOk : HasOk Try.prog (fun _ => .undef) 16 .u8 := has_ok b16 b21 b22 b23 b24
theorem refHasOk : HasOk Try.prog (fun _ => .undef) 17 .i64 := refHas_ok b17

set_option linter.unusedVariables false in
theorem least_calls {v : EV} {xs : List (Nat → Nat)} (hv : SliceOf 4 v (xs.map setE)) (hx : ∀ x ∈ xs, Words x) (hlen : xs.length ≤ 9223372036854775807) (of : Nat → Nat) (n : Int) (hof : ∀ b, b < 256 → of b < 256) :
    CallsA Try.prog (fun _ => .undef) 3 [v, classesE of n] [] fun er H' => er = .ret (.bool true) ∧ H' = [] :=
  classLeast_ok b3 (fun H => alive02_ok b5 b13 b20 b6 b15 b14 hasOk H) (fun v xs H h1 h2 h3 => part_ok b6 b15 b14 hasOk h1 h2 h3 H) (fun of n H h => refMay_ok b7 of n h H) (fun of x n H h1 h2 => refWhole_ok b8 refHasOk b7 of x n h1 h2 H)
    hv hx hlen of n hof []

set_option maxRecDepth 100000 in
theorem lifted (os : Os) (started : os.Started) (H : Type) (enc : TypeId × Value → H) :
    ReturnsInHanded {} Try.checked os 3 .any (Rows.classLeastSpec.pre6 enc Try.prog Try.f3 Rows.classLeastRow.domain false) (Rows.classLeastSpec.post enc Try.prog Try.f3 false true false false) := by
  refine returnsInHanded_of_change (C := Try.checked) own started (by kernel_rfl) Try.func3
    (ChangeSpec.witness6 (enc := enc) (C := Try.checked) false ⟨#[], #[.slice none 0 0, .agg ((Array.replicate 256 (.int .u8 0)).push (.int .i64 0))], []⟩ 8 (by kernel_rfl) (by kernel_rfl) (by kernel_rfl) (by kernel_rfl)) ?_
  intro W base args ds gs before hval0 hW hcnd _
  have hval : ∀ (j : Nat) t v, Try.f3.params[j]? = some t → args[j]? = some v → Value.okWide Try.prog W .any base t v := hval0
  have hW' := hW
  obtain ⟨p, q, hA0, hV, rfl, hfz, hnd⟩ := hW
  have hA : DataW.TrodAll enc Try.prog W 0 (fun _ => true) true Try.f3.params.toList args.toList ds p := hA0
  rw [Try.params3] at hA hval
  obtain ⟨v0, v1, d0, d1, p0, p1, rfl, rfl, rfl, h0, h1⟩ := trodAll_two hA
  obtain ⟨rfl, rfl⟩ := trodVars_none hV
  have k0 := hval 0 22 v0 rfl rfl
  have k1 := hval 1 25 v1 rfl rfl
  obtain ⟨es0, s0, r0⟩ := read_arg (D := 5) (by kernel_rfl) k0 h0
  obtain ⟨es1, s1, r1⟩ := read_arg (D := 5) (by kernel_rfl) k1 h1
  obtain ⟨v, xs, rfl, hv, hx, hl⟩ := shape_sets (D := 2) Try.underlying22 (by kernel_rfl) Try.underlying33 Try.underlying31 s0
  obtain ⟨of, n, ho, e1⟩ := shape_classes (D := 2) Try.underlying25 Try.underlying23 Try.underlying5 Try.underlying3 s1
  rw [e1] at r1
  have e0 : packT Try.prog 22 [v] = v := by simp [packT, aggT, Try.underlying22, aggD]
  rw [e0] at r0
  have hlen : xs.length ≤ 9223372036854775807 := hl
  refine (calls_true (least_calls hv hx hlen of n fun b _ => ho b) (rcs_two r0 r1)).mono fun e W' ⟨he, hg, hb⟩ => ?_
  subst he
  have hlt : ∀ x ∈ p0 ++ p1, x.block < W.heap.size := fun x hx => hW'.lt x (by simpa using hx)
  exact ⟨_, rfl, post_of_same (pa := p0 ++ p1) (pv := []) hW' (fun _ _ _ => trodAll_mk1 (shut_bool Try.underlying4 _)) (fun sp hsp => by
      refine trodAll_mk2 (WideElems.Trod_stays laidOut (by kernel_rfl) (of_decide_eq_true (by kernel_rfl)) h0 (fun x hx => hb.same (hlt x (by simp [hx]))) fun x hx => hsp x (by simp [hx]))
        (WideElems.Trod_stays laidOut (by kernel_rfl) (of_decide_eq_true (by kernel_rfl)) h1 (fun x hx => hb.same (hlt x (by simp [hx]))) fun x hx => hsp x (by simp [hx]))) (fun _ _ => rfl) (by simp) (hg.frame _) hg.2.1 (ok_one (by kernel_rfl) rfl (okWide_bool_mk Try.underlying4 _))⟩
theorem proved : Rows.ClassLeastSaid :=
  OpenClaim.holds_of_wide 3 Try.f3 rfl rfl rfl rfl rfl rfl rfl ⟨rfl, rfl, rfl, rfl, rfl⟩ rfl rfl rfl rfl rfl (by kernel_rfl) Try.func3 (by kernel_rfl)
    (of_decide_eq_true (by kernel_rfl)) (by unfold Func.isWrapper; first | (rw [if_pos (by decide +kernel)]; kernel_rfl) | (rw [if_neg (by decide +kernel)]; exact ⟨rfl, rfl⟩))
    (fun os started H enc _ => lifted os started H enc)

end Go.Proofs.Ytcjnpmaljfkpgaa
