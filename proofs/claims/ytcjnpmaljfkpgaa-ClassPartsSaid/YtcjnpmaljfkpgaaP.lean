/- ClassParts: the statement. -/
import Derived.Test.YtcjnpmaljfkpgaaRows
import Derived.Test.YtcjnpmaljfkpgaaB
import Derived.Test.YtcjnpmaljfkpgaaAbsRow
import Derived.Test.YtcjnpmaljfkpgaaClassM
import Derived.WalkKit
import Derived.ProofKit
namespace Go.Proofs.Ytcjnpmaljfkpgaa
open Go Abs Go.ChangeShapes Go.WideShapes Go.ChangeAt Go.RowKit

theorem own : ownKnob Try.prog.godebug = none := by kernel_rfl
theorem laidOut : laidOutB Try.prog = true := by kernel_rfl

theorem hasOk : HasOk Try.prog (fun _ => .undef) 16 .u8 := has_ok b16 b21 b22 b23 b24
theorem refHasOk : HasOk Try.prog (fun _ => .undef) 17 .i64 := refHas_ok b17

theorem may_c {f fc fr : FuncId} (hb : Body Try.prog f (class_May fc fr) class_May_r 7) (hc : Body Try.prog fc class_May_c1 class_May_c1_r 10) (hr : Body Try.prog fr class_renamed class_renamed_r 40) (of : Nat → Nat) (n : Int) (H : Heap) (hof : ∀ b, b < 256 → of b < 256) :
    CallsA Try.prog (fun _ => .undef) f [classesE of n] H fun er H' => er = .ret (.bool (classMay of n)) ∧ H' = H := may_ok hb hc hr of n hof H

theorem parts_calls {v : EV} {xs : List (Nat → Nat)} (hv : SliceOf 4 v (xs.map setE)) (hx : ∀ x ∈ xs, Words x) (hlen : xs.length ≤ 9223372036854775807) :
    CallsA Try.prog (fun _ => .undef) 4 [v] [] fun er H' => er = .ret (.bool true) ∧ H' = [] :=
  classParts_ok b4 (fun H => alive02_ok b5 b13 b20 b6 b15 b14 hasOk H) (fun of n H => plain02_ok b9 of n H)
    (fun _ _ H h1 h2 h3 => part_ok b6 b15 b14 hasOk h1 h2 h3 H)
    (fun v _ H h1 h2 h3 => refPart_ok b10 (fun a b H ha hb => alike_ok b18 refHasOk h1 h2 h3 a b ha hb H) (fun n => EV.ok_mono (Nat.zero_le n) v h1.ok) H)
    (fun of n H h => may_c b11 b19 b14 of n H h) (fun of x n H h1 h2 => whole_ok b12 (fun of n H h => may_c b11 b19 b14 of n H h) hasOk of x n h1 h2 H)
    hv hx hlen []

set_option maxRecDepth 100000 in
theorem lifted (os : Os) (started : os.Started) (H : Type) (enc : TypeId × Value → H) :
    ReturnsInHanded {} Try.checked os 4 .any (Rows.classPartsSpec.pre6 enc Try.prog Try.f4 Rows.classPartsRow.domain false) (Rows.classPartsSpec.post enc Try.prog Try.f4 false true false false) := by
  refine returnsInHanded_of_change (C := Try.checked) own started (by kernel_rfl) Try.func4
    (ChangeSpec.witness6 (enc := enc) (C := Try.checked) false ⟨#[], #[.slice none 0 0], []⟩ 8 (by kernel_rfl) (by kernel_rfl) (by kernel_rfl) (by kernel_rfl)) ?_
  intro W base args ds gs before hval0 hW hcnd _
  have hval : ∀ (j : Nat) t v, Try.f4.params[j]? = some t → args[j]? = some v → Value.okWide Try.prog W .any base t v := hval0
  have hW' := hW
  obtain ⟨p, q, hA0, hV, rfl, hfz, hnd⟩ := hW
  have hA : DataW.TrodAll enc Try.prog W 0 (fun _ => true) true Try.f4.params.toList args.toList ds p := hA0
  rw [Try.params4] at hA hval
  obtain ⟨v0, d0, rfl, rfl, h0⟩ := trodAll_one hA
  obtain ⟨rfl, rfl⟩ := trodVars_none hV
  have k0 := hval 0 22 v0 rfl rfl
  obtain ⟨es0, s0, r0⟩ := read_arg (D := 5) (by kernel_rfl) k0 h0
  obtain ⟨v, xs, rfl, hv, hx, hl⟩ := shape_sets (D := 2) Try.underlying22 (by kernel_rfl) Try.underlying33 Try.underlying31 s0
  have e0 : packT Try.prog 22 [v] = v := by simp [packT, aggT, Try.underlying22, aggD]
  rw [e0] at r0
  have hlen : xs.length ≤ 9223372036854775807 := hl
  refine (calls_true (parts_calls hv hx hlen) (rcs_one r0)).mono fun e W' ⟨he, hg, hb⟩ => ?_
  subst he
  have hlt : ∀ x ∈ p, x.block < W.heap.size := fun x hx => hW'.lt x (by simpa using hx)
  exact ⟨_, rfl, post_of_same (pa := p) (pv := []) hW' (fun _ _ _ => trodAll_mk1 (shut_bool Try.underlying4 _)) (fun sp hsp => by
      exact trodAll_mk1 (WideElems.Trod_stays laidOut (by kernel_rfl) (of_decide_eq_true (by kernel_rfl)) h0 (fun x hx => hb.same (hlt x hx)) fun x hx => hsp x (by simpa using hx))) (fun _ _ => rfl) (by simp) (hg.frame _) hg.2.1 (ok_one (by kernel_rfl) rfl (okWide_bool_mk Try.underlying4 _))⟩

theorem proved : Rows.ClassPartsSaid :=
  OpenClaim.holds_of_wide 4 Try.f4 rfl rfl rfl rfl rfl rfl rfl ⟨rfl, rfl, rfl, rfl, rfl⟩ rfl rfl rfl rfl rfl (by kernel_rfl) Try.func4 (by kernel_rfl)
    (of_decide_eq_true (by kernel_rfl)) (by unfold Func.isWrapper; first | (rw [if_pos (by decide +kernel)]; kernel_rfl) | (rw [if_neg (by decide +kernel)]; exact ⟨rfl, rfl⟩))
    (fun os started H enc _ => lifted os started H enc)

end Go.Proofs.Ytcjnpmaljfkpgaa
