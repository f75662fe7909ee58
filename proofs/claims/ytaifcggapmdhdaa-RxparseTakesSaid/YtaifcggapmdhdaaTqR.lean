/- RxparseTakes: the statement. -/
import Derived.Test.YtaifcggapmdhdaaTqQ
import Derived.Test.YtaifcggapmdhdaaRows
set_option linter.all false
namespace Go.Proofs.Ytaifcggapmdhdaa
open Go Abs Go.ChangeShapes Go.WideShapes Go.ChangeAt Go.RowKit
set_option maxRecDepth 100000 in
theorem liftedRxparseTakes (os : Os) (started : os.Started) (H : Type) (enc : TypeId × Value → H) :
  ReturnsInHanded {} Try.checked os 4 .any (Rows.rxparseTakesSpec.pre6 enc Try.prog Try.f4 Rows.rxparseTakesRow.domain false) (Rows.rxparseTakesSpec.post enc Try.prog Try.f4 false true false false) := by
 refine returnsInHanded_of_change (C := Try.checked) own started (by kernel_rfl) Try.func4
  (ChangeSpec.witness6 (enc := enc) (C := Try.checked) false ⟨#[], #[.string ⟨#[]⟩], []⟩ 8 (by kernel_rfl) (by kernel_rfl) (by kernel_rfl) (by kernel_rfl)) ?_
 intro W base args ds gs before hval0 hW hcnd _
 have hval : ∀ (j : Nat) t v, Try.f4.params[j]? = some t → args[j]? = some v → Value.okWide Try.prog W .any base t v := hval0
 have hW' := hW
 obtain ⟨p, q, hA0, hV, rfl, hfz, hnd⟩ := hW
 have hA : DataW.TrodAll enc Try.prog W 0 (fun _ => true) true Try.f4.params.toList args.toList ds p := hA0
 rw [Try.params4] at hA hval
 obtain ⟨w0, d0, rfl, rfl, g0⟩ := trodAll_one hA
 obtain ⟨rfl, rfl⟩ := trodVars_none hV
 have k0 := hval 0 9 w0 rfl rfl
 obtain ⟨es0, s0, r0⟩ := read_arg (D := 5) (by kernel_rfl) k0 g0
 obtain ⟨v0, h0, e0⟩ := shape_str (D := 4) Try.underlying9 s0
 rw [e0] at r0
 refine (calls_true (takes_calls v0 h0) (rcs_one r0)).mono fun e W' ⟨he, hg, hb⟩ => ?_
 subst he
 have hlt : ∀ x ∈ p, x.block < W.heap.size := fun x hx => hW'.lt x (by simpa using hx)
 have m := fun (x : MemPlace) (hx : x ∈ p) => hb.same (hlt x hx)
 exact ⟨_, rfl, post_same (pa := p) (pv := []) hW' (fun _ _ _ => trodAll_mk1 (shut_bool Try.underlying4 _)) (fun sp hsp => by
   have hin : ∀ x ∈ p, sp x.block = true := fun x hx => hsp x (by simpa using hx)
   rw [Try.params4]
   exact trodAll_mk1 (WideElems.Trod_stays laidOut (by kernel_rfl) (of_decide_eq_true (by kernel_rfl)) g0 (fun x hx => m x (by simp [hx])) fun x hx => hin x (by simp [hx]))) (fun _ _ => rfl) (by simp) (hg.but _) hg.froz (ok_one (by kernel_rfl) rfl (okWide_bool_mk Try.underlying4 _))⟩
theorem proved : Rows.RxparseTakesSaid :=
 OpenClaim.holds_of_wide 4 Try.f4 rfl rfl rfl rfl rfl rfl rfl ⟨rfl, rfl, rfl, rfl, rfl⟩ rfl rfl rfl rfl rfl (by kernel_rfl) Try.func4 (by kernel_rfl)
  (of_decide_eq_true (by kernel_rfl)) (by unfold Func.isWrapper; first | (rw [if_pos (by decide +kernel)]; kernel_rfl) | (rw [if_neg (by decide +kernel)]; exact ⟨rfl, rfl⟩))
  (fun os started H enc _ => liftedRxparseTakes os started H enc)
end Go.Proofs.Ytaifcggapmdhdaa
