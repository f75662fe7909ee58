/- LangBegins: the statement. -/
import Derived.Test.YtdcjkdgjlljodaaTlQB
import Derived.Test.YtdcjkdgjlljodaaAbsTree
import Derived.Test.YtdcjkdgjlljodaaRows
set_option linter.all false
namespace Go.Proofs.Ytdcjkdgjlljodaa
open Go Abs Go.ChangeShapes Go.WideShapes Go.ChangeAt Go.RowKit
set_option maxRecDepth 100000 in
theorem bw5 (os : Os) (started : os.Started) (H : Type) (enc : TypeId × Value → H) :
  ReturnsInHanded {} Try.checked os 5 .any (Rows.langBeginsSpec.pre6 enc Try.prog Try.f5 Rows.langBeginsRow.domain false) (Rows.langBeginsSpec.post enc Try.prog Try.f5 false true false false) := by
 refine returnsInHanded_of_change (C := Try.checked) own started (by kernel_rfl) Try.func5
  (ChangeSpec.witness6 (enc := enc) (C := Try.checked) false ⟨#[], #[.agg #[.int .i64 0, .int .u64 0, .int .u64 0, .int .u64 0, .int .u64 0, .slice none 0 0, .int .i64 0, .int .i64 0], .string ⟨#[]⟩], []⟩ 8 (by kernel_rfl) (by kernel_rfl) (by kernel_rfl) (by kernel_rfl)) ?_
 intro W base args ds gs before hval0 hW hcnd _
 have hval : ∀ (j : Nat) t v, Try.f5.params[j]? = some t → args[j]? = some v → Value.okWide Try.prog W .any base t v := hval0
 have hW' := hW
 obtain ⟨p, q, hA0, hV, rfl, hfz, hnd⟩ := hW
 have hA : DataW.TrodAll enc Try.prog W 0 (fun _ => true) true Try.f5.params.toList args.toList ds p := hA0
 rw [Try.params5] at hA hval
 obtain ⟨w0, w1, d0, d1, p0, p1, rfl, rfl, rfl, g0, g1⟩ := trodAll_two hA
 obtain ⟨rfl, rfl⟩ := trodVars_none hV
 have k0 := hval 0 27 w0 rfl rfl
 obtain ⟨D0, es0, s0, r0⟩ := do8 (L := [27, 3, 24, 22, 25]) (by kernel_rfl) (by kernel_rfl) k0 g0
 obtain ⟨v0, h0, e0⟩ := de2 Try.underlying27 (by kernel_rfl) Try.underlying3 (by kernel_rfl) Try.underlying24 Try.underlying22 (by kernel_rfl) Try.underlying25 (by kernel_rfl) (by kernel_rfl) D0 s0
 rw [e0] at r0
 have k1 := hval 1 9 w1 rfl rfl
 obtain ⟨es1, s1, r1⟩ := ed6 (D := 5) (by kernel_rfl) k1 g1
 obtain ⟨v1, h1, e1⟩ := dn4 (D := 4) Try.underlying9 s1
 rw [e1] at r1
 refine (dk1 (ds7 h0 v1) (en8 r0 r1)).mono fun e W' ⟨he, hg, hb⟩ => ?_
 subst he
 have hlt : ∀ x ∈ p0 ++ p1, x.block < W.heap.size := fun x hx => hW'.lt x (by simpa using hx)
 have m := fun (x : MemPlace) (hx : x ∈ p0 ++ p1) => hb.same (hlt x hx)
 exact ⟨_, rfl, dp4 (pa := p0 ++ p1) (pv := []) hW' (fun _ _ _ => trodAll_mk1 (shut_bool Try.underlying4 _)) (fun sp hsp => by
   have hin : ∀ x ∈ p0 ++ p1, sp x.block = true := fun x hx => hsp x (by simpa using hx)
   rw [Try.params5]
   exact trodAll_mk2 (WideElems.Trod_stays ds9 (by kernel_rfl) (of_decide_eq_true (by kernel_rfl)) g0 (fun x hx => m x (by simp [hx])) fun x hx => hin x (by simp [hx])) (WideElems.Trod_stays ds9 (by kernel_rfl) (of_decide_eq_true (by kernel_rfl)) g1 (fun x hx => m x (by simp [hx])) fun x hx => hin x (by simp [hx]))) (fun _ _ => rfl) (by simp) (hg.but _) hg.froz (ok_one (by kernel_rfl) rfl (okWide_bool_mk Try.underlying4 _))⟩
theorem proved : Rows.LangBeginsSaid :=
 OpenClaim.holds_of_wide 5 Try.f5 rfl rfl rfl rfl rfl rfl rfl ⟨rfl, rfl, rfl, rfl, rfl⟩ rfl rfl rfl rfl rfl (by kernel_rfl) Try.func5 (by kernel_rfl)
  (of_decide_eq_true (by kernel_rfl)) (by unfold Func.isWrapper; first | (rw [if_pos (by decide +kernel)]; kernel_rfl) | (rw [if_neg (by decide +kernel)]; exact ⟨rfl, rfl⟩))
  (fun os started H enc _ => bw5 os started H enc)
end Go.Proofs.Ytdcjkdgjlljodaa
