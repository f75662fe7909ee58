/- LangEnds: the statement. -/
import Derived.Test.YtdcjkdgjlljodaaTlQ
import Derived.Test.YtdcjkdgjlljodaaAbsTree
import Derived.Test.YtdcjkdgjlljodaaRows
set_option linter.all false
namespace Go.Proofs.Ytdcjkdgjlljodaa
open Go Abs Go.ChangeShapes Go.WideShapes Go.ChangeAt Go.RowKit
set_option maxRecDepth 100000 in
theorem cc1 (os : Os) (started : os.Started) (H : Type) (enc : TypeId × Value → H) :
  ReturnsInHanded {} Try.checked os 3 .any (Rows.langEndsSpec.pre6 enc Try.prog Try.f3 Rows.langEndsRow.domain false) (Rows.langEndsSpec.post enc Try.prog Try.f3 false true false false) := by
 refine returnsInHanded_of_change (C := Try.checked) own started (by kernel_rfl) Try.func3
  (ChangeSpec.witness6 (enc := enc) (C := Try.checked) false ⟨#[], #[.agg #[.int .i64 0, .int .u64 0, .int .u64 0, .int .u64 0, .int .u64 0, .slice none 0 0, .int .i64 0, .int .i64 0], .string ⟨#[]⟩, .int .i64 0], []⟩ 8 (by kernel_rfl) (by kernel_rfl) (by kernel_rfl) (by kernel_rfl)) ?_
 intro W base args ds gs before hval0 hW hcnd _
 have hval : ∀ (j : Nat) t v, Try.f3.params[j]? = some t → args[j]? = some v → Value.okWide Try.prog W .any base t v := hval0
 have hW' := hW
 obtain ⟨p, q, hA0, hV, rfl, hfz, hnd⟩ := hW
 have hA : DataW.TrodAll enc Try.prog W 0 (fun _ => true) true Try.f3.params.toList args.toList ds p := hA0
 rw [Try.params3] at hA hval
 obtain ⟨w0, w1, w2, d0, d1, d2, p0, p1, p2, rfl, rfl, rfl, g0, g1, g2⟩ := trodAll_three hA
 obtain ⟨rfl, rfl⟩ := trodVars_none hV
 have k0 := hval 0 27 w0 rfl rfl
 obtain ⟨D0, es0, s0, r0⟩ := dn8 (L := [27, 3, 24, 22, 25]) (by kernel_rfl) (by kernel_rfl) k0 g0
 obtain ⟨v0, h0, e0⟩ := dd4 Try.underlying27 (by kernel_rfl) Try.underlying3 (by kernel_rfl) Try.underlying24 Try.underlying22 (by kernel_rfl) Try.underlying25 (by kernel_rfl) (by kernel_rfl) D0 s0
 rw [e0] at r0
 have k1 := hval 1 9 w1 rfl rfl
 obtain ⟨es1, s1, r1⟩ := da9 (D := 5) (by kernel_rfl) k1 g1
 obtain ⟨v1, h1, e1⟩ := dm4 (D := 4) Try.underlying9 s1
 rw [e1] at r1
 have k2 := hval 2 3 w2 rfl rfl
 obtain ⟨es2, s2, r2⟩ := da9 (D := 5) (by kernel_rfl) k2 g2
 obtain ⟨v2, h2, hh2, e2⟩ := bq1 (D := 4) Try.underlying3 s2
 rw [e2] at r2
 refine (dj3 (ds0 h0 v1 v2) (dn9 r0 r1 r2)).mono fun e W' ⟨he, hg, hb⟩ => ?_
 subst he
 have hlt : ∀ x ∈ p0 ++ p1 ++ p2, x.block < W.heap.size := fun x hx => hW'.lt x (by simpa using hx)
 have m := fun (x : MemPlace) (hx : x ∈ p0 ++ p1 ++ p2) => hb.same (hlt x hx)
 exact ⟨_, rfl, do5 (pa := p0 ++ p1 ++ p2) (pv := []) hW' (fun _ _ _ => trodAll_mk1 (shut_bool Try.underlying4 _)) (fun sp hsp => by
   have hin : ∀ x ∈ p0 ++ p1 ++ p2, sp x.block = true := fun x hx => hsp x (by simpa using hx)
   rw [Try.params3]
   exact ⟨p0, p1 ++ p2, (WideElems.Trod_stays cv4 (by kernel_rfl) (of_decide_eq_true (by kernel_rfl)) g0 (fun x hx => m x (by simp [hx])) fun x hx => hin x (by simp [hx])), trodAll_mk2 (WideElems.Trod_stays cv4 (by kernel_rfl) (of_decide_eq_true (by kernel_rfl)) g1 (fun x hx => m x (by simp [hx])) fun x hx => hin x (by simp [hx])) (WideElems.Trod_stays cv4 (by kernel_rfl) (of_decide_eq_true (by kernel_rfl)) g2 (fun x hx => m x (by simp [hx])) fun x hx => hin x (by simp [hx])), by simp⟩) (fun _ _ => rfl) (by simp) (hg.but _) hg.froz (ok_one (by kernel_rfl) rfl (okWide_bool_mk Try.underlying4 _))⟩
theorem proved : Rows.LangEndsSaid :=
 OpenClaim.holds_of_wide 3 Try.f3 rfl rfl rfl rfl rfl rfl rfl ⟨rfl, rfl, rfl, rfl, rfl⟩ rfl rfl rfl rfl rfl (by kernel_rfl) Try.func3 (by kernel_rfl)
  (of_decide_eq_true (by kernel_rfl)) (by unfold Func.isWrapper; first | (rw [if_pos (by decide +kernel)]; kernel_rfl) | (rw [if_neg (by decide +kernel)]; exact ⟨rfl, rfl⟩))
  (fun os started H enc _ => cc1 os started H enc)
end Go.Proofs.Ytdcjkdgjlljodaa
