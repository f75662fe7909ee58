/- LangJoins: the statement. -/
import Derived.Test.YtdcjkdgjlljodaaTlQJ
import Derived.Test.YtdcjkdgjlljodaaAbsStr2
import Derived.Test.YtdcjkdgjlljodaaRows
set_option linter.all false
namespace Go.Proofs.Ytdcjkdgjlljodaa
open Go Abs Go.ChangeShapes Go.WideShapes Go.ChangeAt Go.RowKit
set_option maxRecDepth 100000 in
theorem bz4 (os : Os) (started : os.Started) (H : Type) (enc : TypeId × Value → H) :
  ReturnsInHanded {} Try.checked os 6 .any (Rows.langJoinsSpec.pre6 enc Try.prog Try.f6 Rows.langJoinsRow.domain false) (Rows.langJoinsSpec.post enc Try.prog Try.f6 false true false false) := by
 refine returnsInHanded_of_change_sized (C := Try.checked) own started (by kernel_rfl) Try.func6
  (ChangeSpec.witness6 (enc := enc) (C := Try.checked) false ⟨#[], #[.agg #[.int .i64 0, .int .u64 0, .int .u64 0, .int .u64 0, .int .u64 0, .slice none 0 0, .int .i64 0, .int .i64 0], .agg #[.int .i64 0, .int .u64 0, .int .u64 0, .int .u64 0, .int .u64 0, .slice none 0 0, .int .i64 0, .int .i64 0], .agg #[.string ⟨#[]⟩, .string ⟨#[]⟩]], []⟩ 8 (by kernel_rfl) (by kernel_rfl) (by kernel_rfl) (by kernel_rfl)) ?_
 intro W base args ds gs before hval0 hW hcnd hsz0 _
 have hval : ∀ (j : Nat) t v, Try.f6.params[j]? = some t → args[j]? = some v → Value.okWide Try.prog W .any base t v := hval0
 have hW' := hW
 obtain ⟨p, q, hA0, hV, rfl, hfz, hnd⟩ := hW
 have hA : DataW.TrodAll enc Try.prog W 0 (fun _ => true) true Try.f6.params.toList args.toList ds p := hA0
 rw [Try.params6] at hA hval
 obtain ⟨w0, w1, w2, d0, d1, d2, p0, p1, p2, rfl, rfl, rfl, g0, g1, g2⟩ := trodAll_three hA
 obtain ⟨rfl, rfl⟩ := trodVars_none hV
 have k0 := hval 0 27 w0 rfl rfl
 obtain ⟨D0, es0, s0, r0⟩ := cm5 (L := [27, 3, 24, 22, 25]) (by kernel_rfl) (by kernel_rfl) k0 g0
 obtain ⟨v0, h0, e0⟩ := cd6 Try.underlying27 (by kernel_rfl) Try.underlying3 (by kernel_rfl) Try.underlying24 Try.underlying22 (by kernel_rfl) Try.underlying25 (by kernel_rfl) (by kernel_rfl) D0 s0
 rw [e0] at r0
 have k1 := hval 1 27 w1 rfl rfl
 obtain ⟨D1, es1, s1, r1⟩ := cm5 (L := [27, 3, 24, 22, 25]) (by kernel_rfl) (by kernel_rfl) k1 g1
 obtain ⟨v1, h1, e1⟩ := cd6 Try.underlying27 (by kernel_rfl) Try.underlying3 (by kernel_rfl) Try.underlying24 Try.underlying22 (by kernel_rfl) Try.underlying25 (by kernel_rfl) (by kernel_rfl) D1 s1
 rw [e1] at r1
 have k2 := hval 2 42 w2 rfl rfl
 obtain ⟨a2, b2, ha2, hb2, r2⟩ := dn3 (j := 2) hsz0 (by kernel_rfl) rfl Try.underlying42 Try.underlying9 (by kernel_rfl) (by kernel_rfl) k2 g2
 refine (dj0 (dr4 h0 h1 a2 b2 (Nat.le_trans ha2 (by decide)) (Nat.le_trans hb2 (by decide))) (dn4 r0 r1 r2)).mono fun e W' ⟨he, hg, hb⟩ => ?_
 subst he
 have hlt : ∀ x ∈ p0 ++ p1 ++ p2, x.block < W.heap.size := fun x hx => hW'.lt x (by simpa using hx)
 have m := fun (x : MemPlace) (hx : x ∈ p0 ++ p1 ++ p2) => hb.same (hlt x hx)
 exact ⟨_, rfl, do0 (pa := p0 ++ p1 ++ p2) (pv := []) hW' (fun _ _ _ => trodAll_mk1 (shut_bool Try.underlying4 _)) (fun sp hsp => by
   have hin : ∀ x ∈ p0 ++ p1 ++ p2, sp x.block = true := fun x hx => hsp x (by simpa using hx)
   rw [Try.params6]
   exact ⟨p0, p1 ++ p2, (WideElems.Trod_stays cu8 (by kernel_rfl) (of_decide_eq_true (by kernel_rfl)) g0 (fun x hx => m x (by simp [hx])) fun x hx => hin x (by simp [hx])), trodAll_mk2 (WideElems.Trod_stays cu8 (by kernel_rfl) (of_decide_eq_true (by kernel_rfl)) g1 (fun x hx => m x (by simp [hx])) fun x hx => hin x (by simp [hx])) (WideElems.Trod_stays cu8 (by kernel_rfl) (of_decide_eq_true (by kernel_rfl)) g2 (fun x hx => m x (by simp [hx])) fun x hx => hin x (by simp [hx])), by simp⟩) (fun _ _ => rfl) (by simp) (hg.but _) hg.froz (ok_one (by kernel_rfl) rfl (okWide_bool_mk Try.underlying4 _))⟩
theorem proved : Rows.LangJoinsSaid :=
 OpenClaim.holds_of_wide 6 Try.f6 rfl rfl rfl rfl rfl rfl rfl ⟨rfl, rfl, rfl, rfl, rfl⟩ rfl rfl rfl rfl rfl (by kernel_rfl) Try.func6 (by kernel_rfl)
  (of_decide_eq_true (by kernel_rfl)) (by unfold Func.isWrapper; first | (rw [if_pos (by decide +kernel)]; kernel_rfl) | (rw [if_neg (by decide +kernel)]; exact ⟨rfl, rfl⟩))
  (fun os started H enc _ => bz4 os started H enc)
end Go.Proofs.Ytdcjkdgjlljodaa
