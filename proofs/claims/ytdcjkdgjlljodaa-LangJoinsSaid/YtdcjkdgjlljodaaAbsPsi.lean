/- A part. -/
import Derived.Test.YtdcjkdgjlljodaaDen3D
import Derived.Test.YtdcjkdgjlljodaaOctsA
namespace Abs
open Go Gn
noncomputable def ct6 (R : FuncId → List EV → Heap → ER × Heap → Prop) : FuncId → List EV → Heap → Option (ER × Heap) :=
 open Classical in fun f as H => if h : ∃ r, R f as H r then some h.choose else none
section
variable {R : FuncId → List EV → Heap → ER × Heap → Prop}
theorem ct5 {f : FuncId} {as : List EV} {H : Heap} {r : ER × Heap} (h : ct6 R f as H = some r) : R f as H r := by
 unfold ct6 at h
 split at h
 ·rename_i hx
  simp only [Option.some.injEq] at h
  rw [← h]; exact hx.choose_spec
 ·simp at h
theorem de2 {f : FuncId} {as : List EV} {H : Heap} (h : ∀ r, ¬ R f as H r) : ct6 R f as H = none := by
 unfold ct6
 rw [dif_neg (fun ⟨r, hr⟩ => h r hr)]
theorem de1 {f : FuncId} {as : List EV} {H : Heap} {r : ER × Heap} (h : R f as H r) (hu : ∀ r', R f as H r' → r' = r) : ct6 R f as H = some r := by
 unfold ct6
 rw [dif_pos ⟨r, h⟩]
 exact congrArg some (hu _ (Exists.choose_spec (⟨r, h⟩ : ∃ r, R f as H r)))
end
def HasR (κ : IntKind) (as : List EV) (H : Heap) (r : ER × Heap) : Prop := ∃ (w : Nat → Nat) (b : Nat), bp1 w ∧ b < 256 ∧ as = [setE w, .int κ b] ∧ r = (.ret (.bool (bf5 w b)), H)
theorem eb0 {w w' : Nat → Nat} (h : setE w = setE w') {i : Nat} (hi : i < 4) : w i = w' i := by
 unfold setE at h
 simp only [EV.agg.injEq] at h
 have h1 := congrArg (fun l : List EV => l[i]?) h
 simp only [ch1 hi] at h1
 simp only [Option.some.injEq, EV.int.injEq, true_and] at h1
 omega
theorem HasR.one {κ : IntKind} {as : List EV} {H : Heap} {r r' : ER × Heap} (h : HasR κ as H r) (h' : HasR κ as H r') : r' = r := by
 obtain ⟨w, b, _, hb, rfl, rfl⟩ := h
 obtain ⟨w', b', _, _, e, rfl⟩ := h'
 simp only [List.cons.injEq, EV.int.injEq, true_and, and_true] at e
 obtain ⟨e1, e2⟩ := e
 have : b = b' := by omega
 subst this
 unfold bf5
 rw [eb0 e1 (i := b / 64) (by omega)]
theorem HasR.calls {P : Program} {γ : Nat → EV} {f : FuncId} {κ : IntKind} (hf : ep4 P γ f κ) {as : List EV} {H : Heap} {r : ER × Heap} (h : HasR κ as H r) : CallsA P γ f as H fun er H' => er = r.1 ∧ H' = r.2 := by
 obtain ⟨w, b, hw, hb, rfl, rfl⟩ := h
 exact hf w b H hw hb
end Abs
