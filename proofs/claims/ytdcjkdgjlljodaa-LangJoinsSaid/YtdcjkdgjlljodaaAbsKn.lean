/- A part. -/
import Derived.Test.YtdcjkdgjlljodaaAbsPsi
import Derived.Test.YtdcjkdgjlljodaaClassA
namespace Abs
open Go Gn
structure KnE where
 f : FuncId
 R : List EV → Heap → ER × Heap → Prop
def knR (l : List KnE) (f : FuncId) (as : List EV) (H : Heap) (r : ER × Heap) : Prop := ∃ p ∈ l, p.f = f ∧ p.R as H r
noncomputable def cv1 (l : List KnE) : FuncId → List EV → Heap → Option (ER × Heap) := ct6 (knR l)
theorem ee0 {l : List KnE} {P : Program} {γ : Nat → EV} (hs : ∀ p ∈ l, ∀ as H r, p.R as H r → CallsA P γ p.f as H fun er H' => er = r.1 ∧ H' = r.2) {f : FuncId} {as : List EV} {H : Heap} {r : ER × Heap} (h : cv1 l f as H = some r) :
  CallsA P γ f as H fun er H' => er = r.1 ∧ H' = r.2 := by
 obtain ⟨p, hp, rfl, hr⟩ := ct5 h
 exact hs p hp as H r hr
theorem es7 {l : List KnE} (hnd : (l.map KnE.f).Nodup) {p : KnE} (hp : p ∈ l) {as : List EV} {H : Heap} {r : ER × Heap} (h : p.R as H r) (fn : ∀ r', p.R as H r' → r' = r) : cv1 l p.f as H = some r := by
 refine de1 ⟨p, hp, rfl, h⟩ fun r' ⟨q, hq, e, hr⟩ => ?_
 have : q = p := by
  obtain ⟨i, hi, e1⟩ := List.mem_iff_getElem.1 hp
  obtain ⟨j, hj, e2⟩ := List.mem_iff_getElem.1 hq
  have hpw := List.pairwise_iff_getElem.1 hnd
  have hi' : i < (l.map KnE.f).length := by simpa using hi
  have hj' : j < (l.map KnE.f).length := by simpa using hj
  have hfi : (l.map KnE.f)[i] = (l.map KnE.f)[j] := by simp [e1, e2, e]
  have : i = j := by
   rcases Nat.lt_trichotomy i j with h | h | h
   ·exact absurd hfi (hpw i j hi' hj' h)
   ·exact h
   ·exact absurd hfi.symm (hpw j i hj' hi' h)
  subst this
  rw [← e1, ← e2]
 subst this
 exact fn r' hr
theorem em9 {l : List KnE} {f : FuncId} (h : f ∉ l.map KnE.f) (as : List EV) (H : Heap) : cv1 l f as H = none :=
 de2 fun _ ⟨p, hp, e, _⟩ => h (e ▸ List.mem_map.2 ⟨p, hp, rfl⟩)
/-! ### Partitions -/
theorem cq7 {of of' : Nat → Nat} {n n' : Int} (h : bx0 of n = bx0 of' n') : (∀ b, b < 256 → of b = of' b) ∧ n = n' := by
 unfold bx0 at h
 simp only [EV.agg.injEq] at h
 have hl := List.append_inj h (by simp [an7])
 refine ⟨fun b hb => ?_, ?_⟩
 ·have h1 := congrArg (fun l : List EV => l[b]?) hl.1
  simp only [ch1 hb] at h1
  simp only [Option.some.injEq, EV.int.injEq, true_and] at h1
  omega
 ·have := hl.2
  simpa using this
theorem cf0 {of of' : Nat → Nat} : ∀ (n : Nat), (∀ b, b < n → of b = of' b) → mayN of n = mayN of' n
 | 0, _ => rfl
 | n + 1, h => by
  simp only [mayN]
  rw [cf0 n fun b hb => h b (by omega), h n (by omega)]
theorem dg1 {of of' : Nat → Nat} {n : Int} (h : ∀ b, b < 256 → of b = of' b) : mayC of n = mayC of' n := by
 unfold mayC
 rw [cf0 256 h]
def MayR (as : List EV) (H : Heap) (r : ER × Heap) : Prop := ∃ (of : Nat → Nat) (n : Int), (∀ b, b < 256 → of b < 256) ∧ as = [bx0 of n] ∧ r = (.ret (.bool (mayC of n)), H)
theorem MayR.one {as : List EV} {H : Heap} {r r' : ER × Heap} (h : MayR as H r) (h' : MayR as H r') : r' = r := by
 obtain ⟨of, n, _, rfl, rfl⟩ := h
 obtain ⟨of', n', _, e, rfl⟩ := h'
 simp only [List.cons.injEq, and_true] at e
 obtain ⟨e1, rfl⟩ := cq7 e
 rw [dg1 e1]
def ConstR (b : Bool) (as : List EV) (H : Heap) (r : ER × Heap) : Prop := as = [] ∧ r = (.ret (.bool b), H)
theorem ConstR.one {b : Bool} {as : List EV} {H : Heap} {r r' : ER × Heap} (h : ConstR b as H r) (h' : ConstR b as H r') : r' = r := by rw [h.2, h'.2]
end Abs
