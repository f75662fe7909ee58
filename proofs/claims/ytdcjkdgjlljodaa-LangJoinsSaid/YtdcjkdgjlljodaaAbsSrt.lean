/- A part. -/
import Derived.Test.YtdcjkdgjlljodaaAbsKn
import Derived.Test.YtdcjkdgjlljodaaLgA
set_option linter.all false
namespace Abs
open Go
def SortR (ar : List EV) (H : Heap) (r : ER × Heap) : Prop :=
 (ar = [.nilsl] ∧ r = (.ret (.tup []), H)) ∨ ∃ (k : Nat) (l : List Int), H[k]? = some (some (.row 1 (aa9 l))) ∧ l.length ≤ 1000000 ∧ ar = [.own k 1 0 l.length] ∧ r = (.ret (.tup []), H.set k (some (.row 1 (aa9 (srt l)))))
theorem cn6 : ∀ {a b : List Int}, aa9 a = aa9 b → a = b
 | [], [], _ => rfl
 | [], _ :: _, h => by simp [aa9] at h
 | _ :: _, [], h => by simp [aa9] at h
 | x :: a, y :: b, h => by
  simp only [aa9, List.map_cons, List.cons.injEq, EV.int.injEq, true_and] at h
  rw [h.1, cn6 h.2]
theorem SortR.one {ar : List EV} {H : Heap} {r r' : ER × Heap} (h : SortR ar H r) (h' : SortR ar H r') : r' = r := by
 rcases h with ⟨rfl, rfl⟩ | ⟨k, l, h1, _, rfl, rfl⟩
 ·rcases h' with ⟨_, rfl⟩ | ⟨k, l, _, _, e, _⟩
  ·rfl
  ·simp at e
 ·rcases h' with ⟨e, _⟩ | ⟨k', l', h2, _, e, rfl⟩
  ·simp at e
  ·simp only [List.cons.injEq, EV.own.injEq, and_true, true_and] at e
   obtain ⟨rfl, _⟩ := e
   rw [h1] at h2
   simp only [Option.some.injEq, EB.row.injEq, true_and] at h2
   rw [cn6 h2]
section
variable {γ : Nat → EV}
open Go.Proofs Go.Shelf Go.Sort Go.RowKit in
theorem ea8 {P : Program} {ρ : Ren} (Ly : Lays.n189 P ρ) (hc : be9 P (ρ.f 189)) (H : Heap) : CallsA P γ (ρ.f 189) [.nilsl] H fun er H' => er = .ret (.tup []) ∧ H' = H := by
 refine ⟨hc, fun φ I w vs hr hv => ?_⟩
 obtain ⟨hn, hv⟩ := hv
 obtain ⟨vl⟩ := vs
 obtain ⟨v, rfl⟩ : ∃ v, vl = [v] := by
  match vl, hn with
  | [v], _ => exact ⟨v, rfl⟩
 have h0 := hv 0 _ v rfl rfl
 cases h0
 refine (Any.slices_Sort_int_none Ly _ _ w).mono ?_
 rintro e w' ⟨rfl, rfl⟩
 exact ⟨φ, I, H, .ret (.tup []), Evo.refl _ _ _ _, hr, .ret _ _ (.tup [] #[] rfl (fun _ _ _ h _ => by simp at h)), rfl, rfl⟩
open Go.Proofs Go.Shelf in
theorem SortR.calls {P : Program} {ρ : Ren} (Ly : Lays.n189 P ρ) (hc : be9 P (ρ.f 189)) {ar : List EV} {H : Heap} {r : ER × Heap} (h : SortR ar H r) : CallsA P γ (ρ.f 189) ar H fun er H' => er = r.1 ∧ H' = r.2 := by
 rcases h with ⟨rfl, rfl⟩ | ⟨k, l, h1, h2, rfl, rfl⟩
 ·exact ea8 Ly hc H
 ·exact ek8 Ly hc h1 (by omega)
end
theorem SortR.den {E : Env} {f : FuncId} (h : ∀ ar H r, SortR ar H r → den E f ar H = some r) : ba3 E f :=
 ⟨fun H k l h1 h2 => h _ _ _ (.inr ⟨k, l, h1, h2, rfl, rfl⟩), fun H => h _ _ _ (.inl ⟨rfl, rfl⟩)⟩
end Abs
