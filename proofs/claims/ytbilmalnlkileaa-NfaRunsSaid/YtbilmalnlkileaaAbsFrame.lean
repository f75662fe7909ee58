/- A call that needs none of the heap may be made in any. -/
import Derived.Test.YtbilmalnlkileaaAbs14
set_option linter.all false

namespace Abs
open Go
set_option linter.all false

section
variable {P : Program} {γ : Nat → EV}

theorem rh_nil {φ : Nat → Nat} {I : Nat → Prop} {H : Heap} {w : World} (h : RH γ φ I H w) : RH γ φ I [] w where
  glob := h.glob
  blk b x hb := by simp at hb
  inj b b' x x' hb := by simp at hb
  imm := h.imm
  dis b x hb := by simp at hb
  lt b x hb := by simp at hb

/-- THE FRAME. -/
theorem CallsA.frame {f : FuncId} {args : List EV} {r : ER} (h : CallsA P γ f args [] fun er H' => er = r ∧ H' = []) (ho : okL 0 args = true) (H : Heap) : CallsA P γ f args H fun er H' => er = r ∧ H' = H := by
  refine ⟨h.1, fun φ I w vs hr hv => ?_⟩
  have hv0 : RCs φ 0 I w args vs.toList := ⟨hv.1, fun k x v hx hvk => (hv.2 k x v hx hvk).trunc (okL_iff.1 ho x (List.mem_of_getElem? hx))⟩
  refine (h.2 φ I w vs (rh_nil hr) hv0).mono fun e w' ⟨φ', I', H', er, he, hr', hre, h1, h2⟩ => ?_
  subst h1 h2
  have no : ∀ B, ¬ Own φ [] B := fun B ⟨b, x, hb, _⟩ => by simp at hb
  have same : ∀ B, B < w.heap.size → w'.heap[B]? = w.heap[B]? := fun B hB => he.keep B hB (no B)
  have him : ∀ B, I' B → I B ∨ w.heap.size ≤ B := fun B hB => by
    rcases he.immf B hB with h | h | h
    · exact .inl h
    · exact absurd h (no B)
    · exact .inr h
  have hmono : ∀ {N : Nat} {x : EV} {v : Value}, RV φ' 0 I' w' x v → RV φ N I' w' x v := fun h => h.mono (Nat.zero_le _) (fun i hi => absurd hi (Nat.not_lt_zero i)) (fun _ h => h) (fun _ _ => rfl) (fun b hb => absurd hb (Nat.not_lt_zero b))
  refine ⟨φ, I', H, er, ⟨he.size, he.shape, fun B hB _ => same B hB, he.imm, fun _ _ => rfl, Nat.le_refl _, fun B h => .inl h, fun B hB => ?_, he.tape, he.os, he.out, he.froz⟩, ⟨fun g => ?_, fun b x hb => ?_, hr.inj, hr'.imm, fun b x hb hI => ?_, fun b x hb => Nat.lt_of_lt_of_le (hr.lt b x hb) he.size⟩, ?_, rfl, rfl⟩
  · rcases him B hB with h | h
    · exact .inl h
    · exact .inr (.inr h)
  · exact hmono (hr'.glob g)
  · exact (hr.blk b x hb).mono (Nat.le_refl _) (fun _ _ => rfl) he.imm (fun B hB => same B (hr.imm B hB)) (fun b' hb' T n hs => (he.shape (φ b') (shape_lt hs)).trans hs) (same _ (hr.lt b x hb))
  · rcases him _ hI with h | h
    · exact hr.dis b x hb h
    · have := hr.lt b x hb; omega
  · cases hre with
    | ret x v hx => exact .ret x v (hmono hx)
    | pan x v hx => exact .pan x v (hmono hx)
end
end Abs
