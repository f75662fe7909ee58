/- A part. -/
import Derived.Test.YtdcjkdgjlljodaaNfA
set_option linter.all false
namespace Abs
open Go
def Hold (D : Nat) (G : Heap) (ow : Nat → Nat) (id sz : Nat) (x : EV) (es : List EV) : Prop :=
 (x = .nilsl ∧ es = []) ∨ ∃ k, x = .own (D + k) sz 0 es.length ∧ G[k]? = some (some (.row sz es)) ∧ ow k = id ∧ es ≠ []
def Others (D : Nat) (id : Nat) (G : Heap) (ow : Nat → Nat) (G' : Heap) (ow' : Nat → Nat) : Prop :=
 ∀ (j sz : Nat) (x : EV) (es : List EV), j ≠ id → Hold D G ow j sz x es → Hold D G' ow' j sz x es
theorem Others.refl {D id : Nat} {G : Heap} {ow : Nat → Nat} : Others D id G ow G ow := fun _ _ _ _ _ h => h
theorem Hold.at {D : Nat} {G : Heap} {ow : Nat → Nat} {id sz : Nat} {x : EV} {es : List EV} (h : Hold D G ow id sz x es) (hne : es ≠ []) : ∃ k, x = .own (D + k) sz 0 es.length ∧ ∀ P : Heap, P.length = D → (P ++ G)[D + k]? = some (some (.row sz es)) := by
 rcases h with ⟨_, h⟩ | ⟨k, hx, hg, _, _⟩
 ·exact absurd h hne
 ·exact ⟨k, hx, fun P hP => by rw [List.getElem?_append_right (by omega), hP, Nat.add_sub_cancel_left]; exact hg⟩
theorem Hold.append {D : Nat} {G : Heap} {ow : Nat → Nat} {id sz : Nat} {x : EV} {es : List EV} (h : Hold D G ow id sz x es) (e : EV) (bytes : Nat) (hs : 0 < sz) (he : e.cells.length = sz) (ho : e.cells.all EV.one = true) (hl : es.length ≤ 1000000) (hb : bytes ≤ 1000000) :
  ∃ x' G' ow', (∀ P : Heap, P.length = D → ab7 sz bytes x (.imm sz [e]) (P ++ G) = some (x', P ++ G')) ∧ Hold D G' ow' id sz x' (es ++ [e]) ∧ Others D id G ow G' ow' := by
 have hall : ([e].all fun e => e.cells.length == sz && e.cells.all EV.one) = true := by simp only [List.all_cons, List.all_nil, Bool.and_true, he, beq_self_eq_true, Bool.true_and]; exact ho
 have hbb : (es.length + 1) * bytes ≤ 140737488355328 := by
  have : (es.length + 1) * bytes ≤ 1000001 * 1000000 := Nat.mul_le_mul (by omega) hb
  omega
 rcases h with ⟨rfl, rfl⟩ | ⟨k, rfl, hg, hid, hne⟩
 ·refine ⟨.own (D + G.length) sz 0 1, G ++ [some (.row sz [e])], fun j => if j = G.length then id else ow j, fun P hP => ?_, .inr ⟨G.length, rfl, by simp, by simp, by simp⟩, fun j sz' y fs hj hy => ?_⟩
  ·unfold ab7
   simp only [bh7]
   rw [if_pos ⟨hs, hall⟩]
   simp only [List.length_cons, List.length_nil, Nat.zero_add]
   rw [if_neg (by omega), if_pos ⟨by omega, by simpa using hbb⟩, List.length_append, hP, List.append_assoc]
  ·rcases hy with hy | ⟨k, hx, hg, hid, hne⟩
   ·exact .inl hy
   ·have hk := (List.getElem?_eq_some_iff.1 hg).1
    exact .inr ⟨k, hx, by rw [List.getElem?_append_left hk]; exact hg, by simp only; rw [if_neg (by omega)]; exact hid, hne⟩
 ·have hk := (List.getElem?_eq_some_iff.1 hg).1
  refine ⟨.own (D + G.length) sz 0 (es.length + 1), G.set k none ++ [some (.row sz (es ++ [e]))], fun j => if j = G.length then id else ow j, fun P hP => ?_, .inr ⟨G.length, by simp, by rw [List.getElem?_append_right (by simp)]; simp, by simp, by simp⟩, fun j sz' y fs hj hy => ?_⟩
  ·have hgP : (P ++ G)[D + k]? = some (some (.row sz es)) := by rw [List.getElem?_append_right (by omega), hP, Nat.add_sub_cancel_left]; exact hg
   unfold ab7
   simp only [bh7]
   rw [if_pos ⟨hs, hall⟩]
   simp only [hgP]
   rw [if_pos ⟨trivial, trivial, trivial, Nat.le_refl _, by simp; omega, by simpa using hbb⟩, List.set_append_right _ _ (by omega), hP, Nat.add_sub_cancel_left]
   simp [hP]
  ·rcases hy with hy | ⟨k', hx, hg', hid', hne'⟩
   ·exact .inl hy
   ·have hk' := (List.getElem?_eq_some_iff.1 hg').1
    have hkk : k ≠ k' := fun e => hj (by rw [← hid', ← hid, e])
    exact .inr ⟨k', hx, by rw [List.getElem?_append_left (by rw [List.length_set]; exact hk'), List.getElem?_set_ne hkk]; exact hg', by simp only; rw [if_neg (by omega)]; exact hid', hne'⟩
theorem Hold.fz {D L : Nat} {G : Heap} {ow : Nat → Nat} {id sz n : Nat} {x : EV} {es : List EV} (h : Hold D G ow id sz x es) (P : Heap) (hP : P.length = D) (hL : L ≤ D) (ho : okL L es = true) : Abs.fz L (P ++ G) (n + 1) x = some (slE sz es) := by
 rcases h with ⟨rfl, rfl⟩ | ⟨k, rfl, hg, _, hne⟩
 ·unfold slE
  rw [if_pos rfl]
  exact bf6 rfl
 ·have hgP : (P ++ G)[D + k]? = some (some (.row sz es)) := by rw [List.getElem?_append_right (by omega), hP, Nat.add_sub_cancel_left]; exact hg
  rw [co3 (es := es) (by omega) hgP (by omega) ho]
  unfold slE
  rw [if_neg hne]
  simp
theorem Hold.len {D : Nat} {G : Heap} {ow : Nat → Nat} {id sz : Nat} {x : EV} {es : List EV} (h : Hold D G ow id sz x es) : bo5 false x = some es.length := by
 rcases h with ⟨rfl, rfl⟩ | ⟨k, rfl, _⟩ <;> rfl
theorem Hold.one {D : Nat} {G : Heap} {ow : Nat → Nat} {id sz : Nat} {x : EV} {es : List EV} (h : Hold D G ow id sz x es) : x.one = true ∧ x.cells = [x] := by
 rcases h with ⟨rfl, rfl⟩ | ⟨k, rfl, _⟩ <;> exact ⟨rfl, rfl⟩
end Abs
