/- A part. -/
import Derived.Test.YtddgppmcbjjliaaGreatDoorNfA
set_option linter.all false
namespace Abs
open Go
def Hold (D : Nat) (G : Heap) (ow : Nat → Nat) (id sz : Nat) (x : EV) (es : List EV) : Prop :=
 (x = .nilsl ∧ es = []) ∨ ∃ k, x = .own (D + k) sz 0 es.length ∧ G[k]? = some (some (.row sz es)) ∧ ow k = id ∧ es ≠ []
def Others (D : Nat) (id : Nat) (G : Heap) (ow : Nat → Nat) (G' : Heap) (ow' : Nat → Nat) : Prop :=
 ∀ (j sz : Nat) (x : EV) (es : List EV), j ≠ id → Hold D G ow j sz x es → Hold D G' ow' j sz x es
theorem Others.refl {D id : Nat} {G : Heap} {ow : Nat → Nat} : Others D id G ow G ow := fun _ _ _ _ _ h => h
theorem Hold.at {D : Nat} {G : Heap} {ow : Nat → Nat} {id sz : Nat} {x : EV} {es : List EV} (h : Hold D G ow id sz x es) (hne : es ≠ []) : ∃ k, x = .own (D + k) sz 0 es.length ∧ ∀ P : Heap, P.length = D → (P ++ G)[D + k]? = some (some (.row sz es)) := by
 rcases h with ⟨_, h⟩ | ⟨k, hx, hg, _, _⟩
 ·exact absurd h hne
 ·exact ⟨k, hx, fun P hP => by rw [List.getElem?_append_right (by omega), hP, Nat.add_sub_cancel_left]; exact hg⟩
theorem Hold.append {D : Nat} {G : Heap} {ow : Nat → Nat} {id sz : Nat} {x : EV} {es : List EV} (h : Hold D G ow id sz x es) (e : EV) (bytes : Nat) (hs : 0 < sz) (he : e.cells.length = sz) (ho : e.cells.all EV.one = true) (hl : es.length ≤ 1000000) (hb : bytes ≤ 1000000) :
  ∃ x' G' ow', (∀ P : Heap, P.length = D → evAppend sz bytes x (.imm sz [e]) (P ++ G) = some (x', P ++ G')) ∧ Hold D G' ow' id sz x' (es ++ [e]) ∧ Others D id G ow G' ow' := by
 have hall : ([e].all fun e => e.cells.length == sz && e.cells.all EV.one) = true := by simp only [List.all_cons, List.all_nil, Bool.and_true, he, beq_self_eq_true, Bool.true_and]; exact ho
 have hbb : (es.length + 1) * bytes ≤ 140737488355328 := by
  have : (es.length + 1) * bytes ≤ 1000001 * 1000000 := Nat.mul_le_mul (by omega) hb
  omega
 rcases h with ⟨rfl, rfl⟩ | ⟨k, rfl, hg, hid, hne⟩
 ·refine ⟨.own (D + G.length) sz 0 1, G ++ [some (.row sz [e])], fun j => if j = G.length then id else ow j, fun P hP => ?_, .inr ⟨G.length, rfl, by simp, by simp, by simp⟩, fun j sz' y fs hj hy => ?_⟩
  ·unfold evAppend
   simp only [elems]
   rw [if_pos ⟨hs, hall⟩]
   simp only [List.length_cons, List.length_nil, Nat.zero_add]
   rw [if_neg (by omega), if_pos ⟨by omega, by simpa using hbb⟩, List.length_append, hP, List.append_assoc]
  ·rcases hy with hy | ⟨k, hx, hg, hid, hne⟩
   ·exact .inl hy
   ·have hk := (List.getElem?_eq_some_iff.1 hg).1
    exact .inr ⟨k, hx, by rw [List.getElem?_append_left hk]; exact hg, by simp only; rw [if_neg (by omega)]; exact hid, hne⟩
 ·have hk := (List.getElem?_eq_some_iff.1 hg).1
  refine ⟨.own (D + G.length) sz 0 (es.length + 1), G.set k none ++ [some (.row sz (es ++ [e]))], fun j => if j = G.length then id else ow j, fun P hP => ?_, .inr ⟨G.length, by simp, by rw [List.getElem?_append_right (by simp)]; simp, by simp, by simp⟩, fun j sz' y fs hj hy => ?_⟩
  ·have hgP : (P ++ G)[D + k]? = some (some (.row sz es)) := by rw [List.getElem?_append_right (by omega), hP, Nat.add_sub_cancel_left]; exact hg
   unfold evAppend
   simp only [elems]
   rw [if_pos ⟨hs, hall⟩]
   simp only [hgP]
   rw [if_pos ⟨trivial, trivial, trivial, Nat.le_refl _, by simp; omega, by simpa using hbb⟩, List.set_append_right _ _ (by omega), hP, Nat.add_sub_cancel_left]
   simp [hP]
  ·rcases hy with hy | ⟨k', hx, hg', hid', hne'⟩
   ·exact .inl hy
   ·have hk' := (List.getElem?_eq_some_iff.1 hg').1
    have hkk : k ≠ k' := fun e => hj (by rw [← hid', ← hid, e])
    exact .inr ⟨k', hx, by rw [List.getElem?_append_left (by rw [List.length_set]; exact hk'), List.getElem?_set_ne hkk]; exact hg', by simp only; rw [if_neg (by omega)]; exact hid', hne'⟩
theorem Hold.make {D : Nat} (G : Heap) (ow : Nat → Nat) (id sz : Nat) (es : List EV) (hne : es ≠ []) :
  ∃ ow', Hold D (G ++ [some (.row sz es)]) ow' id sz (.own (D + G.length) sz 0 es.length) es ∧ Others D id G ow (G ++ [some (.row sz es)]) ow' := by
 refine ⟨fun j => if j = G.length then id else ow j, .inr ⟨G.length, rfl, by simp, by simp, hne⟩, fun j sz' y fs hj hy => ?_⟩
 rcases hy with hy | ⟨k, hx, hg, hid, hne⟩
 ·exact .inl hy
 ·have hk := (List.getElem?_eq_some_iff.1 hg).1
  exact .inr ⟨k, hx, by rw [List.getElem?_append_left hk]; exact hg, by simp only; rw [if_neg (by omega)]; exact hid, hne⟩
theorem Hold.write {D : Nat} {G : Heap} {ow : Nat → Nat} {id sz : Nat} {x : EV} {es fs : List EV} (h : Hold D G ow id sz x es) (hne : es ≠ []) (hl : fs.length = es.length) :
  ∃ k, x = .own (D + k) sz 0 es.length ∧ k < G.length ∧ Hold D (G.set k (some (.row sz fs))) ow id sz x fs ∧ Others D id G ow (G.set k (some (.row sz fs))) ow := by
 rcases h with ⟨_, h⟩ | ⟨k, rfl, hg, hid, _⟩
 ·exact absurd h hne
 ·have hk := (List.getElem?_eq_some_iff.1 hg).1
  refine ⟨k, rfl, hk, .inr ⟨k, by rw [hl], by rw [List.getElem?_set_self hk], hid, fun e => hne (by rw [e] at hl; exact List.length_eq_zero_iff.1 (by simpa using hl.symm))⟩, fun j sz' y gs hj hy => ?_⟩
  rcases hy with hy | ⟨k', hx, hg', hid', hne'⟩
  ·exact .inl hy
  ·have hkk : k ≠ k' := fun e => hj (by rw [← hid', ← hid, e])
   exact .inr ⟨k', hx, by rw [List.getElem?_set_ne hkk]; exact hg', hid', hne'⟩
theorem Hold.fz {D L : Nat} {G : Heap} {ow : Nat → Nat} {id sz n : Nat} {x : EV} {es : List EV} (h : Hold D G ow id sz x es) (P : Heap) (hP : P.length = D) (hL : L ≤ D) (ho : okL L es = true) : Abs.fz L (P ++ G) (n + 1) x = some (slE sz es) := by
 rcases h with ⟨rfl, rfl⟩ | ⟨k, rfl, hg, _, hne⟩
 ·unfold slE
  rw [if_pos rfl]
  exact fz_ok rfl
 ·have hgP : (P ++ G)[D + k]? = some (some (.row sz es)) := by rw [List.getElem?_append_right (by omega), hP, Nat.add_sub_cancel_left]; exact hg
  rw [fz_own (es := es) (by omega) hgP (by omega) ho]
  unfold slE
  rw [if_neg hne]
  simp
theorem Hold.len {D : Nat} {G : Heap} {ow : Nat → Nat} {id sz : Nat} {x : EV} {es : List EV} (h : Hold D G ow id sz x es) : evLen false x = some es.length := by
 rcases h with ⟨rfl, rfl⟩ | ⟨k, rfl, _⟩ <;> rfl
theorem Hold.one {D : Nat} {G : Heap} {ow : Nat → Nat} {id sz : Nat} {x : EV} {es : List EV} (h : Hold D G ow id sz x es) : x.one = true ∧ x.cells = [x] := by
 rcases h with ⟨rfl, rfl⟩ | ⟨k, rfl, _⟩ <;> exact ⟨rfl, rfl⟩
theorem Hold.readL {H : Heap} {m : Nat} {G : Heap} {ow : Nat → Nat} {id sz : Nat} {x : EV} {es : List EV} (h : Hold (H.length + m) G ow id sz x es) (hne : es ≠ []) :
  ∃ k, x = .own (H.length + m + k) sz 0 es.length ∧ ∀ L : Heap, L.length = m → (H ++ (L ++ G))[H.length + m + k]? = some (some (.row sz es)) := by
 obtain ⟨k, hx, hr⟩ := h.at hne
 exact ⟨k, hx, fun L hL => by rw [← List.append_assoc]; exact hr (H ++ L) (by simp [hL])⟩
theorem Hold.appendL {H : Heap} {m : Nat} {G : Heap} {ow : Nat → Nat} {id sz : Nat} {x : EV} {es : List EV} (h : Hold (H.length + m) G ow id sz x es) (e : EV) (bytes : Nat) (hs : 0 < sz) (he : e.cells.length = sz) (ho : e.cells.all EV.one = true) (hl : es.length ≤ 1000000) (hb : bytes ≤ 1000000) :
  ∃ x' G' ow', (∀ L : Heap, L.length = m → evAppend sz bytes x (.imm sz [e]) (H ++ (L ++ G)) = some (x', H ++ (L ++ G'))) ∧ Hold (H.length + m) G' ow' id sz x' (es ++ [e]) ∧ Others (H.length + m) id G ow G' ow' := by
 obtain ⟨x', G', ow', h1, h2, h3⟩ := h.append e bytes hs he ho hl hb
 exact ⟨x', G', ow', fun L hL => by rw [← List.append_assoc, h1 (H ++ L) (by simp [hL]), List.append_assoc], h2, h3⟩
theorem Hold.writeL {H : Heap} {m : Nat} {G : Heap} {ow : Nat → Nat} {id sz : Nat} {x : EV} {es fs : List EV} (h : Hold (H.length + m) G ow id sz x es) (hne : es ≠ []) (hl : fs.length = es.length) :
  ∃ k G1, x = .own (H.length + m + k) sz 0 es.length ∧ (∀ L : Heap, L.length = m → (H ++ (L ++ G))[H.length + m + k]? = some (some (.row sz es))) ∧ (∀ L : Heap, L.length = m → (H ++ (L ++ G)).set (H.length + m + k) (some (.row sz fs)) = H ++ (L ++ G1)) ∧ Hold (H.length + m) G1 ow id sz x fs ∧ Others (H.length + m) id G ow G1 ow := by
 obtain ⟨k', hx', hr⟩ := h.readL hne
 obtain ⟨k, hx, hk, h1, h2⟩ := h.write hne hl
 have : k' = k := by
  rw [hx] at hx'
  simp only [EV.own.injEq, true_and, and_true] at hx'
  omega
 subst this
 refine ⟨k', _, hx, hr, fun L hL => ?_, h1, h2⟩
 rw [List.set_append_right _ _ (by omega), List.set_append_right _ _ (by omega)]
 congr 3
 omega
theorem Hold.makeL {H : Heap} {m : Nat} (G : Heap) (ow : Nat → Nat) (id sz : Nat) (es : List EV) (hne : es ≠ []) :
  ∃ ow', Hold (H.length + m) (G ++ [some (.row sz es)]) ow' id sz (.own (H.length + m + G.length) sz 0 es.length) es ∧ Others (H.length + m) id G ow (G ++ [some (.row sz es)]) ow' := Hold.make G ow id sz es hne
theorem Hold.writeK {H : Heap} {m k n : Nat} {G : Heap} {ow : Nat → Nat} {id sz : Nat} {es fs : List EV} (h : Hold (H.length + m) G ow id sz (.own (H.length + m + k) sz 0 n) es) (hne : es ≠ []) (hl : fs.length = es.length) :
  ∃ G1, (∀ L : Heap, L.length = m → (H ++ (L ++ G))[H.length + m + k]? = some (some (.row sz es))) ∧ (∀ L : Heap, L.length = m → (H ++ (L ++ G)).set (H.length + m + k) (some (.row sz fs)) = H ++ (L ++ G1)) ∧ Hold (H.length + m) G1 ow id sz (.own (H.length + m + k) sz 0 n) fs ∧ Others (H.length + m) id G ow G1 ow := by
 obtain ⟨k', G1, hx, h1, h2, h3, h4⟩ := h.writeL hne hl
 simp only [EV.own.injEq, true_and] at hx
 obtain ⟨hx, _⟩ := hx
 have : k' = k := by omega
 subst this
 exact ⟨G1, h1, h2, h3, h4⟩
theorem Hold.fz2 {D L : Nat} {G : Heap} {ow : Nat → Nat} {id sz n : Nat} {x : EV} {es fs : List EV} (h : Hold D G ow id sz x es) (P : Heap) (hP : P.length = D) (hL : L ≤ D) (ho : mapO (Abs.fz L (P ++ G) n) es = some fs) : Abs.fz L (P ++ G) (n + 1) x = some (slE sz fs) := by
 rcases h with ⟨rfl, rfl⟩ | ⟨k, rfl, hg, _, hne⟩
 ·simp only [mapO, Option.some.injEq] at ho
  subst ho
  unfold slE
  rw [if_pos rfl]
  exact fz_ok rfl
 ·have hgP : (P ++ G)[D + k]? = some (some (.row sz es)) := by rw [List.getElem?_append_right (by omega), hP, Nat.add_sub_cancel_left]; exact hg
  have h1 : (EV.own (D + k) sz 0 es.length).ok L = false := by simp [EV.ok]; omega
  unfold Abs.fz
  rw [if_neg (by rw [h1]; simp)]
  simp only [hgP, if_pos (show L ≤ D + k by omega)]
  rw [if_pos ⟨trivial, by omega⟩, List.drop_zero, List.take_length, ho]
  have hf : fs ≠ [] := by
   intro e
   subst e
   cases es with
   | nil => exact hne rfl
   | cons a es =>
    simp only [mapO] at ho
    split at ho <;> simp at ho
  unfold slE
  rw [if_neg hf]
  rfl
end Abs
