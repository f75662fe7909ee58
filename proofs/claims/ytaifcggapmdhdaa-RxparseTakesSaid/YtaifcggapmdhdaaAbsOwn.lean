/- A part. -/
import Derived.Test.YtaifcggapmdhdaaNfA
set_option linter.all false
namespace Abs
open Go
def At (W : Heap) (ow : Nat → Nat) (id k : Nat) (b : EB) : Prop := W[k]? = some (some b) ∧ ow k = id
structure Kp (id : Nat) (W : Heap) (ow : Nat → Nat) (W' : Heap) (ow' : Nat → Nat) : Prop where
 len : W.length ≤ W'.length
 at_ : ∀ (k : Nat) (b : EB), W[k]? = some (some b) → ow k ≠ id → W'[k]? = some (some b) ∧ ow' k = ow k
theorem Kp.refl {id : Nat} {W : Heap} {ow : Nat → Nat} : Kp id W ow W ow := ⟨Nat.le_refl _, fun _ _ h _ => ⟨h, rfl⟩⟩
theorem Kp.at {id j k : Nat} {W W' : Heap} {ow ow' : Nat → Nat} {b : EB} (h : Kp id W ow W' ow') (ha : At W ow j k b) (hj : j ≠ id) : At W' ow' j k b := by
 obtain ⟨h1, h2⟩ := h.at_ k b ha.1 (by rw [ha.2]; exact hj)
 exact ⟨h1, h2.trans ha.2⟩
def Hl (W : Heap) (ow : Nat → Nat) (id sz : Nat) (x : EV) (es : List EV) : Prop :=
 (x = .nilsl ∧ es = []) ∨ ∃ k, x = .own k sz 0 es.length ∧ At W ow id k (.row sz es) ∧ es ≠ []
structure Bs (H W : Heap) (ow : Nat → Nat) : Prop where
 len : H.length ≤ W.length
 tk : W.take H.length = H
 ow0 : ∀ k, k < H.length → ow k = 0
theorem Bs.ge {H W : Heap} {ow : Nat → Nat} (h : Bs H W ow) {id k : Nat} {b : EB} (ha : At W ow id k b) (hid : id ≠ 0) : H.length ≤ k := by
 rcases Nat.lt_or_ge k H.length with hk | hk
 ·exact absurd (ha.2.symm.trans (h.ow0 k hk)) hid
 ·exact hk
theorem At.new {W : Heap} (ow : Nat → Nat) (id : Nat) (b : EB) : At (W ++ [some b]) (fun k => if k = W.length then id else ow k) id W.length b := ⟨by simp, by simp⟩
theorem Kp.new {W : Heap} (ow : Nat → Nat) (id j : Nat) (b : EB) : Kp j W ow (W ++ [some b]) (fun k => if k = W.length then id else ow k) := by
 refine ⟨by simp, fun k b' hk _ => ?_⟩
 have hlt := get_lt hk
 exact ⟨by rw [List.getElem?_append_left hlt]; exact hk, if_neg (by omega)⟩
theorem Bs.new {H W : Heap} {ow : Nat → Nat} (h : Bs H W ow) (id : Nat) (b : EB) : Bs H (W ++ [some b]) (fun k => if k = W.length then id else ow k) := by
 refine ⟨by have := h.len; simp; omega, ?_, fun k hk => ?_⟩
 ·rw [List.take_append_of_le_length h.len]; exact h.tk
 ·have := h.len
  rw [if_neg (by omega)]
  exact h.ow0 k hk
theorem Bs.start (H : Heap) : Bs H H fun _ => 0 := ⟨Nat.le_refl _, by simp, fun _ _ => rfl⟩
theorem At.set {W : Heap} {ow : Nat → Nat} {id k : Nat} {b : EB} (h : At W ow id k b) (b' : EB) : At (W.set k (some b')) ow id k b' := ⟨by rw [List.getElem?_set_self (get_lt h.1)], h.2⟩
theorem Kp.set {W : Heap} {ow : Nat → Nat} {id k : Nat} {b : EB} (h : At W ow id k b) (b' : Option EB) : Kp id W ow (W.set k b') ow := by
 refine ⟨by simp, fun j c hj hne => ⟨?_, rfl⟩⟩
 have : k ≠ j := fun e => hne (by rw [← e, h.2])
 rw [List.getElem?_set_ne this]
 exact hj
theorem Bs.set {H W : Heap} {ow : Nat → Nat} {id k : Nat} {b : EB} (hb : Bs H W ow) (h : At W ow id k b) (hid : id ≠ 0) (b' : Option EB) : Bs H (W.set k b') ow := by
 have hk := hb.ge h hid
 refine ⟨by have := hb.len; simpa using this, ?_, hb.ow0⟩
 rw [List.take_set_of_le hk]
 exact hb.tk
theorem Hl.appends {H W : Heap} {ow : Nat → Nat} {id sz : Nat} {x : EV} {es : List EV} (hb : Bs H W ow) (h : Hl W ow id sz x es) (hid : id ≠ 0) (fs : List EV) (hne : fs ≠ []) (bytes : Nat) (hs : 0 < sz) (he : ∀ e ∈ fs, e.cells.length = sz ∧ e.cells.all EV.one = true) (hl : es.length ≤ 1000000) (hf : fs.length ≤ 1000000) (hby : bytes ≤ 10000) :
  ∃ x' W' ow', evAppend sz bytes x (.imm sz fs) W = some (x', W') ∧ Hl W' ow' id sz x' (es ++ fs) ∧ Kp id W ow W' ow' ∧ Bs H W' ow' := by
 have hall : (fs.all fun e => e.cells.length == sz && e.cells.all EV.one) = true := by
  rw [List.all_eq_true]
  intro e hm
  obtain ⟨h1, h2⟩ := he e hm
  simp [h1, h2]
 have hbb : (es.length + fs.length) * bytes ≤ 140737488355328 := by
  have : (es.length + fs.length) * bytes ≤ 2000000 * 10000 := Nat.mul_le_mul (by omega) hby
  omega
 have hfl : 0 < fs.length := List.length_pos_iff.2 hne
 have hbf : fs.length * bytes ≤ 140737488355328 := Nat.le_trans (Nat.mul_le_mul_right _ (by omega)) hbb
 rcases h with ⟨rfl, rfl⟩ | ⟨k, rfl, ha, hne'⟩
 ·refine ⟨.own W.length sz 0 fs.length, W ++ [some (.row sz fs)], fun j => if j = W.length then id else ow j, ?_, .inr ⟨W.length, by simp, by simpa using At.new ow id (.row sz fs), by simpa using hne⟩, Kp.new ow id id _, hb.new id _⟩
  unfold evAppend
  simp only [elems]
  rw [if_pos ⟨hs, hall⟩, if_neg (by omega), if_pos ⟨by omega, hbf⟩]
 ·have hk := get_lt ha.1
  have hk1 := Kp.set ha none
  have hb1 := hb.set ha hid none
  refine ⟨.own W.length sz 0 (es.length + fs.length), W.set k none ++ [some (.row sz (es ++ fs))], fun j => if j = (W.set k none).length then id else ow j, ?_, .inr ⟨W.length, by simp, by simpa using At.new (W := W.set k none) ow id (.row sz (es ++ fs)), by simp [hne]⟩, ?_, hb1.new id _⟩
  ·unfold evAppend
   simp only [elems, ha.1]
   rw [if_pos ⟨hs, hall⟩]
   rw [if_pos ⟨trivial, trivial, trivial, Nat.le_refl _, by omega, hbb⟩]
   simp
  ·have h2 := Kp.new (W := W.set k none) ow id id (.row sz (es ++ fs))
   refine ⟨Nat.le_trans hk1.len h2.len, fun j c hj hne2 => ?_⟩
   obtain ⟨q1, q2⟩ := hk1.at_ j c hj hne2
   exact h2.at_ j c q1 hne2
theorem Hl.append {H W : Heap} {ow : Nat → Nat} {id sz : Nat} {x : EV} {es : List EV} (hb : Bs H W ow) (h : Hl W ow id sz x es) (hid : id ≠ 0) (e : EV) (bytes : Nat) (hs : 0 < sz) (he : e.cells.length = sz) (ho : e.cells.all EV.one = true) (hl : es.length ≤ 1000000) (hby : bytes ≤ 10000) :
  ∃ x' W' ow', evAppend sz bytes x (.imm sz [e]) W = some (x', W') ∧ Hl W' ow' id sz x' (es ++ [e]) ∧ Kp id W ow W' ow' ∧ Bs H W' ow' :=
 h.appends hb hid [e] (by simp) bytes hs (fun y hy => by simp only [List.mem_cons, List.not_mem_nil, or_false] at hy; subst hy; exact ⟨he, ho⟩) hl (by simp) hby
theorem Hl.len {W : Heap} {ow : Nat → Nat} {id sz : Nat} {x : EV} {es : List EV} (h : Hl W ow id sz x es) : evLen false x = some es.length := by
 rcases h with ⟨rfl, rfl⟩ | ⟨k, rfl, _⟩ <;> rfl
theorem Hl.one {W : Heap} {ow : Nat → Nat} {id sz : Nat} {x : EV} {es : List EV} (h : Hl W ow id sz x es) : x.one = true ∧ x.cells = [x] := by
 rcases h with ⟨rfl, rfl⟩ | ⟨k, rfl, _⟩ <;> exact ⟨rfl, rfl⟩
theorem Hl.fz {W : Heap} {ow : Nat → Nat} {id sz n L : Nat} {x : EV} {es fs : List EV} (h : Hl W ow id sz x es) (hL : ∀ k, ow k = id → L ≤ k) (ho : mapO (Abs.fz L W n) es = some fs) : Abs.fz L W (n + 1) x = some (slE sz fs) := by
 rcases h with ⟨rfl, rfl⟩ | ⟨k, rfl, ha, hne⟩
 ·simp only [mapO, Option.some.injEq] at ho
  subst ho
  unfold slE
  rw [if_pos rfl]
  exact fz_ok rfl
 ·have hk := hL k ha.2
  have h1 : (EV.own k sz 0 es.length).ok L = false := by simp [EV.ok]; omega
  unfold Abs.fz
  rw [if_neg (by rw [h1]; simp)]
  simp only [ha.1, if_pos hk]
  rw [if_pos ⟨trivial, by omega⟩, List.drop_zero, List.take_length, ho]
  have hf : fs ≠ [] := by
   intro e
   subst e
   cases es with
   | nil => exact hne rfl
   | cons a es =>
    simp only [mapO] at ho
    split at ho <;> simp at ho
  unfold slE
  rw [if_neg hf]
  rfl
theorem Bs.drop {H W : Heap} {ow : Nat → Nat} (hb : Bs H W ow) {v : EV} {K : EV → ER} {r : ER} (hv : v.ok H.length = true) (e : K v = r) : finV H v K W = some (r, H) := by
 have : W = H ++ W.drop H.length := by
  conv => lhs; rw [← List.take_append_drop H.length W, hb.tk]
 rw [this]
 exact finV_drop hv e
theorem Bs.fz {H W : Heap} {ow : Nat → Nat} (hb : Bs H W ow) {v v' : EV} {K : EV → ER} {r : ER} (hp : newP H.length v = false) (hv : Abs.fz H.length W 8 v = some v') (e : K v' = r) : finV H v K W = some (r, H) := by
 have : W = H ++ W.drop H.length := by
  conv => lhs; rw [← List.take_append_drop H.length W, hb.tk]
 rw [this] at hv ⊢
 exact finV_fz hp hv e
theorem Hl.elems {W : Heap} {ow : Nat → Nat} {id sz : Nat} {x : EV} {es : List EV} (h : Hl W ow id sz x es) : Abs.elems W x = some es := by
 rcases h with ⟨rfl, rfl⟩ | ⟨k, rfl, ha, _⟩
 ·rfl
 ·simp [Abs.elems, ha.1]
theorem Hl.at {W : Heap} {ow : Nat → Nat} {id sz : Nat} {x : EV} {es : List EV} (h : Hl W ow id sz x es) {i : Nat} {e : EV} (he : es[i]? = some e) : ∃ k, x = .own k sz 0 es.length ∧ At W ow id k (.row sz es) ∧ evElem sz (i : Int) x = some (.ptr k sz i 0) := by
 have hi := get_lt he
 rcases h with ⟨rfl, rfl⟩ | ⟨k, rfl, ha, _⟩
 ·simp at he
 ·exact ⟨k, rfl, ha, by simp [evElem, hi]⟩
end Abs
