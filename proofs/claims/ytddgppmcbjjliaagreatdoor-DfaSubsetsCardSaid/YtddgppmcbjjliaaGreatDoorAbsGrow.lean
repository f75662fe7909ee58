/- A part. -/
import Derived.Test.YtddgppmcbjjliaaGreatDoorNfA
set_option linter.all false
namespace Abs
open Go
def Hold (D : Nat) (G : Heap) (ow : Nat → Nat) (id sz : Nat) (x : EV) (es : List EV) : Prop :=
 (x = .nilsl ∧ es = []) ∨ ∃ k, x = .own (D + k) sz 0 es.length ∧ G[k]? = some (some (.row sz es)) ∧ ow k = id ∧ es ≠ []
def Others (D : Nat) (id : Nat) (G : Heap) (ow : Nat → Nat) (G' : Heap) (ow' : Nat → Nat) : Prop :=
 ∀ (j sz : Nat) (x : EV) (es : List EV), j ≠ id → Hold D G ow j sz x es → Hold D G' ow' j sz x es
theorem Others.refl {D id : Nat} {G : Heap} {ow : Nat → Nat} : Others D id G ow G ow := fun _ _ _ _ _ h => h
theorem Hold.at {D : Nat} {G : Heap} {ow : Nat → Nat} {id sz : Nat} {x : EV} {es : List EV} (h : Hold D G ow id sz x es) (hne : es ≠ []) : ∃ k, x = .own (D + k) sz 0 es.length ∧ ∀ P : Heap, P.length = D → (P ++ G)[D + k]? = some (some (.row sz es)) := by
 rcases h with ⟨_, h⟩ | ⟨k, hx, hg, _, _⟩
 ·exact absurd h hne
 ·exact ⟨k, hx, fun P hP => by rw [List.getElem?_append_right (by omega), hP, Nat.add_sub_cancel_left]; exact hg⟩
theorem Hold.append {D : Nat} {G : Heap} {ow : Nat → Nat} {id sz : Nat} {x : EV} {es : List EV} (h : Hold D G ow id sz x es) (e : EV) (bytes : Nat) (hs : 0 < sz) (he : e.cells.length = sz) (ho : e.cells.all EV.one = true) (hl : es.length ≤ 1000000) (hb : bytes ≤ 1000000) :
  ∃ x' G' ow', (∀ P : Heap, P.length = D → ad2 sz bytes x (.imm sz [e]) (P ++ G) = some (x', P ++ G')) ∧ Hold D G' ow' id sz x' (es ++ [e]) ∧ Others D id G ow G' ow' := by
 have hall : ([e].all fun e => e.cells.length == sz && e.cells.all EV.one) = true := by simp only [List.all_cons, List.all_nil, Bool.and_true, he, beq_self_eq_true, Bool.true_and]; exact ho
 have hbb : (es.length + 1) * bytes ≤ 140737488355328 := by
  have : (es.length + 1) * bytes ≤ 1000001 * 1000000 := Nat.mul_le_mul (by omega) hb
  omega
 rcases h with ⟨rfl, rfl⟩ | ⟨k, rfl, hg, hid, hne⟩
 ·refine ⟨.own (D + G.length) sz 0 1, G ++ [some (.row sz [e])], fun j => if j = G.length then id else ow j, fun P hP => ?_, .inr ⟨G.length, rfl, by simp, by simp, by simp⟩, fun j sz' y fs hj hy => ?_⟩
  ·unfold ad2
   simp only [elems]
   rw [if_pos ⟨hs, hall⟩]
   simp only [List.length_cons, List.length_nil, Nat.zero_add]
   rw [if_neg (by omega), if_pos ⟨by omega, by simpa using hbb⟩, List.length_append, hP, List.append_assoc]
  ·rcases hy with hy | ⟨k, hx, hg, hid, hne⟩
   ·exact .inl hy
   ·have hk := (List.getElem?_eq_some_iff.1 hg).1
    exact .inr ⟨k, hx, by rw [List.getElem?_append_left hk]; exact hg, by simp only; rw [if_neg (by omega)]; exact hid, hne⟩
 ·have hk := (List.getElem?_eq_some_iff.1 hg).1
  refine ⟨.own (D + G.length) sz 0 (es.length + 1), G.set k none ++ [some (.row sz (es ++ [e]))], fun j => if j = G.length then id else ow j, fun P hP => ?_, .inr ⟨G.length, by simp, by rw [List.getElem?_append_right (by simp)]; simp, by simp, by simp⟩, fun j sz' y fs hj hy => ?_⟩
  ·have hgP : (P ++ G)[D + k]? = some (some (.row sz es)) := by rw [List.getElem?_append_right (by omega), hP, Nat.add_sub_cancel_left]; exact hg
   unfold ad2
   simp only [elems]
   rw [if_pos ⟨hs, hall⟩]
   simp only [hgP]
   rw [if_pos ⟨trivial, trivial, trivial, Nat.le_refl _, by simp; omega, by simpa using hbb⟩, List.set_append_right _ _ (by omega), hP, Nat.add_sub_cancel_left]
   simp [hP]
  ·rcases hy with hy | ⟨k', hx, hg', hid', hne'⟩
   ·exact .inl hy
   ·have hk' := (List.getElem?_eq_some_iff.1 hg').1
    have hkk : k ≠ k' := fun e => hj (by rw [← hid', ← hid, e])
    exact .inr ⟨k', hx, by rw [List.getElem?_append_left (by rw [List.length_set]; exact hk'), List.getElem?_set_ne hkk]; exact hg', by simp only; rw [if_neg (by omega)]; exact hid', hne'⟩
theorem Hold.fz {D L : Nat} {G : Heap} {ow : Nat → Nat} {id sz n : Nat} {x : EV} {es : List EV} (h : Hold D G ow id sz x es) (P : Heap) (hP : P.length = D) (hL : L ≤ D) (ho : okL L es = true) : Abs.fz L (P ++ G) (n + 1) x = some (slE sz es) := by
 rcases h with ⟨rfl, rfl⟩ | ⟨k, rfl, hg, _, hne⟩
 ·unfold slE
  rw [if_pos rfl]
  exact bz0 rfl
 ·have hgP : (P ++ G)[D + k]? = some (some (.row sz es)) := by rw [List.getElem?_append_right (by omega), hP, Nat.add_sub_cancel_left]; exact hg
  rw [eg0 (es := es) (by omega) hgP (by omega) ho]
  unfold slE
  rw [if_neg hne]
  simp
theorem Hold.len {D : Nat} {G : Heap} {ow : Nat → Nat} {id sz : Nat} {x : EV} {es : List EV} (h : Hold D G ow id sz x es) : bd7 false x = some es.length := by
 rcases h with ⟨rfl, rfl⟩ | ⟨k, rfl, _⟩ <;> rfl
theorem Hold.one {D : Nat} {G : Heap} {ow : Nat → Nat} {id sz : Nat} {x : EV} {es : List EV} (h : Hold D G ow id sz x es) : x.one = true ∧ x.cells = [x] := by
 rcases h with ⟨rfl, rfl⟩ | ⟨k, rfl, _⟩ <;> exact ⟨rfl, rfl⟩
theorem Hold.appendL {H : Heap} {m : Nat} {G : Heap} {ow : Nat → Nat} {id sz : Nat} {x : EV} {es : List EV} (h : Hold (H.length + m) G ow id sz x es) (e : EV) (bytes : Nat) (hs : 0 < sz) (he : e.cells.length = sz) (ho : e.cells.all EV.one = true) (hl : es.length ≤ 1000000) (hb : bytes ≤ 1000000) :
  ∃ x' G' ow', (∀ L : Heap, L.length = m → ad2 sz bytes x (.imm sz [e]) (H ++ (L ++ G)) = some (x', H ++ (L ++ G'))) ∧ Hold (H.length + m) G' ow' id sz x' (es ++ [e]) ∧ Others (H.length + m) id G ow G' ow' := by
 obtain ⟨x', G', ow', h1, h2, h3⟩ := h.append e bytes hs he ho hl hb
 exact ⟨x', G', ow', fun L hL => by rw [← List.append_assoc, h1 (H ++ L) (by simp [hL]), List.append_assoc], h2, h3⟩
def At (W : Heap) (ow : Nat → Nat) (id k : Nat) (b : EB) : Prop := W[k]? = some (some b) ∧ ow k = id
structure Kp (id : Nat) (W : Heap) (ow : Nat → Nat) (W' : Heap) (ow' : Nat → Nat) : Prop where
 len : W.length ≤ W'.length
 at_ : ∀ (k : Nat) (b : EB), W[k]? = some (some b) → ow k ≠ id → W'[k]? = some (some b) ∧ ow' k = ow k
theorem Kp.refl {id : Nat} {W : Heap} {ow : Nat → Nat} : Kp id W ow W ow := ⟨Nat.le_refl _, fun _ _ h _ => ⟨h, rfl⟩⟩
theorem Kp.at {id j k : Nat} {W W' : Heap} {ow ow' : Nat → Nat} {b : EB} (h : Kp id W ow W' ow') (ha : At W ow j k b) (hj : j ≠ id) : At W' ow' j k b := by
 obtain ⟨h1, h2⟩ := h.at_ k b ha.1 (by rw [ha.2]; exact hj)
 exact ⟨h1, h2.trans ha.2⟩
def Hl (W : Heap) (ow : Nat → Nat) (id sz : Nat) (x : EV) (es : List EV) : Prop :=
 (x = .nilsl ∧ es = []) ∨ ∃ k, x = .own k sz 0 es.length ∧ At W ow id k (.row sz es) ∧ es ≠ []
theorem Kp.hl {id j sz : Nat} {W W' : Heap} {ow ow' : Nat → Nat} {x : EV} {es : List EV} (h : Kp id W ow W' ow') (ha : Hl W ow j sz x es) (hj : j ≠ id) : Hl W' ow' j sz x es := by
 rcases ha with ha | ⟨k, hx, ha, hne⟩
 ·exact .inl ha
 ·exact .inr ⟨k, hx, h.at ha hj, hne⟩
structure Bs (H W : Heap) (ow : Nat → Nat) : Prop where
 len : H.length ≤ W.length
 tk : W.take H.length = H
 ow0 : ∀ k, k < H.length → ow k = 0
theorem Bs.ge {H W : Heap} {ow : Nat → Nat} (h : Bs H W ow) {id k : Nat} {b : EB} (ha : At W ow id k b) (hid : id ≠ 0) : H.length ≤ k := by
 rcases Nat.lt_or_ge k H.length with hk | hk
 ·exact absurd (ha.2.symm.trans (h.ow0 k hk)) hid
 ·exact hk
theorem At.new {W : Heap} (ow : Nat → Nat) (id : Nat) (b : EB) : At (W ++ [some b]) (fun k => if k = W.length then id else ow k) id W.length b := ⟨by simp, by simp⟩
theorem Kp.new {W : Heap} (ow : Nat → Nat) (id j : Nat) (b : EB) : Kp j W ow (W ++ [some b]) (fun k => if k = W.length then id else ow k) := by
 refine ⟨by simp, fun k b' hk _ => ?_⟩
 have hlt := aa9 hk
 exact ⟨by rw [List.getElem?_append_left hlt]; exact hk, if_neg (by omega)⟩
theorem Bs.new {H W : Heap} {ow : Nat → Nat} (h : Bs H W ow) (id : Nat) (b : EB) : Bs H (W ++ [some b]) (fun k => if k = W.length then id else ow k) := by
 refine ⟨by have := h.len; simp; omega, ?_, fun k hk => ?_⟩
 ·rw [List.take_append_of_le_length h.len]; exact h.tk
 ·have := h.len
  rw [if_neg (by omega)]
  exact h.ow0 k hk
theorem Bs.start (H : Heap) : Bs H H fun _ => 0 := ⟨Nat.le_refl _, by simp, fun _ _ => rfl⟩
theorem At.set {W : Heap} {ow : Nat → Nat} {id k : Nat} {b : EB} (h : At W ow id k b) (b' : EB) : At (W.set k (some b')) ow id k b' := ⟨by rw [List.getElem?_set_self (aa9 h.1)], h.2⟩
theorem Kp.set {W : Heap} {ow : Nat → Nat} {id k : Nat} {b : EB} (h : At W ow id k b) (b' : Option EB) : Kp id W ow (W.set k b') ow := by
 refine ⟨by simp, fun j c hj hne => ⟨?_, rfl⟩⟩
 have : k ≠ j := fun e => hne (by rw [← e, h.2])
 rw [List.getElem?_set_ne this]
 exact hj
theorem Bs.set {H W : Heap} {ow : Nat → Nat} {id k : Nat} {b : EB} (hb : Bs H W ow) (h : At W ow id k b) (hid : id ≠ 0) (b' : Option EB) : Bs H (W.set k b') ow := by
 have hk := hb.ge h hid
 refine ⟨by have := hb.len; simpa using this, ?_, hb.ow0⟩
 rw [List.take_set_of_le hk]
 exact hb.tk
theorem Hl.appends {H W : Heap} {ow : Nat → Nat} {id sz : Nat} {x : EV} {es : List EV} (hb : Bs H W ow) (h : Hl W ow id sz x es) (hid : id ≠ 0) (fs : List EV) (hne : fs ≠ []) (bytes : Nat) (hs : 0 < sz) (he : ∀ e ∈ fs, e.cells.length = sz ∧ e.cells.all EV.one = true) (hl : es.length ≤ 1000000) (hf : fs.length ≤ 1000000) (hby : bytes ≤ 10000) :
  ∃ x' W' ow', ad2 sz bytes x (.imm sz fs) W = some (x', W') ∧ Hl W' ow' id sz x' (es ++ fs) ∧ Kp id W ow W' ow' ∧ Bs H W' ow' := by
 have hall : (fs.all fun e => e.cells.length == sz && e.cells.all EV.one) = true := by
  rw [List.all_eq_true]
  intro e hm
  obtain ⟨h1, h2⟩ := he e hm
  simp [h1, h2]
 have hbb : (es.length + fs.length) * bytes ≤ 140737488355328 := by
  have : (es.length + fs.length) * bytes ≤ 2000000 * 10000 := Nat.mul_le_mul (by omega) hby
  omega
 have hfl : 0 < fs.length := List.length_pos_iff.2 hne
 have hbf : fs.length * bytes ≤ 140737488355328 := Nat.le_trans (Nat.mul_le_mul_right _ (by omega)) hbb
 rcases h with ⟨rfl, rfl⟩ | ⟨k, rfl, ha, hne'⟩
 ·refine ⟨.own W.length sz 0 fs.length, W ++ [some (.row sz fs)], fun j => if j = W.length then id else ow j, ?_, .inr ⟨W.length, by simp, by simpa using At.new ow id (.row sz fs), by simpa using hne⟩, Kp.new ow id id _, hb.new id _⟩
  unfold ad2
  simp only [elems]
  rw [if_pos ⟨hs, hall⟩, if_neg (by omega), if_pos ⟨by omega, hbf⟩]
 ·have hk := aa9 ha.1
  have hk1 := Kp.set ha none
  have hb1 := hb.set ha hid none
  refine ⟨.own W.length sz 0 (es.length + fs.length), W.set k none ++ [some (.row sz (es ++ fs))], fun j => if j = (W.set k none).length then id else ow j, ?_, .inr ⟨W.length, by simp, by simpa using At.new (W := W.set k none) ow id (.row sz (es ++ fs)), by simp [hne]⟩, ?_, hb1.new id _⟩
  ·unfold ad2
   simp only [elems, ha.1]
   rw [if_pos ⟨hs, hall⟩]
   rw [if_pos ⟨trivial, trivial, trivial, Nat.le_refl _, by omega, hbb⟩]
   simp
  ·have h2 := Kp.new (W := W.set k none) ow id id (.row sz (es ++ fs))
   refine ⟨Nat.le_trans hk1.len h2.len, fun j c hj hne2 => ?_⟩
   obtain ⟨q1, q2⟩ := hk1.at_ j c hj hne2
   exact h2.at_ j c q1 hne2
theorem Hl.append {H W : Heap} {ow : Nat → Nat} {id sz : Nat} {x : EV} {es : List EV} (hb : Bs H W ow) (h : Hl W ow id sz x es) (hid : id ≠ 0) (e : EV) (bytes : Nat) (hs : 0 < sz) (he : e.cells.length = sz) (ho : e.cells.all EV.one = true) (hl : es.length ≤ 1000000) (hby : bytes ≤ 10000) :
  ∃ x' W' ow', ad2 sz bytes x (.imm sz [e]) W = some (x', W') ∧ Hl W' ow' id sz x' (es ++ [e]) ∧ Kp id W ow W' ow' ∧ Bs H W' ow' :=
 h.appends hb hid [e] (by simp) bytes hs (fun y hy => by simp only [List.mem_cons, List.not_mem_nil, or_false] at hy; subst hy; exact ⟨he, ho⟩) hl (by simp) hby
theorem Hl.len {W : Heap} {ow : Nat → Nat} {id sz : Nat} {x : EV} {es : List EV} (h : Hl W ow id sz x es) : bd7 false x = some es.length := by
 rcases h with ⟨rfl, rfl⟩ | ⟨k, rfl, _⟩ <;> rfl
theorem Hl.one {W : Heap} {ow : Nat → Nat} {id sz : Nat} {x : EV} {es : List EV} (h : Hl W ow id sz x es) : x.one = true ∧ x.cells = [x] := by
 rcases h with ⟨rfl, rfl⟩ | ⟨k, rfl, _⟩ <;> exact ⟨rfl, rfl⟩
theorem Hl.fz {W : Heap} {ow : Nat → Nat} {id sz n L : Nat} {x : EV} {es fs : List EV} (h : Hl W ow id sz x es) (hL : ∀ k, ow k = id → L ≤ k) (ho : mapO (Abs.fz L W n) es = some fs) : Abs.fz L W (n + 1) x = some (slE sz fs) := by
 rcases h with ⟨rfl, rfl⟩ | ⟨k, rfl, ha, hne⟩
 ·simp only [mapO, Option.some.injEq] at ho
  subst ho
  unfold slE
  rw [if_pos rfl]
  exact bz0 rfl
 ·have hk := hL k ha.2
  have h1 : (EV.own k sz 0 es.length).ok L = false := by simp [EV.ok]; omega
  unfold Abs.fz
  rw [if_neg (by rw [h1]; simp)]
  simp only [ha.1, if_pos hk]
  rw [if_pos ⟨trivial, by omega⟩, List.drop_zero, List.take_length, ho]
  have hf : fs ≠ [] := by
   intro e
   subst e
   cases es with
   | nil => exact hne rfl
   | cons a es =>
    simp only [mapO] at ho
    split at ho <;> simp at ho
  unfold slE
  rw [if_neg hf]
  rfl
theorem Bs.drop {H W : Heap} {ow : Nat → Nat} (hb : Bs H W ow) {v : EV} {K : EV → ER} {r : ER} (hv : v.ok H.length = true) (e : K v = r) : finV H v K W = some (r, H) := by
 have : W = H ++ W.drop H.length := by
  conv => lhs; rw [← List.take_append_drop H.length W, hb.tk]
 rw [this]
 exact ab4 hv e
theorem Bs.fz {H W : Heap} {ow : Nat → Nat} (hb : Bs H W ow) {v v' : EV} {K : EV → ER} {r : ER} (hp : newP H.length v = false) (hv : Abs.fz H.length W 8 v = some v') (e : K v' = r) : finV H v K W = some (r, H) := by
 have : W = H ++ W.drop H.length := by
  conv => lhs; rw [← List.take_append_drop H.length W, hb.tk]
 rw [this] at hv ⊢
 exact df7 hp hv e
theorem Hl.elems {W : Heap} {ow : Nat → Nat} {id sz : Nat} {x : EV} {es : List EV} (h : Hl W ow id sz x es) : Abs.elems W x = some es := by
 rcases h with ⟨rfl, rfl⟩ | ⟨k, rfl, ha, _⟩
 ·rfl
 ·simp [Abs.elems, ha.1]
theorem Hl.at {W : Heap} {ow : Nat → Nat} {id sz : Nat} {x : EV} {es : List EV} (h : Hl W ow id sz x es) {i : Nat} {e : EV} (he : es[i]? = some e) : ∃ k, x = .own k sz 0 es.length ∧ At W ow id k (.row sz es) ∧ ar2 sz (i : Int) x = some (.ptr k sz i 0) := by
 have hi := aa9 he
 rcases h with ⟨rfl, rfl⟩ | ⟨k, rfl, ha, _⟩
 ·simp at he
 ·exact ⟨k, rfl, ha, by simp [ar2, hi]⟩
end Abs
