/- A part. -/
import Derived.Test.YtdcjkdgjlljodaaAbsGrow
import Derived.Shelf.Sort.Plain
import Derived.Shelf.Slices.In.SortNone
set_option linter.all false
namespace Abs
open Go
section
variable {γ : Nat → EV} {φ : Nat → Nat} {I : Nat → Prop} {H : Heap} {w : World}
theorem dt4 (n : Nat) : Evo φ I H w φ I H (Sort.ahead w n) := ⟨Nat.le_refl _, fun _ _ => rfl, fun _ _ _ => rfl, fun _ h => h, fun _ _ => rfl, Nat.le_refl _, fun _ h => .inl h, fun _ h => .inl h, rfl, rfl, rfl, fun _ _ => rfl⟩
theorem eb5 (n : Nat) (h : RH γ φ I H w) : RH γ φ I H (Sort.ahead w n) :=
 ⟨fun g => RV.mono (w := w) (w' := Sort.ahead w n) (Nat.le_refl 0) (fun _ _ => rfl) (fun _ h => h) (fun _ _ => rfl) (fun _ _ _ _ h => h) (h.glob g), fun b x hb => RB.mono (w := w) (w' := Sort.ahead w n) (Nat.le_refl _) (fun _ _ => rfl) (fun _ h => h) (fun _ _ => rfl) (fun _ _ _ _ h => h) rfl (h.blk b x hb), h.inj, h.imm, h.dis, h.lt⟩
theorem bn1 (os : Array Obj) {B : Nat} (hB : B < w.heap.size) : (Sort.grow w os).heap[B]? = w.heap[B]? := by
 show (w.heap ++ os)[B]? = w.heap[B]?
 rw [Array.getElem?_append_left hB]
theorem cf5 (os : Array Obj) {B : Nat} (hB : B < w.heap.size) : (Sort.grow w os).shape? B = w.shape? B := by
 unfold World.shape?
 rw [bn1 os hB]
theorem ef8 (os : Array Obj) : Evo φ I H w φ I H (Sort.grow w os) :=
 ⟨by simp, fun _ h => cf5 os h, fun _ h _ => bn1 os h, fun _ h => h, fun _ _ => rfl, Nat.le_refl _, fun _ h => .inl h, fun _ h => .inl h, rfl, rfl, rfl, fun a ha => by
  unfold World.frozen?
  rw [bn1 os ha]⟩
theorem el4 (os : Array Obj) (h : RH γ φ I H w) : RH γ φ I H (Sort.grow w os) := by
 have lt : ∀ b, b < H.length → ∀ T n, w.shape? (φ b) = some (T, n) → (Sort.grow w os).shape? (φ b) = some (T, n) := fun b _ T n hs => by
  rw [cf5 os, hs]
  unfold World.shape? at hs
  cases hh : w.heap[φ b]? with
  | none => rw [hh] at hs; simp at hs
  | some o => exact (Array.getElem?_eq_some_iff.1 hh).1
 refine ⟨fun g => (h.glob g).mono (w' := Sort.grow w os) (Nat.le_refl _) (fun _ _ => rfl) (fun _ h => h) (fun B hB => bn1 os (h.imm B hB)) (fun b hb => absurd hb (Nat.not_lt_zero b)), fun b x hb => (h.blk b x hb).mono (w' := Sort.grow w os) (Nat.le_refl _) (fun _ _ => rfl) (fun _ h => h) (fun B hB => bn1 os (h.imm B hB)) lt (bn1 os (h.lt b x hb)), h.inj, fun B hB => ?_, h.dis, fun b x hb => ?_⟩
 ·have := h.imm B hB
  rw [Sort.size_grow]
  omega
 ·have := h.lt b x hb
  rw [Sort.size_grow]
  omega
theorem de0 {B : Nat} {c : Array Value} {T : TypeId} {fr : Nat × Nat} (hg : w.heap[B]? = some (.cells c T fr)) (f : Array Value → Array Value) : Sort.mapBlock w B f = w.setRow B (f c) := by
 unfold Sort.mapBlock World.setRow
 congr 1
 refine Array.ext_getElem? fun i => ?_
 rw [Array.getElem?_modify, Array.getElem?_modify]
 split
 ·rename_i e
  subst e
  rw [hg]
  rfl
 ·rfl
open Go.Proofs Go.Shelf Go.Sort Go.RowKit in
theorem ek8 {P : Program} {ρ : Ren} (Ly : Lays.n189 P ρ) (hc : be9 P (ρ.f 189)) {H : Heap} {k : Nat} {l : List Int} (hk : H[k]? = some (some (.row 1 (aa9 l)))) (hl : l.length < 4611686018427387904) :
  CallsA P γ (ρ.f 189) [.own k 1 0 l.length] H fun er H' => er = .ret (.tup []) ∧ H' = H.set k (some (.row 1 (aa9 (l.mergeSort fun x y => decide (x ≤ y))))) := by
 refine ⟨hc, fun φ I w vs hr hv => ?_⟩
 obtain ⟨hn, hv⟩ := hv
 obtain ⟨vl⟩ := vs
 obtain ⟨v, rfl⟩ : ∃ v, vl = [v] := by
  match vl, hn with
  | [v], _ => exact ⟨v, rfl⟩
 have h0 := hv 0 _ v rfl rfl
 generalize hlen : l.length = n at h0
 cases h0 with
 | own0 _ _ _ a hb =>
  have : l = [] := List.length_eq_zero_iff.1 hlen
  subst this
  refine (Any.slices_Sort_int_none Ly _ _ w).mono ?_
  rintro e w' ⟨rfl, rfl⟩
  refine ⟨φ, I, H, .ret (.tup []), Evo.refl _ _ _ _, hr, .ret _ _ (.tup [] #[] rfl (fun _ _ _ h _ => by simp at h)), rfl, ?_⟩
  rw [List.mergeSort_nil]
  refine (List.ext_getElem? fun i => ?_)
  rw [List.getElem?_set]
  split
  ·rename_i e
   subst e
   simp only [aa3 hk, if_true, hk]
  ·rfl
 | own _ _ _ _ cap m T hb hs hcap hle =>
  obtain ⟨c, T', hg, hcs, -, hrv⟩ := hr.blk k _ hk
  have hsz : l.length ≤ c.size := by simpa [aa9] using hcs
  have hcell : ∀ i (hi : i < l.length), c[i]? = some (.int .i64 l[i]) := fun i hi => by
   have hlt : i < c.size := by omega
   have := hrv i 0 (.int .i64 l[i]) (.int .i64 l[i]) c[i] (by simp [aa9, hi]) rfl (by simp [hlt])
   rw [Array.getElem?_eq_getElem hlt]
   generalize c[i] = v at this
   cases this
   rfl
  have hH : Holds (Value.int .i64) w (φ k) (0 * 1) l.toArray := fun j hj => by
   have hj' : j < l.length := by simpa using hj
   refine ⟨?_, ?_⟩
   ·unfold World.cell?
    simp only [hg]
    show c[0 * 1 + j]? = _
    rw [show 0 * 1 + j = j by omega, hcell j hj', getElem!_pos l.toArray j hj]
    rfl
   ·unfold World.frozen?
    simp only [hg]
    simp
  have hc := Any.slices_Sort_int Ly (φ k) (0 * 1) cap l w hH (hr.lt k _ hk) hl
  rw [hlen] at hc
  refine hc.mono ?_
  rintro e w' ⟨rfl, n', os, rfl⟩
  have hg' : (Sort.ahead w n').heap[φ k]? = some (.cells c T' (0, 0)) := hg
  rw [putRow, de0 hg']
  have hs : (putCells (Value.int .i64) (0 * 1) (l.mergeSort fun x y => decide (x ≤ y)).toArray c).size = c.size := by simp [putCells]
  refine ⟨φ, I, _, .ret (.tup []), (dt4 n').trans ((ax7 hk hg' hs).trans (ef8 os)), el4 os (bq0 (eb5 n' hr) hk hg' hs ?_), .ret _ _ (.tup [] #[] rfl (fun _ _ _ h _ => by simp at h)), rfl, rfl⟩
  refine ⟨_, T', setRow_heap _ _ _ _ _ _ hg', ?_, fun e he => ?_, fun i j e x v he hx hv => ?_⟩
  ·rw [hs]
   simpa [aa9] using hsz
  ·obtain ⟨_, _, rfl⟩ := List.mem_map.1 he
   rfl
  ·simp only [aa9, List.getElem?_map] at he
   cases hi : (l.mergeSort fun x y => decide (x ≤ y))[i]? with
   | none => rw [hi] at he; simp at he
   | some z =>
    rw [hi] at he
    simp only [Option.map_some, Option.some.injEq] at he
    subst he
    cases j with
    | succ j => simp [EV.cells] at hx
    | zero =>
     simp only [EV.cells, List.getElem?_cons_zero, Option.some.injEq] at hx
     subst hx
     obtain ⟨hil, hz⟩ := List.getElem?_eq_some_iff.1 hi
     have hil' : i < l.length := by simpa using hil
     have hic : i < c.size := by omega
     rw [show i * 1 + 0 = i by omega] at hv
     simp only [putCells, Array.getElem?_mapIdx, Array.getElem?_eq_getElem hic, Option.map_some, Option.some.injEq] at hv
     rw [if_pos ⟨by omega, by simp; omega⟩, show i - 0 * 1 = i by omega, getElem!_pos (l.mergeSort fun x y => decide (x ≤ y)).toArray i (by simpa using hil)] at hv
     simp only [List.getElem_toArray] at hv
     rw [hz] at hv
     subst hv
     exact .int _ _
end
def At (W : Heap) (ow : Nat → Nat) (id k : Nat) (b : EB) : Prop := W[k]? = some (some b) ∧ ow k = id
structure Kp (id : Nat) (W : Heap) (ow : Nat → Nat) (W' : Heap) (ow' : Nat → Nat) : Prop where
 len : W.length ≤ W'.length
 at_ : ∀ (k : Nat) (b : EB), W[k]? = some (some b) → ow k ≠ id → W'[k]? = some (some b) ∧ ow' k = ow k
theorem Kp.refl {id : Nat} {W : Heap} {ow : Nat → Nat} : Kp id W ow W ow := ⟨Nat.le_refl _, fun _ _ h _ => ⟨h, rfl⟩⟩
theorem Kp.at {id j k : Nat} {W W' : Heap} {ow ow' : Nat → Nat} {b : EB} (h : Kp id W ow W' ow') (ha : At W ow j k b) (hj : j ≠ id) : At W' ow' j k b := by
 obtain ⟨h1, h2⟩ := h.at_ k b ha.1 (by rw [ha.2]; exact hj)
 exact ⟨h1, h2.trans ha.2⟩
def Hl (W : Heap) (ow : Nat → Nat) (id sz : Nat) (x : EV) (es : List EV) : Prop :=
 (x = .nilsl ∧ es = []) ∨ ∃ k, x = .own k sz 0 es.length ∧ At W ow id k (.row sz es) ∧ es ≠ []
theorem Kp.hl {id j sz : Nat} {W W' : Heap} {ow ow' : Nat → Nat} {x : EV} {es : List EV} (h : Kp id W ow W' ow') (ha : Hl W ow j sz x es) (hj : j ≠ id) : Hl W' ow' j sz x es := by
 rcases ha with ha | ⟨k, hx, ha, hne⟩
 ·exact .inl ha
 ·exact .inr ⟨k, hx, h.at ha hj, hne⟩
structure Bs (H W : Heap) (ow : Nat → Nat) : Prop where
 len : H.length ≤ W.length
 tk : W.take H.length = H
 ow0 : ∀ k, k < H.length → ow k = 0
theorem Bs.ge {H W : Heap} {ow : Nat → Nat} (h : Bs H W ow) {id k : Nat} {b : EB} (ha : At W ow id k b) (hid : id ≠ 0) : H.length ≤ k := by
 rcases Nat.lt_or_ge k H.length with hk | hk
 ·exact absurd (ha.2.symm.trans (h.ow0 k hk)) hid
 ·exact hk
theorem At.new {W : Heap} (ow : Nat → Nat) (id : Nat) (b : EB) : At (W ++ [some b]) (fun k => if k = W.length then id else ow k) id W.length b := ⟨by simp, by simp⟩
theorem Kp.new {W : Heap} (ow : Nat → Nat) (id j : Nat) (b : EB) : Kp j W ow (W ++ [some b]) (fun k => if k = W.length then id else ow k) := by
 refine ⟨by simp, fun k b' hk _ => ?_⟩
 have hlt := aa3 hk
 exact ⟨by rw [List.getElem?_append_left hlt]; exact hk, if_neg (by omega)⟩
theorem Bs.new {H W : Heap} {ow : Nat → Nat} (h : Bs H W ow) (id : Nat) (b : EB) : Bs H (W ++ [some b]) (fun k => if k = W.length then id else ow k) := by
 refine ⟨by have := h.len; simp; omega, ?_, fun k hk => ?_⟩
 ·rw [List.take_append_of_le_length h.len]; exact h.tk
 ·have := h.len
  rw [if_neg (by omega)]
  exact h.ow0 k hk
theorem Bs.start (H : Heap) : Bs H H fun _ => 0 := ⟨Nat.le_refl _, by simp, fun _ _ => rfl⟩
theorem At.set {W : Heap} {ow : Nat → Nat} {id k : Nat} {b : EB} (h : At W ow id k b) (b' : EB) : At (W.set k (some b')) ow id k b' := ⟨by rw [List.getElem?_set_self (aa3 h.1)], h.2⟩
theorem Kp.set {W : Heap} {ow : Nat → Nat} {id k : Nat} {b : EB} (h : At W ow id k b) (b' : Option EB) : Kp id W ow (W.set k b') ow := by
 refine ⟨by simp, fun j c hj hne => ⟨?_, rfl⟩⟩
 have : k ≠ j := fun e => hne (by rw [← e, h.2])
 rw [List.getElem?_set_ne this]
 exact hj
theorem Bs.set {H W : Heap} {ow : Nat → Nat} {id k : Nat} {b : EB} (hb : Bs H W ow) (h : At W ow id k b) (hid : id ≠ 0) (b' : Option EB) : Bs H (W.set k b') ow := by
 have hk := hb.ge h hid
 refine ⟨by have := hb.len; simpa using this, ?_, hb.ow0⟩
 rw [List.take_set_of_le hk]
 exact hb.tk
theorem Hl.appends {H W : Heap} {ow : Nat → Nat} {id sz : Nat} {x : EV} {es : List EV} (hb : Bs H W ow) (h : Hl W ow id sz x es) (hid : id ≠ 0) (fs : List EV) (hne : fs ≠ []) (bytes : Nat) (hs : 0 < sz) (he : ∀ e ∈ fs, e.cells.length = sz ∧ e.cells.all EV.one = true) (hl : es.length ≤ 1000000) (hf : fs.length ≤ 1000000) (hby : bytes ≤ 10000) :
  ∃ x' W' ow', ab7 sz bytes x (.imm sz fs) W = some (x', W') ∧ Hl W' ow' id sz x' (es ++ fs) ∧ Kp id W ow W' ow' ∧ Bs H W' ow' := by
 have hall : (fs.all fun e => e.cells.length == sz && e.cells.all EV.one) = true := by
  rw [List.all_eq_true]
  intro e hm
  obtain ⟨h1, h2⟩ := he e hm
  simp [h1, h2]
 have hbb : (es.length + fs.length) * bytes ≤ 140737488355328 := by
  have : (es.length + fs.length) * bytes ≤ 2000000 * 10000 := Nat.mul_le_mul (by omega) hby
  omega
 have hfl : 0 < fs.length := List.length_pos_iff.2 hne
 have hbf : fs.length * bytes ≤ 140737488355328 := Nat.le_trans (Nat.mul_le_mul_right _ (by omega)) hbb
 rcases h with ⟨rfl, rfl⟩ | ⟨k, rfl, ha, hne'⟩
 ·refine ⟨.own W.length sz 0 fs.length, W ++ [some (.row sz fs)], fun j => if j = W.length then id else ow j, ?_, .inr ⟨W.length, by simp, by simpa using At.new ow id (.row sz fs), by simpa using hne⟩, Kp.new ow id id _, hb.new id _⟩
  unfold ab7
  simp only [bh7]
  rw [if_pos ⟨hs, hall⟩, if_neg (by omega), if_pos ⟨by omega, hbf⟩]
 ·have hk := aa3 ha.1
  have hk1 := Kp.set ha none
  have hb1 := hb.set ha hid none
  refine ⟨.own W.length sz 0 (es.length + fs.length), W.set k none ++ [some (.row sz (es ++ fs))], fun j => if j = (W.set k none).length then id else ow j, ?_, .inr ⟨W.length, by simp, by simpa using At.new (W := W.set k none) ow id (.row sz (es ++ fs)), by simp [hne]⟩, ?_, hb1.new id _⟩
  ·unfold ab7
   simp only [bh7, ha.1]
   rw [if_pos ⟨hs, hall⟩]
   rw [if_pos ⟨trivial, trivial, trivial, Nat.le_refl _, by omega, hbb⟩]
   simp
  ·have h2 := Kp.new (W := W.set k none) ow id id (.row sz (es ++ fs))
   refine ⟨Nat.le_trans hk1.len h2.len, fun j c hj hne2 => ?_⟩
   obtain ⟨q1, q2⟩ := hk1.at_ j c hj hne2
   exact h2.at_ j c q1 hne2
theorem Hl.append {H W : Heap} {ow : Nat → Nat} {id sz : Nat} {x : EV} {es : List EV} (hb : Bs H W ow) (h : Hl W ow id sz x es) (hid : id ≠ 0) (e : EV) (bytes : Nat) (hs : 0 < sz) (he : e.cells.length = sz) (ho : e.cells.all EV.one = true) (hl : es.length ≤ 1000000) (hby : bytes ≤ 10000) :
  ∃ x' W' ow', ab7 sz bytes x (.imm sz [e]) W = some (x', W') ∧ Hl W' ow' id sz x' (es ++ [e]) ∧ Kp id W ow W' ow' ∧ Bs H W' ow' :=
 h.appends hb hid [e] (by simp) bytes hs (fun y hy => by simp only [List.mem_cons, List.not_mem_nil, or_false] at hy; subst hy; exact ⟨he, ho⟩) hl (by simp) hby
theorem Hl.len {W : Heap} {ow : Nat → Nat} {id sz : Nat} {x : EV} {es : List EV} (h : Hl W ow id sz x es) : bo5 false x = some es.length := by
 rcases h with ⟨rfl, rfl⟩ | ⟨k, rfl, _⟩ <;> rfl
theorem Hl.one {W : Heap} {ow : Nat → Nat} {id sz : Nat} {x : EV} {es : List EV} (h : Hl W ow id sz x es) : x.one = true ∧ x.cells = [x] := by
 rcases h with ⟨rfl, rfl⟩ | ⟨k, rfl, _⟩ <;> exact ⟨rfl, rfl⟩
theorem Hl.fz {W : Heap} {ow : Nat → Nat} {id sz n L : Nat} {x : EV} {es fs : List EV} (h : Hl W ow id sz x es) (hL : ∀ k, ow k = id → L ≤ k) (ho : mapO (Abs.fz L W n) es = some fs) : Abs.fz L W (n + 1) x = some (slE sz fs) := by
 rcases h with ⟨rfl, rfl⟩ | ⟨k, rfl, ha, hne⟩
 ·simp only [mapO, Option.some.injEq] at ho
  subst ho
  unfold slE
  rw [if_pos rfl]
  exact bf6 rfl
 ·have hk := hL k ha.2
  have h1 : (EV.own k sz 0 es.length).ok L = false := by simp [EV.ok]; omega
  unfold Abs.fz
  rw [if_neg (by rw [h1]; simp)]
  simp only [ha.1, if_pos hk]
  rw [if_pos ⟨trivial, by omega⟩, List.drop_zero, List.take_length, ho]
  have hf : fs ≠ [] := by
   intro e
   subst e
   cases es with
   | nil => exact hne rfl
   | cons a es =>
    simp only [mapO] at ho
    split at ho <;> simp at ho
  unfold slE
  rw [if_neg hf]
  rfl
theorem Bs.drop {H W : Heap} {ow : Nat → Nat} (hb : Bs H W ow) {v : EV} {K : EV → ER} {r : ER} (hv : v.ok H.length = true) (e : K v = r) : finV H v K W = some (r, H) := by
 have : W = H ++ W.drop H.length := by
  conv => lhs; rw [← List.take_append_drop H.length W, hb.tk]
 rw [this]
 exact aa4 hv e
theorem Bs.fz {H W : Heap} {ow : Nat → Nat} (hb : Bs H W ow) {v v' : EV} {K : EV → ER} {r : ER} (hp : newP H.length v = false) (hv : Abs.fz H.length W 8 v = some v') (e : K v' = r) : finV H v K W = some (r, H) := by
 have : W = H ++ W.drop H.length := by
  conv => lhs; rw [← List.take_append_drop H.length W, hb.tk]
 rw [this] at hv ⊢
 exact ca3 hp hv e
theorem Hl.at {W : Heap} {ow : Nat → Nat} {id sz : Nat} {x : EV} {es : List EV} (h : Hl W ow id sz x es) {i : Nat} {e : EV} (he : es[i]? = some e) : ∃ k, x = .own k sz 0 es.length ∧ At W ow id k (.row sz es) ∧ bc8 sz (i : Int) x = some (.ptr k sz i 0) := by
 have hi := aa3 he
 rcases h with ⟨rfl, rfl⟩ | ⟨k, rfl, ha, _⟩
 ·simp at he
 ·exact ⟨k, rfl, ha, by simp [bc8, hi]⟩
end Abs
