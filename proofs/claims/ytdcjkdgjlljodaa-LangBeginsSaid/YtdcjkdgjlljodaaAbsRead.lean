/- A part. -/
import Derived.Test.YtdcjkdgjlljodaaAbs14
import Derived.ProofKit
import Derived.Deep.Slices
import Derived.OpenShut
import Derived.ChangeArms
set_option linter.all false
namespace Abs
open Go Go.ChangeShapes Go.WideShapes
def aggT (P : Program) (t : TypeId) : Bool :=
 match P.underlying t with
 | some d => aggD d
 | none => false
def av1 (P : Program) (t : TypeId) (cs : List EV) : EV := if aggT P t then .agg cs else cs.headD .undef
def ak8 (P : Program) : Nat → TypeId → List EV → Prop
 | 0, _, _ => False
 | D + 1, t, es =>
  match P.underlying t with
  | some .bool => ∃ b, es = [.bool b]
  | some (.int k) => ∃ n, es = [.int k n] ∧ (Lit.int k n).wf = true
  | some .string => ∃ s, es = [.str s] ∧ s.length ≤ maxLen
  | some (.slice e) => es = [.nilsl] ∨ ∃ l : List EV, es = [.imm (P.cellsOf e) l] ∧ l.length ≤ maxLen ∧ ∀ x ∈ l, ∃ cs, ak8 P D e cs ∧ x = av1 P e cs
  | some (.array n e) => ∃ l : List (List EV), l.length = n ∧ es = l.flatten ∧ ∀ c ∈ l, ak8 P D e c ∧ c.length = P.cellsOf e
  | some (.struct fs) => ∃ l : List (List EV), l.length = fs.size ∧ es = l.flatten ∧ ∀ (i : Nat) (f : Field) (c : List EV), fs[i]? = some f → l[i]? = some c → ak8 P D f.type c ∧ c.length = P.cellsOf f.type
  | _ => False
def ar7 (P : Program) : Nat → List Field → Option Nat
 | o, [] => some o
 | o, f :: fs => if f.offset = o then ar7 P (o + P.cellsOf f.type) fs else none
def ca1 (P : Program) : Nat → TypeId → Bool
 | 0, _ => false
 | D + 1, t =>
  match P.underlying t with
  | some .bool => P.cellsOf t == 1
  | some (.int _) => P.cellsOf t == 1
  | some .string => P.cellsOf t == 1
  | some (.slice e) => P.cellsOf t == 1 && decide (0 < P.cellsOf e) && ca1 P D e
  | some (.array n e) => P.cellsOf t == n * P.cellsOf e && ca1 P D e
  | some (.struct fs) => ar7 P 0 fs.toList == some (P.cellsOf t) && fs.toList.all fun f => ca1 P D f.type
  | _ => false
section
variable {H : Type} {enc : TypeId × Value → H} {P : Program} {w : World} {base : Nat} {spare : Nat → Bool} {held : Bool} {φ : Nat → Nat} {N : Nat}
def oldI (w : World) (B : Nat) : Prop := B < w.heap.size
theorem bb0 {x : EV} {v : Value} (h : RV φ N (oldI w) w x v) : RCs φ N (oldI w) w [x] [v] := ⟨rfl, fun k y u hy hu => by
 cases k with
 | zero => simp at hy hu; subst hy hu; exact h
 | succ k => simp at hy⟩
theorem RCs.app {I : Nat → Prop} {a b : List EV} {c d : List Value} (h : RCs φ N I w a c) (g : RCs φ N I w b d) : RCs φ N I w (a ++ b) (c ++ d) := by
 refine ⟨by simp [h.1, g.1], fun k x v hx hv => ?_⟩
 by_cases hk : k < a.length
 ·rw [List.getElem?_append_left hk] at hx
  rw [List.getElem?_append_left (by rw [← h.1]; exact hk)] at hv
  exact h.2 k x v hx hv
 ·rw [List.getElem?_append_right (by omega)] at hx
  rw [List.getElem?_append_right (by rw [← h.1]; omega)] at hv
  rw [← h.1] at hv
  exact g.2 _ x v hx hv
theorem chop {α : Type} (sz : Nat) : ∀ (n : Nat) (cs : List α), cs.length = n * sz → cs = ((List.range n).map fun i => (cs.drop (i * sz)).take sz).flatten := by
 intro n
 induction n with
 | zero => intro cs h; simp at h; simp [h]
 | succ n ih =>
  intro cs h
  have h1 : (cs.take (n * sz)).length = n * sz := by simp [h, Nat.add_mul]
  have := ih (cs.take (n * sz)) h1
  rw [List.range_succ, List.map_append, List.flatten_append]
  have e1 : ((List.range n).map fun i => (cs.drop (i * sz)).take sz) = (List.range n).map fun i => ((cs.take (n * sz)).drop (i * sz)).take sz := by
   refine List.map_congr_left fun i hi => ?_
   have hi' : i < n := by simpa using hi
   have : (i + 1) * sz ≤ n * sz := Nat.mul_le_mul_right _ hi'
   rw [Nat.add_mul] at this
   rw [List.drop_take, List.take_take, Nat.min_eq_left (by omega)]
  rw [e1, ← this]
  have e2 : (cs.drop (n * sz)).take sz = cs.drop (n * sz) := List.take_of_length_le (by simp [h, Nat.add_mul])
  simp only [List.map_cons, List.map_nil, List.flatten_cons, List.flatten_nil, List.append_nil, e2, List.take_append_drop]
theorem bd0 {I : Nat → Prop} : ∀ {ls : List (List EV)} {vs : List (List Value)}, ls.length = vs.length → (∀ (i : Nat) (a : List EV) (b : List Value), ls[i]? = some a → vs[i]? = some b → RCs φ N I w a b) → RCs φ N I w ls.flatten vs.flatten
 | [], [], _, _ => ⟨rfl, by simp⟩
 | [], _ :: _, h, _ => by simp at h
 | _ :: _, [], h, _ => by simp at h
 | a :: ls, b :: vs, h, g => by
  simp only [List.flatten_cons]
  exact (g 0 a b rfl rfl).app (bd0 (by simpa using h) fun i x y hx hy => g (i + 1) x y (by simpa using hx) (by simpa using hy))
theorem by8 {D : Nat} {t : TypeId} {es : List EV} (h : ak8 P D t es) (ha : aggT P t = false) : ∃ x, es = [x] ∧ x.cells = [x] := by
 cases D with
 | zero => simp [ak8] at h
 | succ D =>
  unfold ak8 at h
  unfold aggT at ha
  split at h <;> rename_i hu <;> (try rw [hu] at ha)
  ·obtain ⟨b, rfl⟩ := h; exact ⟨_, rfl, rfl⟩
  ·obtain ⟨n, rfl, _⟩ := h; exact ⟨_, rfl, rfl⟩
  ·obtain ⟨s, rfl, _⟩ := h; exact ⟨_, rfl, rfl⟩
  ·rcases h with rfl | ⟨l, rfl, _⟩
   ·exact ⟨_, rfl, rfl⟩
   ·exact ⟨_, rfl, rfl⟩
  ·simp [aggD] at ha
  ·simp [aggD] at ha
  ·exact h.elim
theorem bj4 {D : Nat} {t : TypeId} {es : List EV} (h : ak8 P D t es) : (av1 P t es).cells = es := by
 unfold av1
 split
 ·rfl
 ·rename_i ha
  obtain ⟨x, rfl, hx⟩ := by8 h (by simpa using ha)
  simpa using hx
theorem do7 (hspare : ∀ b, spare b = true) : ∀ (D : Nat) (t : TypeId) (fuel : Nat) (cs : List Value) (x : DataW H × List MemPlace), ca1 P D t = true → DataW.trod enc P w base spare held fuel t cs = some x →
  cs.length = P.cellsOf t ∧ ∃ es, RCs φ N (oldI w) w es cs ∧ ak8 P D t es
 | 0, t, _, _, _, h, _ => by simp [ca1] at h
 | D + 1, t, fuel, cs, x, hp, hr => by
  have IH := do7 hspare D
  unfold ca1 at hp
  unfold ak8
  split at hp
  ·rename_i hu
   obtain ⟨b, rfl, rfl⟩ := DataW.trod_bool hu hr
   simp only [beq_iff_eq] at hp
   exact ⟨hp.symm, [.bool b], bb0 (.bool b), b, rfl⟩
  ·rename_i k hu
   obtain ⟨n, rfl, rfl, hw⟩ := DataW.trod_int hu hr
   simp only [beq_iff_eq] at hp
   exact ⟨hp.symm, [.int k n], bb0 (.int k n), n, rfl, hw⟩
  ·rename_i hu
   obtain ⟨s, rfl, rfl, hw⟩ := DataW.trod_string hu hr
   simp only [beq_iff_eq] at hp
   have : RV φ N (oldI w) w (.str s.data.toList) (.string ⟨s.data.toList.toArray⟩) := .str _
   exact ⟨hp.symm, [.str s.data.toList], bb0 (by simpa only [Array.toArray_toList] using this), s.data.toList, rfl, by rw [Array.length_toList]; exact hw⟩
  ·rename_i e hu
   simp only [Bool.and_eq_true, beq_iff_eq, decide_eq_true_eq] at hp
   obtain ⟨⟨h1, hz⟩, hpe⟩ := hp
   rcases Go.Deep.open_slice hu hr with ⟨rfl, rfl⟩ | ⟨a, len, cap, m, n, Dt, Pl, rfl, hb, hl, hm, hmm, rfl, hx⟩
   ·exact ⟨by simp [h1], [.nilsl], bb0 .nilsl, .inl rfl⟩
   ·refine ⟨by simp [h1], ?_⟩
    have hlm : len ≤ m := by rw [hmm]; split <;> omega
    have hel : ∀ i, ∃ ec : List EV × List Value, i < len → w.cells? base (a.add (i * P.cellsOf e)) (P.cellsOf e) = some ec.2 ∧ RCs φ N (oldI w) w ec.1 ec.2 ∧ ak8 P D e ec.1 := fun i => by
     by_cases hi : i < len
     ·obtain ⟨cs', c1, c2⟩ := hx i (by omega)
      obtain ⟨_, es, e1, e2⟩ := IH e n cs' _ hpe c2
      exact ⟨(es, cs'), fun _ => ⟨c1, e1, e2⟩⟩
     ·exact ⟨([], []), fun h => absurd h hi⟩
    obtain ⟨F, hch⟩ : ∃ F : Nat → List EV × List Value, ∀ i, i < len → w.cells? base (a.add (i * P.cellsOf e)) (P.cellsOf e) = some (F i).2 ∧ RCs φ N (oldI w) w (F i).1 (F i).2 ∧ ak8 P D e (F i).1 :=
     ⟨fun i => Classical.choose (hel i), fun i => Classical.choose_spec (hel i)⟩
    have hsh : ∀ x ∈ (List.range len).map (fun i => av1 P e (F i).1), ∃ cs, ak8 P D e cs ∧ x = av1 P e cs := by
     intro x hx
     simp only [List.mem_map, List.mem_range] at hx
     obtain ⟨i, hi, rfl⟩ := hx
     exact ⟨(F i).1, (hch i hi).2.2, rfl⟩
    refine ⟨[.imm (P.cellsOf e) ((List.range len).map fun i => av1 P e (F i).1)], bb0 ?_, .inr ⟨_, rfl, by simp; omega, hsh⟩⟩
    have hsz : ∀ i, i < len → (F i).1.length = P.cellsOf e := fun i hi => by
     rw [(hch i hi).2.1.1]
     exact (World.cells?_some (hch i hi).1).2.1
    rcases Nat.eq_zero_or_pos cap with h0 | h0
    ·subst h0
     obtain rfl : len = 0 := by omega
     exact .imm0 _ _
    ·have hget : ∀ i j, i < len → j < P.cellsOf e → w.cell? (a.add (i * P.cellsOf e + j)) = (F i).2[j]? := fun i j hi hj => by
      rw [← Go.Deep.add_add]
      exact (World.cells?_some (hch i hi).1).2.2 j hj
     have hlen2 : ∀ i, i < len → (F i).2.length = P.cellsOf e := fun i hi => (World.cells?_some (hch i hi).1).2.1
     have hsome : ∀ i j, i < len → j < P.cellsOf e → ∃ v, w.cell? (a.add (i * P.cellsOf e + j)) = some v := fun i j hi hj =>
      ⟨(F i).2[j]'(by rw [hlen2 i hi]; exact hj), by rw [hget i j hi hj]; simp⟩
     have hmc : m = cap := by rw [hmm, if_pos (hspare _)]
     obtain ⟨v0, hv0⟩ : ∃ v, w.cell? (a.add (0 * P.cellsOf e + 0)) = some v := by
      obtain ⟨cs', c1, _⟩ := hx 0 (by omega)
      have h2 := World.cells?_some c1
      have h3 := h2.2.2 0 hz
      rw [Go.Deep.add_add] at h3
      exact ⟨cs'[0]'(by rw [h2.2.1]; exact hz), by rw [h3]; simp⟩
     obtain ⟨B, o, sp⟩ := a
     have hblk : ∃ c T fr, w.heap[B]? = some (.cells c T fr) ∧ sp = none := by
      unfold World.cell? at hv0
      have e1 : ((⟨B, o, sp⟩ : Addr).add (0 * P.cellsOf e + 0)) = ⟨B, o, sp⟩ := by simp [Addr.add]
      rw [e1] at hv0
      simp only at hv0
      split at hv0
      ·rename_i c T fr hB
       refine ⟨c, T, fr, hB, ?_⟩
       cases sp with
       | none => rfl
       | some _ => simp at hv0
      ·simp at hv0
     obtain ⟨c, T, fr, hB, rfl⟩ := hblk
     have hcell : ∀ k, w.cell? ((⟨B, o, none⟩ : Addr).add k) = c[o + k]? := fun k => by
      rw [as6]
      unfold World.cell?
      simp only [hB, Option.isSome_none, Bool.false_eq_true, if_false]
     have hbound : o + len * P.cellsOf e ≤ c.size := by
      rcases Nat.eq_zero_or_pos len with hl0 | hl0
      ·have hv1 := hv0
       rw [hcell] at hv1
       have hlt := (Array.getElem?_eq_some_iff.1 hv1).1
       rw [hl0]
       simp at hlt ⊢
       omega
      ·obtain ⟨v, hv⟩ := hsome (len - 1) (P.cellsOf e - 1) (by omega) (by omega)
       rw [hcell] at hv
       have hlt := (Array.getElem?_eq_some_iff.1 hv).1
       have : (len - 1) * P.cellsOf e + P.cellsOf e = len * P.cellsOf e := by
        rw [← Nat.succ_mul]; congr 1; omega
       omega
     have := RV.imm (φ := φ) (N := N) (I := oldI w) (w := w) (P.cellsOf e) ((List.range len).map fun i => av1 P e (F i).1) B o cap c T fr (Array.getElem?_eq_some_iff.1 hB).1 hB (by simpa using hbound) (by simpa using hl)
      (fun x hx => by
       simp only [List.mem_map, List.mem_range] at hx
       obtain ⟨i, hi, rfl⟩ := hx
       rw [bj4 (hch i hi).2.2, hsz i hi])
      (fun i j x y v hx hy hv => by
       simp only [List.getElem?_map, Option.map_eq_some_iff] at hx
       obtain ⟨i1, e1, rfl⟩ := hx
       have hlt := aa2 e1
       simp only [List.length_range] at hlt
       rw [List.getElem?_range hlt] at e1
       simp only [Option.some.injEq] at e1
       subst e1
       rw [bj4 (hch i hlt).2.2] at hy
       have hj := aa2 hy
       rw [hsz i hlt] at hj
       refine (hch i hlt).2.1.2 j y v hy ?_
       rw [← hget i j hlt hj, hcell, ← Nat.add_assoc]
       exact hv)
     simpa using this
  ·rename_i n e hu
   simp only [Bool.and_eq_true, beq_iff_eq] at hp
   obtain ⟨h1, hpe⟩ := hp
   obtain ⟨xs, m, rfl, rfl, hl, hxl, hxs⟩ := DataW.trod_array hu hr
   refine ⟨hl, ?_⟩
   have hel : ∀ i, ∃ es : List EV, i < n → RCs φ N (oldI w) w es ((cs.drop (i * P.cellsOf e)).take (P.cellsOf e)) ∧ ak8 P D e es ∧ es.length = P.cellsOf e := fun i => by
    by_cases hi : i < n
    ·have := hxs i hi
     rw [List.getElem?_eq_getElem (by omega)] at this
     obtain ⟨g1, es, g2, g3⟩ := IH e m _ _ hpe this
     exact ⟨es, fun _ => ⟨g2, g3, by rw [g2.1, g1]⟩⟩
    ·exact ⟨[], fun h => absurd h hi⟩
   obtain ⟨F, hch⟩ : ∃ F : Nat → List EV, ∀ i, i < n → RCs φ N (oldI w) w (F i) ((cs.drop (i * P.cellsOf e)).take (P.cellsOf e)) ∧ ak8 P D e (F i) ∧ (F i).length = P.cellsOf e :=
    ⟨fun i => Classical.choose (hel i), fun i => Classical.choose_spec (hel i)⟩
   refine ⟨((List.range n).map F).flatten, ?_, _, by simp, rfl, fun c hc => ?_⟩
   ·rw [chop (P.cellsOf e) n cs (by rw [hl, h1])]
    refine bd0 (by simp) fun i x y hx hy => ?_
    simp only [List.getElem?_map, Option.map_eq_some_iff] at hx hy
    obtain ⟨i1, e1, rfl⟩ := hx
    obtain ⟨i2, e2, rfl⟩ := hy
    rw [e1] at e2
    simp only [Option.some.injEq] at e2
    subst e2
    have hlt := aa2 e1
    simp only [List.length_range] at hlt
    rw [List.getElem?_range hlt] at e1
    simp only [Option.some.injEq] at e1
    subst e1
    exact (hch i hlt).1
   ·simp only [List.mem_map, List.mem_range] at hc
    obtain ⟨i, hi, rfl⟩ := hc
    exact (hch i hi).2
  ·rename_i fs hu
   simp only [Bool.and_eq_true, beq_iff_eq] at hp
   obtain ⟨h1, hpe⟩ := hp
   obtain ⟨xs, m, rfl, rfl, hl, hxl, hxs⟩ := DataW.trod_struct hu hr
   refine ⟨hl, ?_⟩
   have hel : ∀ i, ∃ es : List EV, ∀ f : Field, fs[i]? = some f → RCs φ N (oldI w) w es ((cs.drop f.offset).take (P.cellsOf f.type)) ∧ ak8 P D f.type es ∧ es.length = P.cellsOf f.type := fun i => by
    by_cases hi : i < fs.size
    ·have hf : fs[i]? = some fs[i] := by simp [hi]
     have := hxs i fs[i] hf
     rw [List.getElem?_eq_getElem (by omega)] at this
     obtain ⟨g1, es, g2, g3⟩ := IH fs[i].type m _ _ (List.all_eq_true.1 hpe fs[i] (by simp)) this
     refine ⟨es, fun f hf' => ?_⟩
     rw [hf] at hf'
     simp only [Option.some.injEq] at hf'
     subst hf'
     exact ⟨g2, g3, by rw [g2.1, g1]⟩
    ·exact ⟨[], fun f hf => by simp [hi] at hf⟩
   obtain ⟨F, hch⟩ : ∃ F : Nat → List EV, ∀ (i : Nat) (f : Field), fs[i]? = some f → RCs φ N (oldI w) w (F i) ((cs.drop f.offset).take (P.cellsOf f.type)) ∧ ak8 P D f.type (F i) ∧ (F i).length = P.cellsOf f.type :=
    ⟨fun i => Classical.choose (hel i), fun i => Classical.choose_spec (hel i)⟩
   refine ⟨((List.range fs.size).map F).flatten, ?_, _, by simp, rfl, fun i f c hf hc => ?_⟩
   ·have side : ∀ (l : List Field) (o n : Nat), ar7 P o l = some n → o ≤ n ∧ (l.map fun f => (cs.drop f.offset).take (P.cellsOf f.type)).flatten = (cs.drop o).take (n - o) := by
     intro l
     induction l with
     | nil => intro o n h; simp [ar7] at h; subst h; simp
     | cons f l ih =>
      intro o n h
      simp only [ar7] at h
      split at h
      ·rename_i ho
       obtain ⟨k1, k2⟩ := ih _ _ h
       refine ⟨by omega, ?_⟩
       rw [List.map_cons, List.flatten_cons, k2, ho]
       rw [show n - o = P.cellsOf f.type + (n - (o + P.cellsOf f.type)) by omega, List.take_add, List.drop_drop]
      ·simp at h
    have k := (side fs.toList 0 _ h1).2
    simp only [List.drop_zero, Nat.sub_zero] at k
    rw [List.take_of_length_le (by omega)] at k
    rw [← k]
    refine bd0 (by simp) fun i x y hx hy => ?_
    simp only [List.getElem?_map, Option.map_eq_some_iff] at hx hy
    obtain ⟨i1, e1, rfl⟩ := hx
    obtain ⟨f, e2, rfl⟩ := hy
    have hlt := aa2 e1
    simp only [List.length_range] at hlt
    rw [List.getElem?_range hlt] at e1
    simp only [Option.some.injEq] at e1
    subst e1
    exact (hch i f (by simpa using e2)).1
   ·simp only [List.getElem?_map, Option.map_eq_some_iff] at hc
    obtain ⟨i1, e1, rfl⟩ := hc
    have hlt := aa2 e1
    simp only [List.length_range] at hlt
    rw [List.getElem?_range hlt] at e1
    simp only [Option.some.injEq] at e1
    subst e1
    exact (hch i f hf).2
  ·simp at hp
end
end Abs
