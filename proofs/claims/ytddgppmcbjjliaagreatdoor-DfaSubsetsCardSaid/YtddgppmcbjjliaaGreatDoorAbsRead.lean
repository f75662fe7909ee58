/- A part. -/
import Derived.Test.YtddgppmcbjjliaaGreatDoorAbs14
import Derived.ProofKit
import Derived.Deep.Slices
import Derived.OpenShut
import Derived.ChangeArms
set_option linter.all false
namespace Abs
open Go Go.ChangeShapes Go.WideShapes
def aggT (P : Program) (t : TypeId) : Bool :=
 match P.underlying t with
 | some d => aggD d
 | none => false
def at9 (P : Program) (t : TypeId) (cs : List EV) : EV := if aggT P t then .agg cs else cs.headD .undef
def ao7 (P : Program) : Nat → TypeId → List EV → Prop
 | 0, _, _ => False
 | D + 1, t, es =>
  match P.underlying t with
  | some .bool => ∃ b, es = [.bool b]
  | some (.int k) => ∃ n, es = [.int k n] ∧ (Lit.int k n).wf = true
  | some .string => ∃ s, es = [.str s] ∧ s.length ≤ maxLen
  | some (.slice e) => es = [.nilsl] ∨ ∃ l : List EV, es = [.imm (P.cellsOf e) l] ∧ l.length ≤ maxLen ∧ ∀ x ∈ l, ∃ cs, ao7 P D e cs ∧ x = at9 P e cs
  | some (.array n e) => ∃ l : List (List EV), l.length = n ∧ es = l.flatten ∧ ∀ c ∈ l, ao7 P D e c ∧ c.length = P.cellsOf e
  | some (.struct fs) => ∃ l : List (List EV), l.length = fs.size ∧ es = l.flatten ∧ ∀ (i : Nat) (f : Field) (c : List EV), fs[i]? = some f → l[i]? = some c → ao7 P D f.type c ∧ c.length = P.cellsOf f.type
  | _ => False
def bg8 (P : Program) : Nat → List Field → Option Nat
 | o, [] => some o
 | o, f :: fs => if f.offset = o then bg8 P (o + P.cellsOf f.type) fs else none
def cg2 (P : Program) : Nat → TypeId → Bool
 | 0, _ => false
 | D + 1, t =>
  match P.underlying t with
  | some .bool => P.cellsOf t == 1
  | some (.int _) => P.cellsOf t == 1
  | some .string => P.cellsOf t == 1
  | some (.slice e) => P.cellsOf t == 1 && decide (0 < P.cellsOf e) && cg2 P D e
  | some (.array n e) => P.cellsOf t == n * P.cellsOf e && cg2 P D e
  | some (.struct fs) => bg8 P 0 fs.toList == some (P.cellsOf t) && fs.toList.all fun f => cg2 P D f.type
  | _ => false
section
variable {H : Type} {enc : TypeId × Value → H} {P : Program} {w : World} {base : Nat} {spare : Nat → Bool} {held : Bool} {φ : Nat → Nat} {N : Nat}
def oldI (w : World) (B : Nat) : Prop := B < w.heap.size
theorem by0 {x : EV} {v : Value} (h : RV φ N (oldI w) w x v) : RCs φ N (oldI w) w [x] [v] := ⟨rfl, fun k y u hy hu => by
 cases k with
 | zero => simp at hy hu; subst hy hu; exact h
 | succ k => simp at hy⟩
theorem RCs.app {I : Nat → Prop} {a b : List EV} {c d : List Value} (h : RCs φ N I w a c) (g : RCs φ N I w b d) : RCs φ N I w (a ++ b) (c ++ d) := by
 refine ⟨by simp [h.1, g.1], fun k x v hx hv => ?_⟩
 by_cases hk : k < a.length
 ·rw [List.getElem?_append_left hk] at hx
  rw [List.getElem?_append_left (by rw [← h.1]; exact hk)] at hv
  exact h.2 k x v hx hv
 ·rw [List.getElem?_append_right (by omega)] at hx
  rw [List.getElem?_append_right (by rw [← h.1]; omega)] at hv
  rw [← h.1] at hv
  exact g.2 _ x v hx hv
theorem chop {α : Type} (sz : Nat) : ∀ (n : Nat) (cs : List α), cs.length = n * sz → cs = ((List.range n).map fun i => (cs.drop (i * sz)).take sz).flatten := by
 intro n
 induction n with
 | zero => intro cs h; simp at h; simp [h]
 | succ n ih =>
  intro cs h
  have h1 : (cs.take (n * sz)).length = n * sz := by simp [h, Nat.add_mul]
  have := ih (cs.take (n * sz)) h1
  rw [List.range_succ, List.map_append, List.flatten_append]
  have e1 : ((List.range n).map fun i => (cs.drop (i * sz)).take sz) = (List.range n).map fun i => ((cs.take (n * sz)).drop (i * sz)).take sz := by
   refine List.map_congr_left fun i hi => ?_
   have hi' : i < n := by simpa using hi
   have : (i + 1) * sz ≤ n * sz := Nat.mul_le_mul_right _ hi'
   rw [Nat.add_mul] at this
   rw [List.drop_take, List.take_take, Nat.min_eq_left (by omega)]
  rw [e1, ← this]
  have e2 : (cs.drop (n * sz)).take sz = cs.drop (n * sz) := List.take_of_length_le (by simp [h, Nat.add_mul])
  simp only [List.map_cons, List.map_nil, List.flatten_cons, List.flatten_nil, List.append_nil, e2, List.take_append_drop]
theorem br9 {I : Nat → Prop} : ∀ {ls : List (List EV)} {vs : List (List Value)}, ls.length = vs.length → (∀ (i : Nat) (a : List EV) (b : List Value), ls[i]? = some a → vs[i]? = some b → RCs φ N I w a b) → RCs φ N I w ls.flatten vs.flatten
 | [], [], _, _ => ⟨rfl, by simp⟩
 | [], _ :: _, h, _ => by simp at h
 | _ :: _, [], h, _ => by simp at h
 | a :: ls, b :: vs, h, g => by
  simp only [List.flatten_cons]
  exact (g 0 a b rfl rfl).app (br9 (by simpa using h) fun i x y hx hy => g (i + 1) x y (by simpa using hx) (by simpa using hy))
theorem cu6 {D : Nat} {t : TypeId} {es : List EV} (h : ao7 P D t es) (ha : aggT P t = false) : ∃ x, es = [x] ∧ x.cells = [x] := by
 cases D with
 | zero => simp [ao7] at h
 | succ D =>
  unfold ao7 at h
  unfold aggT at ha
  split at h <;> rename_i hu <;> (try rw [hu] at ha)
  ·obtain ⟨b, rfl⟩ := h; exact ⟨_, rfl, rfl⟩
  ·obtain ⟨n, rfl, _⟩ := h; exact ⟨_, rfl, rfl⟩
  ·obtain ⟨s, rfl, _⟩ := h; exact ⟨_, rfl, rfl⟩
  ·rcases h with rfl | ⟨l, rfl, _⟩
   ·exact ⟨_, rfl, rfl⟩
   ·exact ⟨_, rfl, rfl⟩
  ·simp [aggD] at ha
  ·simp [aggD] at ha
  ·exact h.elim
theorem cg3 {D : Nat} {t : TypeId} {es : List EV} (h : ao7 P D t es) : (at9 P t es).cells = es := by
 unfold at9
 split
 ·rfl
 ·rename_i ha
  obtain ⟨x, rfl, hx⟩ := cu6 h (by simpa using ha)
  simpa using hx
theorem ea6 (hspare : ∀ b, spare b = true) : ∀ (D : Nat) (t : TypeId) (fuel : Nat) (cs : List Value) (x : DataW H × List MemPlace), cg2 P D t = true → DataW.trod enc P w base spare held fuel t cs = some x →
  cs.length = P.cellsOf t ∧ ∃ es, RCs φ N (oldI w) w es cs ∧ ao7 P D t es
 | 0, t, _, _, _, h, _ => by simp [cg2] at h
 | D + 1, t, fuel, cs, x, hp, hr => by
  have IH := ea6 hspare D
  unfold cg2 at hp
  unfold ao7
  split at hp
  ·rename_i hu
   obtain ⟨b, rfl, rfl⟩ := DataW.trod_bool hu hr
   simp only [beq_iff_eq] at hp
   exact ⟨hp.symm, [.bool b], by0 (.bool b), b, rfl⟩
  ·rename_i k hu
   obtain ⟨n, rfl, rfl, hw⟩ := DataW.trod_int hu hr
   simp only [beq_iff_eq] at hp
   exact ⟨hp.symm, [.int k n], by0 (.int k n), n, rfl, hw⟩
  ·rename_i hu
   obtain ⟨s, rfl, rfl, hw⟩ := DataW.trod_string hu hr
   simp only [beq_iff_eq] at hp
   have : RV φ N (oldI w) w (.str s.data.toList) (.string ⟨s.data.toList.toArray⟩) := .str _
   exact ⟨hp.symm, [.str s.data.toList], by0 (by simpa only [Array.toArray_toList] using this), s.data.toList, rfl, by rw [Array.length_toList]; exact hw⟩
  ·rename_i e hu
   simp only [Bool.and_eq_true, beq_iff_eq, decide_eq_true_eq] at hp
   obtain ⟨⟨h1, hz⟩, hpe⟩ := hp
   rcases Go.Deep.open_slice hu hr with ⟨rfl, rfl⟩ | ⟨a, len, cap, m, n, Dt, Pl, rfl, hb, hl, hm, hmm, rfl, hx⟩
   ·exact ⟨by simp [h1], [.nilsl], by0 .nilsl, .inl rfl⟩
   ·refine ⟨by simp [h1], ?_⟩
    have hlm : len ≤ m := by rw [hmm]; split <;> omega
    have hel : ∀ i, ∃ ec : List EV × List Value, i < len → w.cells? base (a.add (i * P.cellsOf e)) (P.cellsOf e) = some ec.2 ∧ RCs φ N (oldI w) w ec.1 ec.2 ∧ ao7 P D e ec.1 := fun i => by
     by_cases hi : i < len
     ·obtain ⟨cs', c1, c2⟩ := hx i (by omega)
      obtain ⟨_, es, e1, e2⟩ := IH e n cs' _ hpe c2
      exact ⟨(es, cs'), fun _ => ⟨c1, e1, e2⟩⟩
     ·exact ⟨([], []), fun h => absurd h hi⟩
    obtain ⟨F, hch⟩ : ∃ F : Nat → List EV × List Value, ∀ i, i < len → w.cells? base (a.add (i * P.cellsOf e)) (P.cellsOf e) = some (F i).2 ∧ RCs φ N (oldI w) w (F i).1 (F i).2 ∧ ao7 P D e (F i).1 :=
     ⟨fun i => Classical.choose (hel i), fun i => Classical.choose_spec (hel i)⟩
    have hsh : ∀ x ∈ (List.range len).map (fun i => at9 P e (F i).1), ∃ cs, ao7 P D e cs ∧ x = at9 P e cs := by
     intro x hx
     simp only [List.mem_map, List.mem_range] at hx
     obtain ⟨i, hi, rfl⟩ := hx
     exact ⟨(F i).1, (hch i hi).2.2, rfl⟩
    refine ⟨[.imm (P.cellsOf e) ((List.range len).map fun i => at9 P e (F i).1)], by0 ?_, .inr ⟨_, rfl, by simp; omega, hsh⟩⟩
    have hsz : ∀ i, i < len → (F i).1.length = P.cellsOf e := fun i hi => by
     rw [(hch i hi).2.1.1]
     exact (World.cells?_some (hch i hi).1).2.1
    rcases Nat.eq_zero_or_pos cap with h0 | h0
    ·subst h0
     obtain rfl : len = 0 := by omega
     exact .imm0 _ _
    ·have hget : ∀ i j, i < len → j < P.cellsOf e → w.cell? (a.add (i * P.cellsOf e + j)) = (F i).2[j]? := fun i j hi hj => by
      rw [← Go.Deep.add_add]
      exact (World.cells?_some (hch i hi).1).2.2 j hj
     have hlen2 : ∀ i, i < len → (F i).2.length = P.cellsOf e := fun i hi => (World.cells?_some (hch i hi).1).2.1
     have hsome : ∀ i j, i < len → j < P.cellsOf e → ∃ v, w.cell? (a.add (i * P.cellsOf e + j)) = some v := fun i j hi hj =>
      ⟨(F i).2[j]'(by rw [hlen2 i hi]; exact hj), by rw [hget i j hi hj]; simp⟩
     have hmc : m = cap := by rw [hmm, if_pos (hspare _)]
     obtain ⟨v0, hv0⟩ : ∃ v, w.cell? (a.add (0 * P.cellsOf e + 0)) = some v := by
      obtain ⟨cs', c1, _⟩ := hx 0 (by omega)
      have h2 := World.cells?_some c1
      have h3 := h2.2.2 0 hz
      rw [Go.Deep.add_add] at h3
      exact ⟨cs'[0]'(by rw [h2.2.1]; exact hz), by rw [h3]; simp⟩
     obtain ⟨B, o, sp⟩ := a
     have hblk : ∃ c T fr, w.heap[B]? = some (.cells c T fr) ∧ sp = none := by
      unfold World.cell? at hv0
      have e1 : ((⟨B, o, sp⟩ : Addr).add (0 * P.cellsOf e + 0)) = ⟨B, o, sp⟩ := by simp [Addr.add]
      rw [e1] at hv0
      simp only at hv0
      split at hv0
      ·rename_i c T fr hB
       refine ⟨c, T, fr, hB, ?_⟩
       cases sp with
       | none => rfl
       | some _ => simp at hv0
      ·simp at hv0
     obtain ⟨c, T, fr, hB, rfl⟩ := hblk
     have hcell : ∀ k, w.cell? ((⟨B, o, none⟩ : Addr).add k) = c[o + k]? := fun k => by
      rw [as9]
      unfold World.cell?
      simp only [hB, Option.isSome_none, Bool.false_eq_true, if_false]
     have hbound : o + len * P.cellsOf e ≤ c.size := by
      rcases Nat.eq_zero_or_pos len with hl0 | hl0
      ·have hv1 := hv0
       rw [hcell] at hv1
       have hlt := (Array.getElem?_eq_some_iff.1 hv1).1
       rw [hl0]
       simp at hlt ⊢
       omega
      ·obtain ⟨v, hv⟩ := hsome (len - 1) (P.cellsOf e - 1) (by omega) (by omega)
       rw [hcell] at hv
       have hlt := (Array.getElem?_eq_some_iff.1 hv).1
       have : (len - 1) * P.cellsOf e + P.cellsOf e = len * P.cellsOf e := by
        rw [← Nat.succ_mul]; congr 1; omega
       omega
     have := RV.imm (φ := φ) (N := N) (I := oldI w) (w := w) (P.cellsOf e) ((List.range len).map fun i => at9 P e (F i).1) B o cap c T fr (Array.getElem?_eq_some_iff.1 hB).1 hB (by simpa using hbound) (by simpa using hl)
      (fun x hx => by
       simp only [List.mem_map, List.mem_range] at hx
       obtain ⟨i, hi, rfl⟩ := hx
       rw [cg3 (hch i hi).2.2, hsz i hi])
      (fun i j x y v hx hy hv => by
       simp only [List.getElem?_map, Option.map_eq_some_iff] at hx
       obtain ⟨i1, e1, rfl⟩ := hx
       have hlt := aa9 e1
       simp only [List.length_range] at hlt
       rw [List.getElem?_range hlt] at e1
       simp only [Option.some.injEq] at e1
       subst e1
       rw [cg3 (hch i hlt).2.2] at hy
       have hj := aa9 hy
       rw [hsz i hlt] at hj
       refine (hch i hlt).2.1.2 j y v hy ?_
       rw [← hget i j hlt hj, hcell, ← Nat.add_assoc]
       exact hv)
     simpa using this
  ·rename_i n e hu
   simp only [Bool.and_eq_true, beq_iff_eq] at hp
   obtain ⟨h1, hpe⟩ := hp
   obtain ⟨xs, m, rfl, rfl, hl, hxl, hxs⟩ := DataW.trod_array hu hr
   refine ⟨hl, ?_⟩
   have hel : ∀ i, ∃ es : List EV, i < n → RCs φ N (oldI w) w es ((cs.drop (i * P.cellsOf e)).take (P.cellsOf e)) ∧ ao7 P D e es ∧ es.length = P.cellsOf e := fun i => by
    by_cases hi : i < n
    ·have := hxs i hi
     rw [List.getElem?_eq_getElem (by omega)] at this
     obtain ⟨g1, es, g2, g3⟩ := IH e m _ _ hpe this
     exact ⟨es, fun _ => ⟨g2, g3, by rw [g2.1, g1]⟩⟩
    ·exact ⟨[], fun h => absurd h hi⟩
   obtain ⟨F, hch⟩ : ∃ F : Nat → List EV, ∀ i, i < n → RCs φ N (oldI w) w (F i) ((cs.drop (i * P.cellsOf e)).take (P.cellsOf e)) ∧ ao7 P D e (F i) ∧ (F i).length = P.cellsOf e :=
    ⟨fun i => Classical.choose (hel i), fun i => Classical.choose_spec (hel i)⟩
   refine ⟨((List.range n).map F).flatten, ?_, _, by simp, rfl, fun c hc => ?_⟩
   ·rw [chop (P.cellsOf e) n cs (by rw [hl, h1])]
    refine br9 (by simp) fun i x y hx hy => ?_
    simp only [List.getElem?_map, Option.map_eq_some_iff] at hx hy
    obtain ⟨i1, e1, rfl⟩ := hx
    obtain ⟨i2, e2, rfl⟩ := hy
    rw [e1] at e2
    simp only [Option.some.injEq] at e2
    subst e2
    have hlt := aa9 e1
    simp only [List.length_range] at hlt
    rw [List.getElem?_range hlt] at e1
    simp only [Option.some.injEq] at e1
    subst e1
    exact (hch i hlt).1
   ·simp only [List.mem_map, List.mem_range] at hc
    obtain ⟨i, hi, rfl⟩ := hc
    exact (hch i hi).2
  ·rename_i fs hu
   simp only [Bool.and_eq_true, beq_iff_eq] at hp
   obtain ⟨h1, hpe⟩ := hp
   obtain ⟨xs, m, rfl, rfl, hl, hxl, hxs⟩ := DataW.trod_struct hu hr
   refine ⟨hl, ?_⟩
   have hel : ∀ i, ∃ es : List EV, ∀ f : Field, fs[i]? = some f → RCs φ N (oldI w) w es ((cs.drop f.offset).take (P.cellsOf f.type)) ∧ ao7 P D f.type es ∧ es.length = P.cellsOf f.type := fun i => by
    by_cases hi : i < fs.size
    ·have hf : fs[i]? = some fs[i] := by simp [hi]
     have := hxs i fs[i] hf
     rw [List.getElem?_eq_getElem (by omega)] at this
     obtain ⟨g1, es, g2, g3⟩ := IH fs[i].type m _ _ (List.all_eq_true.1 hpe fs[i] (by simp)) this
     refine ⟨es, fun f hf' => ?_⟩
     rw [hf] at hf'
     simp only [Option.some.injEq] at hf'
     subst hf'
     exact ⟨g2, g3, by rw [g2.1, g1]⟩
    ·exact ⟨[], fun f hf => by simp [hi] at hf⟩
   obtain ⟨F, hch⟩ : ∃ F : Nat → List EV, ∀ (i : Nat) (f : Field), fs[i]? = some f → RCs φ N (oldI w) w (F i) ((cs.drop f.offset).take (P.cellsOf f.type)) ∧ ao7 P D f.type (F i) ∧ (F i).length = P.cellsOf f.type :=
    ⟨fun i => Classical.choose (hel i), fun i => Classical.choose_spec (hel i)⟩
   refine ⟨((List.range fs.size).map F).flatten, ?_, _, by simp, rfl, fun i f c hf hc => ?_⟩
   ·have side : ∀ (l : List Field) (o n : Nat), bg8 P o l = some n → o ≤ n ∧ (l.map fun f => (cs.drop f.offset).take (P.cellsOf f.type)).flatten = (cs.drop o).take (n - o) := by
     intro l
     induction l with
     | nil => intro o n h; simp [bg8] at h; subst h; simp
     | cons f l ih =>
      intro o n h
      simp only [bg8] at h
      split at h
      ·rename_i ho
       obtain ⟨k1, k2⟩ := ih _ _ h
       refine ⟨by omega, ?_⟩
       rw [List.map_cons, List.flatten_cons, k2, ho]
       rw [show n - o = P.cellsOf f.type + (n - (o + P.cellsOf f.type)) by omega, List.take_add, List.drop_drop]
      ·simp at h
    have k := (side fs.toList 0 _ h1).2
    simp only [List.drop_zero, Nat.sub_zero] at k
    rw [List.take_of_length_le (by omega)] at k
    rw [← k]
    refine br9 (by simp) fun i x y hx hy => ?_
    simp only [List.getElem?_map, Option.map_eq_some_iff] at hx hy
    obtain ⟨i1, e1, rfl⟩ := hx
    obtain ⟨f, e2, rfl⟩ := hy
    have hlt := aa9 e1
    simp only [List.length_range] at hlt
    rw [List.getElem?_range hlt] at e1
    simp only [Option.some.injEq] at e1
    subst e1
    exact (hch i f (by simpa using e2)).1
   ·simp only [List.getElem?_map, Option.map_eq_some_iff] at hc
    obtain ⟨i1, e1, rfl⟩ := hc
    have hlt := aa9 e1
    simp only [List.length_range] at hlt
    rw [List.getElem?_range hlt] at e1
    simp only [Option.some.injEq] at e1
    subst e1
    exact (hch i f hf).2
  ·simp at hp
end
open Gn
def flat : EV → Bool
 | .undef | .bool _ | .int _ _ | .str _ => true
 | .agg cs => cs.all bd3
 | .func (.yield _) [] [] => true
 | _ => false
theorem fd9 {φ φ' : Nat → Nat} {N N' : Nat} {I I' : Nat → Prop} {w w' : World} {x : EV} {v : Value} (hf : flat x = true) (h : RV φ N I w x v) : RV φ' N' I' w' x v := by
 have sc : ∀ {x : EV} {v : Value}, bd3 x = true → RV φ N I w x v → RV φ' N' I' w' x v := by
  intro x v hx h
  cases h <;> first | (simp [bd3] at hx; done) | exact .bool _ | exact .int _ _ | exact .str _
 cases h with
 | undef v => exact .undef v
 | bool b => exact .bool b
 | int k n => exact .int k n
 | str s => exact .str s
 | agg cs vs hl h =>
  simp only [flat, List.all_eq_true] at hf
  exact .agg cs vs hl fun k x v hx hv => sc (hf x (List.mem_of_getElem? hx)) (h k x v hx hv)
 | func f first cap vf vc h1 h2 h3 h4 =>
  cases f <;> cases first <;> cases cap <;> simp [flat] at hf
  exact .func _ [] [] vf vc h1 h2 (by simp) (by simp)
 | _ => simp [flat] at hf
section
variable {P : Program} {γ : Nat → EV} {n : Nat} {φ : Nat → Nat} {I : Nat → Prop} {α : Type} {enc : α → EV} {xs : List α} {l m : Nat} {J Jx : List α → World → Prop} {W0 : World}
structure RelY (γ : Nat → EV) (n : Nat) (φ : Nat → Nat) (I : Nat → Prop) (xs : List α) (J Jx : List α → World → Prop) (W0 : World) (k : Nat) (st : Bool) (s : aa6) (a : Act) (W : World) : Prop where
 sz : a.tmps.size = n
 defers : a.defers = []
 le : k ≤ xs.length
 slots : ∀ t, RV φ 0 (fun B => I B ∧ st = false) W (s t) (a.tmps.getD t Go.undef)
 heap : RH (fun g => if st then .undef else γ g) φ (fun B => I B ∧ st = false) [] W
 inv : if st then Jx (xs.take k) W else J (xs.take k) W
abbrev gY (γ : Nat → EV) (st : Bool) : Nat → EV := fun g => if st then .undef else γ g
def wopY (P : Program) (γ : Nat → EV) (enc : α → EV) (xs : List α) (l : Nat) (s : aa6) (k : Nat) (st : Bool) (op : EOp) (K : EV → Nat → Bool → Prop) : Prop :=
 match op with
 | .call f args =>
  match ev (gY γ st) s f with
  | .func (.yield l') [] [] => l' = l ∧ st = false ∧ ∃ x, xs[k]? = some x ∧ args.map (ev (gY γ st) s) = [enc x] ∧ K (.bool true) (k + 1) false ∧ K (.bool false) (k + 1) true
  | .func (.func g) first cap => ∃ v, CallsA P (gY γ st) g (first ++ args.map (ev (gY γ st) s) ++ cap) [] (fun er H' => er = .ret v ∧ H' = []) ∧ flat v = true ∧ K v k st
  | _ => False
 | .panic _ => False
 | op =>
  match evOp (ev (gY γ st) s) [] op with
  | some (v, []) => flat v = true ∧ K v k st
  | _ => False
def cb7 (P : Program) (γ : Nat → EV) (enc : α → EV) (xs : List α) (l : Nat) (Q : AX → aa6 → Nat → Bool → Prop) : List EOper → aa6 → Nat → Bool → Prop
 | [], s, k, st => Q .normal s k st
 | o :: rest, s, k, st => o.guard = none ∧ wopY P γ enc xs l s k st o.op fun v k' st' => cb7 P γ enc xs l Q rest (putA (if st' = st then s else fun _ => .undef) o.dst v) k' st'
def dc1 (next : aa6 → Nat → Bool → Prop) (Q : AX → aa6 → Nat → Bool → Prop) : AX → aa6 → Nat → Bool → Prop
 | .normal, s, k, st => next s k st
 | x, s, k, st => Q x s k st
def ba2 (id : Nat) (Q : AX → aa6 → Nat → Bool → Prop) : AX → aa6 → Nat → Bool → Prop
 | .exit id', s, k, st => if id' = id then Q .normal s k st else Q (.exit id') s k st
 | x, s, k, st => Q x s k st
def wpY (P : Program) (γ : Nat → EV) (enc : α → EV) (xs : List α) (l : Nat) : EC → (AX → aa6 → Nat → Bool → Prop) → aa6 → Nat → Bool → Prop
 | .skip, Q, s, k, st => Q .normal s k st
 | .ops o, Q, s, k, st => cb7 P γ enc xs l Q o s k st
 | .seq a b, Q, s, k, st => wpY P γ enc xs l a (dc1 (fun s' k' st' => wpY P γ enc xs l b Q s' k' st') Q) s k st
 | .cond c a b, Q, s, k, st =>
  match ev (gY γ st) s c with
  | .bool t => if t = true then wpY P γ enc xs l a Q s k st else wpY P γ enc xs l b Q s k st
  | _ => False
 | .block id c, Q, s, k, st => wpY P γ enc xs l c (ba2 id Q) s k st
 | .loop c, Q, s, k, st => ∃ (Inv : Nat → aa6 → Nat → Bool → Prop) (m0 : Nat) (s0 : aa6), (∀ t, s0 t = .undef ∨ s0 t = s t) ∧ Inv m0 s0 k st ∧ ∀ m s' k' st', Inv m s' k' st' →
   wpY P γ enc xs l c (dc1 (fun s1 k1 st1 => ∃ m1 s2, m1 < m ∧ (∀ t, s2 t = .undef ∨ s2 t = s1 t) ∧ Inv m1 s2 k1 st1) Q) s' k' st'
 | .exit id, Q, s, k, st => Q (.exit id) s k st
 | .ret, Q, s, k, st => Q .ret s k st
 | _, _, _, _, _ => False
def fl1 (γ : Nat → EV) (n : Nat) (φ : Nat → Nat) (I : Nat → Prop) (xs : List α) (J Jx : List α → World → Prop) (W0 : World) (Q : AX → aa6 → Nat → Bool → Prop) (e : Exit) (a' : Act) (w' : World) : Prop :=
 ∃ s' k' st' x, RelY γ n φ I xs J Jx W0 k' st' s' a' w' ∧ Q x s' k' st' ∧ match x, e with
  | .normal, .normal => True
  | .ret, .ret => True
  | .exit id, .exit id' => id = id'
  | _, _ => False
theorem RelY.rel {k : Nat} {st : Bool} {s : aa6} {a : Act} {W : World} (h : RelY γ n φ I xs J Jx W0 k st s a W) : Rel (gY γ st) n 0 φ (fun B => I B ∧ st = false) s [] a W :=
 ⟨h.sz, h.slots, h.heap, by rw [h.defers]; exact .none (Nat.zero_le _)⟩
theorem RelY.step (hJ : AbidesFrom W0.heap.size J) (hJx : AbidesFrom W0.heap.size Jx) {k : Nat} {st : Bool} {s : aa6} {a : Act} {W W' : World} (h : RelY γ n φ I xs J Jx W0 k st s a W) {φ' : Nat → Nat} {I' : Nat → Prop}
  (he : Evo φ (fun B => I B ∧ st = false) [] W φ' I' [] W') {dst : Option Nat} (hd : ∀ d, dst = some d → d < n) {v : EV} {val : Value} (hf : flat v = true) (hv : RV φ' 0 I' W' v val) : RelY γ n φ I xs J Jx W0 k st (putA s dst v) (a.put dst val) W' := by
 have all : ∀ B, B < W.heap.size → W'.heap[B]? = W.heap[B]? := fun B hB => he.keep B hB (by rintro ⟨b, x, hb, _⟩; simp at hb)
 have mono : ∀ {x : EV} {u : Value}, RV φ 0 (fun B => I B ∧ st = false) W x u → RV φ 0 (fun B => I B ∧ st = false) W' x u := fun g =>
  g.mono (Nat.le_refl _) (fun _ _ => rfl) (fun _ h => h) (fun B hB => all B (h.heap.imm B hB)) (fun _ hb => absurd hb (Nat.not_lt_zero _))
 have grown : W.grownBy W' none := ⟨he.os, he.tape, he.out, he.size, fun B hB _ => all B hB⟩
 refine ⟨?_, ?_, h.le, fun t => ?_, ⟨fun g => mono (h.heap.glob g), by simp, by simp, fun B hB => Nat.lt_of_lt_of_le (h.heap.imm B hB) he.size, by simp, by simp⟩, ?_⟩
 ·cases dst <;> simp [Act.put, h.sz]
 ·cases dst <;> exact h.defers
 ·cases dst with
  | none => exact mono (h.slots t)
  | some d =>
   have hdn := hd d rfl
   simp only [putA, upd, Act.put]
   by_cases e : t = d
   ·subst e
    rw [if_pos rfl]
    simp only [Array.getD_eq_getD_getElem?]
    simp [h.sz, hdn]
    exact fd9 hf hv
   ·rw [if_neg e]
    have := mono (h.slots t)
    simpa [Array.getElem?_setIfInBounds_ne (Ne.symm e)] using this
 ·have := h.inv
  cases st
  ·exact hJ _ _ _ none this grown (by simp)
  ·exact hJx _ _ _ none this grown (by simp)
theorem fa2 {N : Nat} {w : World} {x : EV} {v : Value} (hx : bd3 x = true) (h : RV φ N I w x v) : v = scal x := by
 cases h <;> first | (simp [bd3] at hx; done) | rfl
theorem do4 (hJ : AbidesFrom W0.heap.size J) (hJx : AbidesFrom W0.heap.size Jx) (hsc : ∀ x, bd3 (enc x) = true)
  (hyield : ∀ pre x W1, J pre W1 → pre.length < xs.length → YieldAt (FR none) (m - 1) P l #[scal (enc x)] W1 fun e W' => (e = .returned (.bool true) ∧ J (pre ++ [x]) W' ∧ KpI I W1 W') ∨ (e = .returned (.bool false) ∧ Jx (pre ++ [x]) W'))
  {k : Nat} {st : Bool} {s : aa6} {a : Act} {W : World} (h : RelY γ n φ I xs J Jx W0 k st s a W) {o : Oper} {b : Bool} {eo : EOp} (hres : ad1 P b o.op = some eo) (hd : ∀ d, o.dst = some d → d < n) {K : EV → Nat → Bool → Prop} (hw : wopY P γ enc xs l s k st eo K)
  {Kc : Act → World → Prop} {Qc : Exit → Act → World → Prop}
  (hK : ∀ v k' st' a' W', K v k' st' → RelY γ n φ I xs J Jx W0 k' st' (putA (if st' = st then s else fun _ => .undef) o.dst v) a' W' → Kc a' W') :
  o.wpIn (FR none) m P a W Kc Qc := by
 have plain : wop P (gY γ st) (fun _ _ => False) (ev (gY γ st) s) [] eo (fun v H' => flat v = true ∧ H' = [] ∧ K v k st) → o.wpIn (FR none) m P a W Kc Qc := by
  intro hp
  have h1 := bg5 (Q := fun _ _ _ => False) h.rel hres hd hp
  refine opIn (fun c e => by rw [e] at hres; simp [ad1] at hres) ?_
  have h2 := bk3 (Q' := Qc) (fun e a' w' hp => by obtain ⟨φ', I', s', H', x, _, _, _, hq⟩ := hp; exact hq.elim) h1
  refine Oper.wp_mono (fun a' w' hp => ?_) h2
  obtain ⟨φ', I', H', v, e1, e2, ⟨hf, rfl, hk⟩, val, rfl, hv⟩ := hp
  refine hK v k st _ w' hk ?_
  rw [if_pos rfl]
  exact h.step hJ hJx e1 hd hf hv
 unfold wopY at hw
 split at hw
 ·rename_i f args
  split at hw
  ·rename_i l' hf
   obtain ⟨rfl, rfl, x, hx, hargs, ht, hfl⟩ := hw
   obtain ⟨fo, ao, ats, ho, hfo, hao⟩ := dj5 hres
   have rf := ac0 h.rel hfo
   rw [hf] at rf
   generalize hva : a.eval fo = vf at rf
   cases rf with
   | func _ _ _ vfst vcap l1 l2 l3 l4 =>
   have hv0 : vfst = #[] := Array.eq_empty_of_size_eq_zero (by simpa using l1.symm)
   have hv1 : vcap = #[] := Array.eq_empty_of_size_eq_zero (by simpa using l2.symm)
   subst hv0 hv1
   obtain ⟨o1, o2⟩ := bh2 h.rel hao
   rw [hargs] at o1 o2
   have hval : ao.map a.eval = #[scal (enc x)] := by
    have hs1 : (ao.map a.eval).size = 1 := o1.symm
    have e0 := o2 0 (enc x) (ao.map a.eval)[0] rfl (by simp [hs1])
    have := fa2 (hsc x) e0
    apply Array.ext (by simpa using hs1)
    intro i h1 h2
    have : i = 0 := by simp at h2; omega
    subst this
    simpa using this
   have hkl := aa9 hx
   have hinv : J (xs.take k) W := by simpa using h.inv
   obtain ⟨fn, tmps, asg, body, hy, hround⟩ := hyield (xs.take k) x W hinv (by simp; omega)
   have htake : xs.take k ++ [x] = xs.take (k + 1) := by rw [List.take_add_one, hx]; rfl
   rw [htake] at hround
   refine ⟨fun _ _ => trivial, ?_⟩
   have hnd : ∀ c, o.op ≠ .defer c := fun c e => by rw [ho] at e; simp at e
   rw [Oper.semAt_eq _ _ _ hnd]
   have hrun : (execOp a.eval o).run P W = .ok (.round l' fn tmps asg body) W := by
    rw [el3 ho, hva, hval]
    simp [Deferred.ofValue, invoke, hy]
   rw [hrun, Oper.uponIn_round]
   refine ⟨ct1, RoundIn.mono hround fun e W' he => ?_⟩
   rcases he with ⟨rfl, hj, hkp⟩ | ⟨rfl, hjx⟩
   ·refine hK (.bool true) (k + 1) false _ W' ht ?_
    rw [if_pos rfl]
    have hkp' : ∀ B, (I B ∧ false = false) → W'.heap[B]? = W.heap[B]? := fun B hB => hkp B hB.1
    have mono : ∀ {x : EV} {u : Value}, RV φ 0 (fun B => I B ∧ false = false) W x u → RV φ 0 (fun B => I B ∧ false = false) W' x u := fun g =>
     g.mono (Nat.le_refl _) (fun _ _ => rfl) (fun _ h => h) hkp' (fun _ hb => absurd hb (Nat.not_lt_zero _))
    refine ⟨?_, ?_, by omega, fun t => ?_, ⟨fun g => mono (h.heap.glob g), by simp, by simp, fun B hB => ?_, by simp, by simp⟩, by simpa using hj⟩
    ·cases hdst : o.dst <;> simp [Act.put, h.sz]
    ·cases hdst : o.dst <;> exact h.defers
    ·cases hdst : o.dst with
     | none => exact mono (h.slots t)
     | some d =>
      have hdn := hd d hdst
      simp only [putA, upd, Act.put]
      by_cases e : t = d
      ·subst e
       rw [if_pos rfl]
       simp only [Array.getD_eq_getD_getElem?]
       simp [h.sz, hdn]
       exact .bool _
      ·rw [if_neg e]
       have := mono (h.slots t)
       simpa [Array.getElem?_setIfInBounds_ne (Ne.symm e)] using this
    ·have h1 := h.heap.imm B hB
     have h2 := hkp' B hB
     rw [Array.getElem?_eq_getElem h1] at h2
     exact (Array.getElem?_eq_some_iff.1 h2).1
   ·refine hK (.bool false) (k + 1) true _ W' hfl ?_
    rw [if_neg (by simp)]
    refine ⟨?_, ?_, by omega, fun t => ?_, ⟨fun g => .undef _, by simp, by simp, fun B hB => by simp at hB, by simp, by simp⟩, by simpa using hjx⟩
    ·cases hdst : o.dst <;> simp [Act.put, h.sz]
    ·cases hdst : o.dst <;> exact h.defers
    ·have old : ∀ t, RV φ 0 (fun B => I B ∧ true = false) W' .undef (a.tmps.getD t Go.undef) := fun t => .undef _
     cases hdst : o.dst with
     | none => exact old t
     | some d =>
      have hdn := hd d hdst
      simp only [putA, upd, Act.put]
      by_cases e : t = d
      ·subst e
       rw [if_pos rfl]
       simp only [Array.getD_eq_getD_getElem?]
       simp [h.sz, hdn]
       exact .bool _
      ·rw [if_neg e]
       have := old t
       simpa [Array.getElem?_setIfInBounds_ne (Ne.symm e)] using this
  ·rename_i g first cap hf
   obtain ⟨v, hc, hfv, hk⟩ := hw
   refine plain ?_
   unfold wop
   simp only
   rw [hf]
   exact ⟨_, hc, fun er H' he => by obtain ⟨rfl, rfl⟩ := he; exact ⟨hfv, rfl, hk⟩⟩
  ·exact hw.elim
 ·exact hw.elim
 ·split at hw
  ·rename_i v hev
   exact plain (ce1 hev ⟨hw.1, rfl, hw.2⟩)
  ·exact hw.elim
theorem ce0 (hJ : AbidesFrom W0.heap.size J) (hJx : AbidesFrom W0.heap.size Jx) (hsc : ∀ x, bd3 (enc x) = true)
  (hyield : ∀ pre x W1, J pre W1 → pre.length < xs.length → YieldAt (FR none) (m - 1) P l #[scal (enc x)] W1 fun e W' => (e = .returned (.bool true) ∧ J (pre ++ [x]) W' ∧ KpI I W1 W') ∨ (e = .returned (.bool false) ∧ Jx (pre ++ [x]) W'))
  {own : List Nat} {ops : Array Oper} {Q : AX → aa6 → Nat → Bool → Prop} : ∀ (ls : List Oper) (es : List EOper), ls.mapM (ah3 P n own ops) = some es → ∀ (k : Nat) (st : Bool) (s : aa6) (a : Act) (W : World), RelY γ n φ I xs J Jx W0 k st s a W →
   cb7 P γ enc xs l Q es s k st → wpListIn (FR none) m P ops (fl1 γ n φ I xs J Jx W0 Q) ls a W
 | [], es, he, k, st, s, a, W, hR, h => by
  simp at he; subst he
  exact ⟨s, k, st, .normal, hR, h, trivial⟩
 | o :: ls, es, he, k, st, s, a, W, hR, h => by
  simp only [List.mapM_cons, Option.pure_def, Option.bind_eq_bind, Option.bind_eq_some_iff, Option.some.injEq] at he
  obtain ⟨eo, heo, es', hes, rfl⟩ := he
  obtain ⟨⟨b, hres⟩, hdst, hd, hg⟩ := ag0 heo
  have IH := ce0 hJ hJx hsc hyield (own := own) (ops := ops) (Q := Q) ls es' hes
  obtain ⟨hgn, hw⟩ := h
  have hog : o.guard = none := by
   cases ho : o.guard with
   | none => rfl
   | some p =>
    obtain ⟨j, bb⟩ := p
    rw [ho] at hg
    obtain ⟨d, _, _, hg⟩ := hg
    rw [hg] at hgn
    simp at hgn
  simp only [wpListIn]
  rw [if_pos (by simp [Region.wanted, hog])]
  exact do4 hJ hJx hsc hyield hR hres hd hw fun v k' st' a' W' hk hR' => IH k' st' _ a' W' (by rw [← hdst] at hR'; exact hR') hk
theorem dw2 (hJ : AbidesFrom W0.heap.size J) (hJx : AbidesFrom W0.heap.size Jx) (hsc : ∀ x, bd3 (enc x) = true)
  (hyield : ∀ pre x W1, J pre W1 → pre.length < xs.length → YieldAt (FR none) (m - 1) P l #[scal (enc x)] W1 fun e W' => (e = .returned (.bool true) ∧ J (pre ++ [x]) W' ∧ KpI I W1 W') ∨ (e = .returned (.bool false) ∧ Jx (pre ++ [x]) W'))
  {own : List Nat} : ∀ (c : Code) (ec : EC), resC P n own c = some ec → ∀ (Q : AX → aa6 → Nat → Bool → Prop) (k : Nat) (st : Bool) (s : aa6) (a : Act) (W : World), RelY γ n φ I xs J Jx W0 k st s a W → wpY P γ enc xs l ec Q s k st →
   c.wpIn (FR none) m P (fl1 γ n φ I xs J Jx W0 Q) a W := by
 intro c
 induction c with
 | skip =>
  intro ec he Q k st s a W hR h
  simp only [resC, Option.some.injEq] at he; subst he
  exact wpIn_skip ⟨s, k, st, .normal, hR, h, trivial⟩
 | region id ops draw =>
  intro ec he Q k st s a W hR h
  cases draw with
  | true =>
   simp only [resC] at he
   repeat' split at he
   all_goals first
    | (simp only [Option.some.injEq] at he; subst he; first | exact h.elim | (simp only [wpY] at h))
    | (simp only [Option.map_eq_some_iff] at he; obtain ⟨z, hz, rfl⟩ := he; simp only [wpY] at h)
  | false =>
   simp only [resC, Option.map_eq_some_iff] at he
   obtain ⟨es, hl, rfl⟩ := he
   exact wpIn_region_list (ce0 hJ hJx hsc hyield ops.toList es hl k st s a W hR h)
 | seq x y ihx ihy =>
  intro ec he Q k st s a W hR h
  simp only [resC] at he
  split at he
  ·rename_i ex ey hx hy
   simp only [Option.some.injEq] at he; subst he
   refine wpIn_seq (wpIn_mono (ihx ex hx _ k st s a W hR h) fun e a' W' hp => ?_)
   obtain ⟨s', k', st', X, h1, h2, h3⟩ := hp
   cases X <;> cases e <;> simp only at h3 <;> first
    | exact ihy ey hy Q k' st' s' a' W' h1 h2
    | exact ⟨s', k', st', _, h1, h2, h3⟩
  ·simp at he
 | cond c x y ihx ihy =>
  intro ec he Q k st s a W hR h
  simp only [resC] at he
  split at he
  ·rename_i z ex ey hz hx hy
   simp only [Option.some.injEq] at he; subst he
   have rc := ac0 hR.rel hz
   simp only [wpY] at h
   split at h
   case h_2 => exact h.elim
   rename_i t ht
   rw [ht] at rc
   generalize hva : a.eval c = vc at rc
   cases rc
   refine wpIn_cond hva ?_
   cases t with
   | true => exact ihx ex hx Q k st s a W hR (by simpa using h)
   | false => exact ihy ey hy Q k st s a W hR (by simpa using h)
  ·simp at he
 | block id c ih =>
  intro ec he Q k st s a W hR h
  simp only [resC, Option.map_eq_some_iff] at he
  obtain ⟨x, hx, rfl⟩ := he
  refine wpIn_block (wpIn_mono (ih x hx _ k st s a W hR h) fun e a' W' hp => ?_)
  obtain ⟨s', k', st', X, h1, h2, h3⟩ := hp
  cases X <;> cases e <;> simp only at h3
  ·exact ⟨s', k', st', .normal, h1, h2, trivial⟩
  ·subst h3
   simp only [Exit.inBlock]
   simp only [ba2] at h2
   split
   ·rename_i e; rw [if_pos e] at h2; exact ⟨s', k', st', .normal, h1, h2, trivial⟩
   ·rename_i e; rw [if_neg e] at h2; exact ⟨s', k', st', .exit _, h1, h2, rfl⟩
  ·exact ⟨s', k', st', .ret, h1, h2, trivial⟩
 | loop c ih =>
  intro ec he Q k st s a W hR h
  simp only [resC, Option.map_eq_some_iff] at he
  obtain ⟨x, hx, rfl⟩ := he
  obtain ⟨Inv, m0, s0, hs0, h0, hround⟩ := h
  have weak : ∀ {k : Nat} {st : Bool} {s s0 : aa6} {a : Act} {W : World}, (∀ t, s0 t = .undef ∨ s0 t = s t) → RelY γ n φ I xs J Jx W0 k st s a W → RelY γ n φ I xs J Jx W0 k st s0 a W := fun hs hR =>
   ⟨hR.sz, hR.defers, hR.le, fun t => by
    rcases hs t with e | e
    ·rw [e]; exact .undef _
    ·rw [e]; exact hR.slots t, hR.heap, hR.inv⟩
  refine bb1 (fun q a' W' => ∃ s' k' st', RelY γ n φ I xs J Jx W0 k' st' s' a' W' ∧ Inv q s' k' st') m0 ⟨s0, k, st, weak hs0 hR, h0⟩ ?_
  rintro q a' W' ⟨s', k', st', h1, h3⟩
  refine wpIn_mono (ih x hx _ k' st' s' a' W' h1 (hround q s' k' st' h3)) fun e a'' W'' hp => ?_
  obtain ⟨s2, k2, st2, X, g1, g2, g3⟩ := hp
  cases X <;> cases e <;> simp only at g3
  ·obtain ⟨m1, s3, k1, k2', k3⟩ := g2
   exact ⟨m1, k1, s3, _, _, weak k2' g1, k3⟩
  ·exact ⟨s2, k2, st2, .exit _, g1, g2, g3⟩
  ·exact ⟨s2, k2, st2, .ret, g1, g2, trivial⟩
 | exit id =>
  intro ec he Q k st s a W hR h
  simp only [resC, Option.some.injEq] at he; subst he
  exact wpIn_exit ⟨s, k, st, .exit id, hR, h, rfl⟩
 | ret =>
  intro ec he Q k st s a W hR h
  simp only [resC, Option.some.injEq] at he; subst he
  exact wpIn_ret ⟨s, k, st, .ret, hR, h, trivial⟩
 | rangeFunc f ps asg c _ _ =>
  intro ec he Q k st s a W hR h
  simp only [resC] at he
  split at he
  ·split at he
   ·simp only [Option.some.injEq] at he; subst he
    exact h.elim
   ·simp at he
  ·simp at he
 | scope c ih =>
  intro ec he Q k st s a W hR h
  simp only [resC] at he
  refine bx8 (ih ec he Q k st s a W hR h) fun l a' w' ⟨s', k', st', x, _, _, h3⟩ => ?_
  cases x <;> exact h3.elim
 | label l =>
  intro ec he Q k st s a W hR h
  simp only [resC, Option.some.injEq] at he; subst he
  exact wpIn_label ⟨s, k, st, .normal, hR, h, trivial⟩
 | _ => intro ec he; simp [resC] at he
theorem cr0 {g : FuncId} {fn : Func} {c : Code} {own : List Nat} {ec : EC} {cap : List EV} (hf : P.funcs[g]? = some fn) (hb : fn.body = some c) (hn : (fn.name == "runtime.NumGoroutine") = false) (hc : resC P fn.ntmps own c = some ec)
  (hrs : fn.results = #[]) (ha : cap.length + 1 ≤ fn.ntmps) (hsc : ∀ x, bd3 (enc x) = true)
  (h : ∀ l, wpY P γ enc xs l ec (fun X _ k st => (X = .normal ∨ X = .ret) ∧ (st = false → k = xs.length)) (aj3 (.func (.yield l) [] [] :: cap)) 0 false) : en0 P γ g cap enc xs := by
 refine ⟨⟨fn, c, hf, hb, hn⟩, fun m φ I w lb hr hcap l J Jx W hbel hJ hJx hy h0 => callsIn_of_wp (F := FR none) hf hb trivial ?_⟩
 have hI : ∀ B, I B → W.heap[B]? = w.heap[B]? := fun B hB => hbel.block B (hr.imm B hB)
 have mono : ∀ {N : Nat} {x : EV} {u : Value}, RV φ 0 I w x u → RV φ 0 (fun B => I B ∧ false = false) W x u := fun g =>
  g.mono (Nat.le_refl _) (fun _ _ => rfl) (fun _ h => ⟨h, rfl⟩) hI (fun _ hb => absurd hb (Nat.not_lt_zero _))
 have hsz : (#[Value.func (.yield l) #[] #[]] ++ lb).size = cap.length + 1 := by
  have := hcap.1
  simp at this ⊢
  omega
 have hR : RelY γ fn.ntmps φ I xs J Jx W 0 false (aj3 (.func (.yield l) [] [] :: cap)) { tmps := (#[Value.func (.yield l) #[] #[]] ++ lb) ++ Array.replicate (fn.ntmps - (#[Value.func (.yield l) #[] #[]] ++ lb).size) Go.undef, defers := [] } W := by
  refine ⟨by simp only [Array.size_append, Array.size_replicate]; simp only [Array.size_append] at hsz; omega, rfl, Nat.zero_le _, fun t => ?_, ⟨fun g => mono (N := 0) (hr.glob g), by simp, by simp, fun B hB => Nat.lt_of_lt_of_le (hr.imm B hB.1) hbel.size, by simp, by simp⟩, by simpa using h0⟩
  simp only [aj3, Array.getD_eq_getD_getElem?]
  by_cases ht : t < cap.length + 1
  ·rw [Array.getElem?_append_left (by rw [hsz]; exact ht)]
   cases t with
   | zero =>
    simp only [List.getElem?_cons_zero, Option.getD_some]
    rw [Array.getElem?_append_left (by simp)]
    exact .func _ [] [] #[] #[] rfl rfl (by simp) (by simp)
   | succ t =>
    rw [Array.getElem?_append_right (by simp)]
    simp only [List.getElem?_cons_succ, List.size_toArray, List.length_cons, List.length_nil, Nat.zero_add, Nat.add_sub_cancel]
    have h1 : t < cap.length := by omega
    have h2 : t < lb.size := by have := hcap.1; simp at this; omega
    have := hcap.2 t cap[t] lb[t] (by simp [h1]) (by simp [h2])
    simpa [h1, h2] using mono (N := 0) this
  ·rw [List.getElem?_eq_none (by simp; omega)]
   exact .undef _
 refine wpIn_mono (dw2 hJ hJx hsc hy c ec hc _ 0 false _ _ W hR (h l)) fun e a' w' hp => ?_
 obtain ⟨s', k', st', X, h1, ⟨h2, h4⟩, h3⟩ := hp
 have hres : (results fn a'.tmps).run P w' = .ok (.tuple #[]) w' := by
  rw [cm2, Array.mapM_eq_mapM_toList, hrs]
  simp
 have fin : a'.defers = [] ∧ ∃ v, (results fn a'.tmps).run P w' = .ok v w' ∧ (∃ v_1, Ending.returned v = .returned v_1) ∧ ((∃ xs_1, xs_1 = xs ∧ J xs_1 w') ∨ (∃ pre, pre <+: xs ∧ Jx pre w')) := by
  refine ⟨h1.defers, _, hres, ⟨_, rfl⟩, ?_⟩
  have hinv := h1.inv
  cases st' with
  | false =>
   have hk := h4 rfl
   subst hk
   refine .inl ⟨xs, rfl, ?_⟩
   simpa using hinv
  | true => exact .inr ⟨xs.take k', List.take_prefix _ _, by simpa using hinv⟩
 rcases h2 with rfl | rfl <;> cases e <;> simp only at h3
 ·exact fin
 ·exact fin
end
open Gn
section
variable {P : Program} {γ : Nat → EV} {α : Type} {enc : α → EV} {xs : List α} {l : Nat} {Q : AX → aa6 → Nat → Bool → Prop} {s : aa6} {k : Nat} {st : Bool}
theorem au2 {a b : EC} (h : wpY P γ enc xs l a (dc1 (fun s' k' st' => wpY P γ enc xs l b Q s' k' st') Q) s k st) : wpY P γ enc xs l (.seq a b) Q s k st := h
theorem au4 {o : List EOper} (h : cb7 P γ enc xs l Q o s k st) : wpY P γ enc xs l (.ops o) Q s k st := h
theorem ap4 (h : Q .normal s k st) : wpY P γ enc xs l .skip Q s k st := h
theorem ap5 {id : Nat} (h : Q (.exit id) s k st) : wpY P γ enc xs l (.exit id) Q s k st := h
theorem au3 (h : Q .ret s k st) : wpY P γ enc xs l .ret Q s k st := h
theorem aj9 {id : Nat} {c : EC} (h : wpY P γ enc xs l c (ba2 id Q) s k st) : wpY P γ enc xs l (.block id c) Q s k st := h
theorem ak0 (h : Q .normal s k st) : cb7 P γ enc xs l Q [] s k st := h
theorem ae7 {next : aa6 → Nat → Bool → Prop} (h : next s k st) : dc1 next Q .normal s k st := h
theorem ah7 {next : aa6 → Nat → Bool → Prop} {id : Nat} (h : Q (.exit id) s k st) : dc1 next Q (.exit id) s k st := h
theorem ak1 {next : aa6 → Nat → Bool → Prop} (h : Q .ret s k st) : dc1 next Q .ret s k st := h
theorem ae0 {id : Nat} (h : Q .normal s k st) : ba2 id Q .normal s k st := h
theorem ai0 {id : Nat} (h : Q .ret s k st) : ba2 id Q .ret s k st := h
theorem ac6 {id : Nat} (h : Q .normal s k st) : ba2 id Q (.exit id) s k st := by simpa [ba2] using h
theorem ac3 {id id' : Nat} (hne : id' ≠ id) (h : Q (.exit id') s k st) : ba2 id Q (.exit id') s k st := by simpa [ba2, hne] using h
theorem ap3 {c : EOpd} {a b : EC} {t : Bool} (hc : ev (gY γ st) s c = .bool t) (h : gate t (wpY P γ enc xs l a Q s k st) (wpY P γ enc xs l b Q s k st)) : wpY P γ enc xs l (.cond c a b) Q s k st := by
 simp only [wpY]
 rw [hc]
 cases t
 ·have h' : wpY P γ enc xs l b Q s k st := h
  simpa using h'
 ·have h' : wpY P γ enc xs l a Q s k st := h
  simpa using h'
theorem eo2 {c : EOpd} {a b : EC} {t : Bool} (hc : ev (gY γ st) s c = .bool t) (h1 : t = true → wpY P γ enc xs l a Q s k st) (h2 : t = false → wpY P γ enc xs l b Q s k st) : wpY P γ enc xs l (.cond c a b) Q s k st := by
 simp only [wpY]
 rw [hc]
 cases t
 ·simpa using h2 rfl
 ·simpa using h1 rfl
theorem ez1 {op : EOp} {v : EV} {K : EV → Nat → Bool → Prop} (hev : evOp (ev (gY γ st) s) [] op = some (v, [])) (hf : flat v = true) (h : K v k st) : wopY P γ enc xs l s k st op K := by
 unfold wopY
 split
 ·simp [evOp] at hev
 ·simp [evOp] at hev
 ·rw [hev]; exact ⟨hf, h⟩
theorem ah6 {d : Option Nat} {op : EOp} {rest : List EOper} {v : EV} (hev : evOp (ev (gY γ st) s) [] op = some (v, [])) (hf : flat v = true) (h : cb7 P γ enc xs l Q rest (putA s d v) k st) : cb7 P γ enc xs l Q ({ dst := d, op := op } :: rest) s k st :=
 ⟨rfl, ez1 hev hf (by rw [if_pos rfl]; exact h)⟩
theorem do3 {d : Option Nat} {f : EOpd} {args : List EOpd} {rest : List EOper} {g : FuncId} {first cap as : List EV} {v : EV} (hf : ev (gY γ st) s f = .func (.func g) first cap) (ha : args.map (ev (gY γ st) s) = as)
  (hc : CallsA P (gY γ st) g (first ++ as ++ cap) [] fun er H' => er = .ret v ∧ H' = []) (hv : flat v = true) (h : cb7 P γ enc xs l Q rest (putA s d v) k st) : cb7 P γ enc xs l Q ({ dst := d, op := .call f args } :: rest) s k st := by
 subst ha
 refine ⟨rfl, ?_⟩
 simp only [wopY]
 rw [hf]
 exact ⟨v, hc, hv, by simpa using h⟩
theorem db6 {d : Option Nat} {f : EOpd} {args : List EOpd} {rest : List EOper} {x : α} (hf : ev (gY γ false) s f = .func (.yield l) [] []) (hx : xs[k]? = some x) (ha : args.map (ev (gY γ false) s) = [enc x])
  (h1 : cb7 P γ enc xs l Q rest (putA s d (.bool true)) (k + 1) false) (h2 : cb7 P γ enc xs l Q rest (putA (fun _ => .undef) d (.bool false)) (k + 1) true) :
  cb7 P γ enc xs l Q ({ dst := d, op := .call f args } :: rest) s k false := by
 refine ⟨rfl, ?_⟩
 simp only [wopY]
 rw [hf]
 exact ⟨rfl, trivial, x, hx, ha, by simpa using h1, by simpa using h2⟩
theorem ct4 {ι : Type} {c : EC} (J : ι → Prop) (μ : ι → Nat) (S : ι → List (Nat × EV)) (kf : ι → Nat) (i0 : ι) (hJ : J i0) (hl : be5 s 0 (S i0)) (hk : k = kf i0)
  (h : ∀ i, J i → ∀ (K : aa6 → Nat → Bool → Prop) (Q' : AX → aa6 → Nat → Bool → Prop), (∀ j s1 k1, J j → μ j < μ i → k1 = kf j → be5 s1 0 (S j) → K s1 k1 false) → (∀ x s k st, Q x s k st → Q' x s k st) →
   wpY P γ enc xs l c (dc1 K Q') (mkS (S i)) (kf i) false) : wpY P γ enc xs l (.loop c) Q s k false := by
 refine ⟨fun m s' k' st' => ∃ i, J i ∧ m = μ i ∧ s' = mkS (S i) ∧ k' = kf i ∧ st' = false, μ i0, mkS (S i0), fun t => dl0 s (S i0) (fun p hp => (ax4 hl p hp).1) t, ⟨i0, hJ, rfl, rfl, hk, rfl⟩, ?_⟩
 rintro m s' k' st' ⟨i, hi, rfl, rfl, rfl, rfl⟩
 exact h i hi _ Q (fun j s1 k1 hj hlt hk1 hs => ⟨μ j, mkS (S j), hlt, fun t => dl0 s1 (S j) (fun p hp => (ax4 hs p hp).1) t, j, hj, rfl, rfl, hk1, rfl⟩) fun _ _ _ _ h => h
theorem Body.iter {g : FuncId} {ec : EC} {nt : Nat} (hb : Body P g ec [] nt) {cap : List EV} (ha : cap.length + 1 ≤ nt) (hsc : ∀ x, bd3 (enc x) = true)
  (h : ∀ l, wpY P γ enc xs l ec (fun X _ k st => (X = .normal ∨ X = .ret) ∧ (st = false → k = xs.length)) (aj3 (.func (.yield l) [] [] :: cap)) 0 false) : en0 P γ g cap enc xs := by
 obtain ⟨fn, c, own, h1, h2, h3, h4, h5, rfl⟩ := hb
 refine cr0 h1 h2 h3 h4 ?_ ha hsc h
 have := (am2 h5).1
 exact Array.eq_empty_of_size_eq_zero (by simpa using this.symm)
theorem dv9 {f : EOpd} {p d : Nat} {c : EC} {Q : AX → aa6 → Heap → Prop} {H : Heap} (Hs : List α → Heap) (J : List α → Prop) {g : FuncId} {cap : List EV} (hf : ev γ s f = .func (.func g) [] cap) (hcap : okL 0 cap = true) (hit : en0 P γ g cap enc xs)
  (hsc : ∀ x, bd3 (enc x) = true) (h0 : H = Hs []) (hJ0 : J []) (hnm : ∀ pre, br5 (Hs pre))
  (hbody : ∀ pre x, pre.length < xs.length → J pre → wpc P γ c (dk1 Q s (Hs (pre ++ [x])) (J (pre ++ [x])) (pre ++ [x] <+: xs)) (upd (upd s p (enc x)) d (enc x)) (Hs pre)) (hdone : J xs → Q .normal s (Hs xs)) : wpc P γ (.rangeFunc f p d c) Q s H :=
 ⟨α, enc, g, cap, xs, Hs, J, hf, hcap, hit, hsc, h0.symm, hJ0, hnm, hbody, hdone⟩
theorem cp9 {Q : AX → aa6 → Heap → Prop} {s0 : aa6} {Hn H : Heap} {Jn whole : Prop} (h1 : H = Hn) (h2 : Jn) : dk1 Q s0 Hn Jn whole .normal s H := ⟨h1, h2⟩
theorem dp8 {Q : AX → aa6 → Heap → Prop} {s0 : aa6} {Hn H : Heap} {Jn whole : Prop} (h1 : whole → Q .ret s0 H) (h2 : br5 H) : dk1 Q s0 Hn Jn whole .ret s H := ⟨h1, h2⟩
def by2 : Heap → Bool
 | [] => true
 | some (.map _) :: _ => false
 | some (.it _ _) :: _ => false
 | _ :: H => by2 H
theorem bu7 : ∀ {H : Heap}, by2 H = true → br5 H
 | [], _ => fun b es h => by simp at h
 | none :: H, h => fun b es hb => by
  cases b with
  | zero => simp at hb
  | succ b => exact bu7 (H := H) (by simpa [by2] using h) b es (by simpa using hb)
 | some (.it _ _) :: _, h => by simp [by2] at h
 | some (.row _ _) :: H, h => fun b es hb => by
  cases b with
  | zero =>
   simp at hb
   subst hb
   rfl
  | succ b => exact bu7 (H := H) (by simpa [by2] using h) b es (by simpa using hb)
 | some (.map _) :: _, h => by simp [by2] at h
end
attribute [go_sem] flat bd3
section
variable {P : Program} {γ : Nat → EV}
theorem fh7 {φ : Nat → Nat} {I : Nat → Prop} {H : Heap} {w : World} (h : RH γ φ I H w) : RH γ φ I [] w where
 glob := h.glob
 blk b x hb := by simp at hb
 inj b b' x x' hb := by simp at hb
 imm := h.imm
 dis b x hb := by simp at hb
 lt b x hb := by simp at hb
theorem CallsA.frame {f : FuncId} {args : List EV} {r : ER} (h : CallsA P γ f args [] fun er H' => er = r ∧ H' = []) (ho : okL 0 args = true) (H : Heap) : CallsA P γ f args H fun er H' => er = r ∧ H' = H := by
 refine ⟨h.1, fun φ I w vs hr hv => ?_⟩
 have hv0 : RCs φ 0 I w args vs.toList := ⟨hv.1, fun k x v hx hvk => (hv.2 k x v hx hvk).trunc (ag9.1 ho x (List.mem_of_getElem? hx))⟩
 refine (h.2 φ I w vs (fh7 hr) hv0).mono fun e w' ⟨φ', I', H', er, he, hr', hre, h1, h2⟩ => ?_
 subst h1 h2
 have no : ∀ B, ¬ Own φ [] B := fun B ⟨b, x, hb, _⟩ => by simp at hb
 have same : ∀ B, B < w.heap.size → w'.heap[B]? = w.heap[B]? := fun B hB => he.keep B hB (no B)
 have him : ∀ B, I' B → I B ∨ w.heap.size ≤ B := fun B hB => by
  rcases he.immf B hB with h | h | h
  ·exact .inl h
  ·exact absurd h (no B)
  ·exact .inr h
 have hmono : ∀ {N : Nat} {x : EV} {v : Value}, RV φ' 0 I' w' x v → RV φ N I' w' x v := fun h => h.mono (Nat.zero_le _) (fun i hi => absurd hi (Nat.not_lt_zero i)) (fun _ h => h) (fun _ _ => rfl) (fun b hb => absurd hb (Nat.not_lt_zero b))
 refine ⟨φ, I', H, er, ⟨he.size, he.shape, fun B hB _ => same B hB, he.imm, fun _ _ => rfl, Nat.le_refl _, fun B h => .inl h, fun B hB => ?_, he.tape, he.os, he.out, he.froz⟩, ⟨fun g => ?_, fun b x hb => ?_, hr.inj, hr'.imm, fun b x hb hI => ?_, fun b x hb => Nat.lt_of_lt_of_le (hr.lt b x hb) he.size⟩, ?_, rfl, rfl⟩
 ·rcases him B hB with h | h
  ·exact .inl h
  ·exact .inr (.inr h)
 ·exact hmono (hr'.glob g)
 ·exact (hr.blk b x hb).mono (Nat.le_refl _) (fun _ _ => rfl) he.imm (fun B hB => same B (hr.imm B hB)) (fun b' hb' T n hs => (he.shape (φ b') (au6 hs)).trans hs) (same _ (hr.lt b x hb))
 ·rcases him _ hI with h | h
  ·exact hr.dis b x hb h
  ·have := hr.lt b x hb; omega
 ·cases hre with
  | ret x v hx => exact .ret x v (hmono hx)
  | pan x v hx => exact .pan x v (hmono hx)
end
end Abs
