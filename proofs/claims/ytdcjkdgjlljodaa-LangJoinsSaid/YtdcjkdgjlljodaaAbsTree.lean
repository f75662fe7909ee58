/- A part. -/
import Derived.Test.YtdcjkdgjlljodaaDenRow2
import Derived.Test.YtdcjkdgjlljodaaTrA
set_option linter.all false
namespace Abs
open Go Go.ChangeShapes Go.WideShapes Go.RowKit
section
variable {H : Type} {enc : TypeId × Value → H} {P : Program} {w : World} {base : Nat} {spare : Nat → Bool} {held : Bool} {φ : Nat → Nat} {N : Nat}
def eo0 (P : Program) (L : List TypeId) (t : TypeId) : Bool :=
 match P.underlying t with
 | some .bool => P.cellsOf t == 1
 | some (.int _) => P.cellsOf t == 1
 | some .string => P.cellsOf t == 1
 | some (.slice e) => P.cellsOf t == 1 && decide (0 < P.cellsOf e) && L.contains e
 | some (.array n e) => P.cellsOf t == n * P.cellsOf e && L.contains e
 | some (.struct fs) => bg1 P 0 fs.toList == some (P.cellsOf t) && fs.toList.all fun f => L.contains f.type
 | _ => false
theorem da2 (hspare : ∀ b, spare b = true) {L : List TypeId} (hL : L.all (eo0 P L) = true) : ∀ (D : Nat) (t : TypeId) (fuel : Nat) (cs : List Value) (x : DataW H × List MemPlace), L.contains t = true → sizeOf x.1 < D → DataW.trod enc P w base spare held fuel t cs = some x →
  cs.length = P.cellsOf t ∧ ∃ es, RCs φ N (oldI w) w es cs ∧ ar7 P D t es
 | 0, t, _, _, _, _, h, _ => by omega
 | D + 1, t, fuel, cs, x, hc, hsz0, hr => by
  have IH := da2 hspare hL D
  have hp := List.all_eq_true.1 hL t (by simpa using hc)
  unfold eo0 at hp
  unfold ar7
  split at hp
  ·rename_i hu
   simp only [hu]
   obtain ⟨b, rfl, rfl⟩ := DataW.trod_bool hu hr
   simp only [beq_iff_eq] at hp
   exact ⟨hp.symm, [.bool b], bl0 (.bool b), b, rfl⟩
  ·rename_i k hu
   simp only [hu]
   obtain ⟨n, rfl, rfl, hw⟩ := DataW.trod_int hu hr
   simp only [beq_iff_eq] at hp
   exact ⟨hp.symm, [.int k n], bl0 (.int k n), n, rfl, hw⟩
  ·rename_i hu
   simp only [hu]
   obtain ⟨s, rfl, rfl, hw⟩ := DataW.trod_string hu hr
   simp only [beq_iff_eq] at hp
   have : RV φ N (oldI w) w (.str s.data.toList) (.string ⟨s.data.toList.toArray⟩) := .str _
   exact ⟨hp.symm, [.str s.data.toList], bl0 (by simpa only [Array.toArray_toList] using this), s.data.toList, rfl, by rw [Array.length_toList]; exact hw⟩
  ·rename_i e hu
   simp only [hu]
   simp only [Bool.and_eq_true, beq_iff_eq, decide_eq_true_eq] at hp
   obtain ⟨⟨h1, hz⟩, hpe⟩ := hp
   rcases Go.Deep.open_slice hu hr with ⟨rfl, rfl⟩ | ⟨a, len, cap, m, n, Dt, Pl, rfl, hb, hl, hm, hmm, rfl, hx⟩
   ·exact ⟨by simp [h1], [.nilsl], bl0 .nilsl, .inl rfl⟩
   ·refine ⟨by simp [h1], ?_⟩
    have hlm : len ≤ m := by rw [hmm]; split <;> omega
    have hel : ∀ i, ∃ ec : List EV × List Value, i < len → w.cells? base (a.add (i * P.cellsOf e)) (P.cellsOf e) = some ec.2 ∧ RCs φ N (oldI w) w ec.1 ec.2 ∧ ar7 P D e ec.1 := fun i => by
     by_cases hi : i < len
     ·obtain ⟨cs', c1, c2⟩ := hx i (by omega)
      obtain ⟨_, es, e1, e2⟩ := IH e n cs' _ hpe (by
       have h1 : Dt i ∈ (List.range len).map Dt := List.mem_map.2 ⟨i, by simpa using hi, rfl⟩
       have h2 := List.sizeOf_lt_of_mem h1
       simp only [DataW.slice.sizeOf_spec] at hsz0
       show sizeOf (Dt i) < D
       omega) c2
      exact ⟨(es, cs'), fun _ => ⟨c1, e1, e2⟩⟩
     ·exact ⟨([], []), fun h => absurd h hi⟩
    obtain ⟨F, hch⟩ : ∃ F : Nat → List EV × List Value, ∀ i, i < len → w.cells? base (a.add (i * P.cellsOf e)) (P.cellsOf e) = some (F i).2 ∧ RCs φ N (oldI w) w (F i).1 (F i).2 ∧ ar7 P D e (F i).1 :=
     ⟨fun i => Classical.choose (hel i), fun i => Classical.choose_spec (hel i)⟩
    have hsh : ∀ x ∈ (List.range len).map (fun i => bc0 P e (F i).1), ∃ cs, ar7 P D e cs ∧ x = bc0 P e cs := by
     intro x hx
     simp only [List.mem_map, List.mem_range] at hx
     obtain ⟨i, hi, rfl⟩ := hx
     exact ⟨(F i).1, (hch i hi).2.2, rfl⟩
    refine ⟨[.imm (P.cellsOf e) ((List.range len).map fun i => bc0 P e (F i).1)], bl0 ?_, .inr ⟨_, rfl, by simp; omega, hsh⟩⟩
    have hsz : ∀ i, i < len → (F i).1.length = P.cellsOf e := fun i hi => by
     rw [(hch i hi).2.1.1]
     exact (World.cells?_some (hch i hi).1).2.1
    rcases Nat.eq_zero_or_pos cap with h0 | h0
    ·subst h0
     obtain rfl : len = 0 := by omega
     exact .imm0 _ _
    ·have hget : ∀ i j, i < len → j < P.cellsOf e → w.cell? (a.add (i * P.cellsOf e + j)) = (F i).2[j]? := fun i j hi hj => by
      rw [← Go.Deep.add_add]
      exact (World.cells?_some (hch i hi).1).2.2 j hj
     have hlen2 : ∀ i, i < len → (F i).2.length = P.cellsOf e := fun i hi => (World.cells?_some (hch i hi).1).2.1
     have hsome : ∀ i j, i < len → j < P.cellsOf e → ∃ v, w.cell? (a.add (i * P.cellsOf e + j)) = some v := fun i j hi hj =>
      ⟨(F i).2[j]'(by rw [hlen2 i hi]; exact hj), by rw [hget i j hi hj]; simp⟩
     have hmc : m = cap := by rw [hmm, if_pos (hspare _)]
     obtain ⟨v0, hv0⟩ : ∃ v, w.cell? (a.add (0 * P.cellsOf e + 0)) = some v := by
      obtain ⟨cs', c1, _⟩ := hx 0 (by omega)
      have h2 := World.cells?_some c1
      have h3 := h2.2.2 0 hz
      rw [Go.Deep.add_add] at h3
      exact ⟨cs'[0]'(by rw [h2.2.1]; exact hz), by rw [h3]; simp⟩
     obtain ⟨B, o, sp⟩ := a
     have hblk : ∃ c T fr, w.heap[B]? = some (.cells c T fr) ∧ sp = none := by
      unfold World.cell? at hv0
      have e1 : ((⟨B, o, sp⟩ : Addr).add (0 * P.cellsOf e + 0)) = ⟨B, o, sp⟩ := by simp [Addr.add]
      rw [e1] at hv0
      simp only at hv0
      split at hv0
      ·rename_i c T fr hB
       refine ⟨c, T, fr, hB, ?_⟩
       cases sp with
       | none => rfl
       | some _ => simp at hv0
      ·simp at hv0
     obtain ⟨c, T, fr, hB, rfl⟩ := hblk
     have hcell : ∀ k, w.cell? ((⟨B, o, none⟩ : Addr).add k) = c[o + k]? := fun k => by
      rw [at3]
      unfold World.cell?
      simp only [hB, Option.isSome_none, Bool.false_eq_true, if_false]
     have hbound : o + len * P.cellsOf e ≤ c.size := by
      rcases Nat.eq_zero_or_pos len with hl0 | hl0
      ·have hv1 := hv0
       rw [hcell] at hv1
       have hlt := (Array.getElem?_eq_some_iff.1 hv1).1
       rw [hl0]
       simp at hlt ⊢
       omega
      ·obtain ⟨v, hv⟩ := hsome (len - 1) (P.cellsOf e - 1) (by omega) (by omega)
       rw [hcell] at hv
       have hlt := (Array.getElem?_eq_some_iff.1 hv).1
       have : (len - 1) * P.cellsOf e + P.cellsOf e = len * P.cellsOf e := by
        rw [← Nat.succ_mul]; congr 1; omega
       omega
     have := RV.imm (φ := φ) (N := N) (I := oldI w) (w := w) (P.cellsOf e) ((List.range len).map fun i => bc0 P e (F i).1) B o cap c T fr (Array.getElem?_eq_some_iff.1 hB).1 hB (by simpa using hbound) (by simpa using hl)
      (fun x hx => by
       simp only [List.mem_map, List.mem_range] at hx
       obtain ⟨i, hi, rfl⟩ := hx
       rw [by7 (hch i hi).2.2, hsz i hi])
      (fun i j x y v hx hy hv => by
       simp only [List.getElem?_map, Option.map_eq_some_iff] at hx
       obtain ⟨i1, e1, rfl⟩ := hx
       have hlt := aa3 e1
       simp only [List.length_range] at hlt
       rw [List.getElem?_range hlt] at e1
       simp only [Option.some.injEq] at e1
       subst e1
       rw [by7 (hch i hlt).2.2] at hy
       have hj := aa3 hy
       rw [hsz i hlt] at hj
       refine (hch i hlt).2.1.2 j y v hy ?_
       rw [← hget i j hlt hj, hcell, ← Nat.add_assoc]
       exact hv)
     simpa using this
  ·rename_i n e hu
   simp only [hu]
   simp only [Bool.and_eq_true, beq_iff_eq] at hp
   obtain ⟨h1, hpe⟩ := hp
   obtain ⟨xs, m, rfl, rfl, hl, hxl, hxs⟩ := DataW.trod_array hu hr
   refine ⟨hl, ?_⟩
   have hel : ∀ i, ∃ es : List EV, i < n → RCs φ N (oldI w) w es ((cs.drop (i * P.cellsOf e)).take (P.cellsOf e)) ∧ ar7 P D e es ∧ es.length = P.cellsOf e := fun i => by
    by_cases hi : i < n
    ·have := hxs i hi
     rw [List.getElem?_eq_getElem (by omega)] at this
     obtain ⟨g1, es, g2, g3⟩ := IH e m _ _ hpe (by
      have h1 : (xs[i]'(by omega)).1 ∈ xs.map (·.1) := List.mem_map.2 ⟨_, List.getElem_mem _, rfl⟩
      have h2 := List.sizeOf_lt_of_mem h1
      simp only [DataW.agg.sizeOf_spec] at hsz0
      omega) this
     exact ⟨es, fun _ => ⟨g2, g3, by rw [g2.1, g1]⟩⟩
    ·exact ⟨[], fun h => absurd h hi⟩
   obtain ⟨F, hch⟩ : ∃ F : Nat → List EV, ∀ i, i < n → RCs φ N (oldI w) w (F i) ((cs.drop (i * P.cellsOf e)).take (P.cellsOf e)) ∧ ar7 P D e (F i) ∧ (F i).length = P.cellsOf e :=
    ⟨fun i => Classical.choose (hel i), fun i => Classical.choose_spec (hel i)⟩
   refine ⟨((List.range n).map F).flatten, ?_, _, by simp, rfl, fun c hc => ?_⟩
   ·rw [chop (P.cellsOf e) n cs (by rw [hl, h1])]
    refine bn9 (by simp) fun i x y hx hy => ?_
    simp only [List.getElem?_map, Option.map_eq_some_iff] at hx hy
    obtain ⟨i1, e1, rfl⟩ := hx
    obtain ⟨i2, e2, rfl⟩ := hy
    rw [e1] at e2
    simp only [Option.some.injEq] at e2
    subst e2
    have hlt := aa3 e1
    simp only [List.length_range] at hlt
    rw [List.getElem?_range hlt] at e1
    simp only [Option.some.injEq] at e1
    subst e1
    exact (hch i hlt).1
   ·simp only [List.mem_map, List.mem_range] at hc
    obtain ⟨i, hi, rfl⟩ := hc
    exact (hch i hi).2
  ·rename_i fs hu
   simp only [hu]
   simp only [Bool.and_eq_true, beq_iff_eq] at hp
   obtain ⟨h1, hpe⟩ := hp
   obtain ⟨xs, m, rfl, rfl, hl, hxl, hxs⟩ := DataW.trod_struct hu hr
   refine ⟨hl, ?_⟩
   have hel : ∀ i, ∃ es : List EV, ∀ f : Field, fs[i]? = some f → RCs φ N (oldI w) w es ((cs.drop f.offset).take (P.cellsOf f.type)) ∧ ar7 P D f.type es ∧ es.length = P.cellsOf f.type := fun i => by
    by_cases hi : i < fs.size
    ·have hf : fs[i]? = some fs[i] := by simp [hi]
     have := hxs i fs[i] hf
     rw [List.getElem?_eq_getElem (by omega)] at this
     obtain ⟨g1, es, g2, g3⟩ := IH fs[i].type m _ _ (List.all_eq_true.1 hpe fs[i] (by simp)) (by
      have h1 : (xs[i]'(by omega)).1 ∈ xs.map (·.1) := List.mem_map.2 ⟨_, List.getElem_mem _, rfl⟩
      have h2 := List.sizeOf_lt_of_mem h1
      simp only [DataW.agg.sizeOf_spec] at hsz0
      omega) this
     refine ⟨es, fun f hf' => ?_⟩
     rw [hf] at hf'
     simp only [Option.some.injEq] at hf'
     subst hf'
     exact ⟨g2, g3, by rw [g2.1, g1]⟩
    ·exact ⟨[], fun f hf => by simp [hi] at hf⟩
   obtain ⟨F, hch⟩ : ∃ F : Nat → List EV, ∀ (i : Nat) (f : Field), fs[i]? = some f → RCs φ N (oldI w) w (F i) ((cs.drop f.offset).take (P.cellsOf f.type)) ∧ ar7 P D f.type (F i) ∧ (F i).length = P.cellsOf f.type :=
    ⟨fun i => Classical.choose (hel i), fun i => Classical.choose_spec (hel i)⟩
   refine ⟨((List.range fs.size).map F).flatten, ?_, _, by simp, rfl, fun i f c hf hc => ?_⟩
   ·have side : ∀ (l : List Field) (o n : Nat), bg1 P o l = some n → o ≤ n ∧ (l.map fun f => (cs.drop f.offset).take (P.cellsOf f.type)).flatten = (cs.drop o).take (n - o) := by
     intro l
     induction l with
     | nil => intro o n h; simp [bg1] at h; subst h; simp
     | cons f l ih =>
      intro o n h
      simp only [bg1] at h
      split at h
      ·rename_i ho
       obtain ⟨k1, k2⟩ := ih _ _ h
       refine ⟨by omega, ?_⟩
       rw [List.map_cons, List.flatten_cons, k2, ho]
       rw [show n - o = P.cellsOf f.type + (n - (o + P.cellsOf f.type)) by omega, List.take_add, List.drop_drop]
      ·simp at h
    have k := (side fs.toList 0 _ h1).2
    simp only [List.drop_zero, Nat.sub_zero] at k
    rw [List.take_of_length_le (by omega)] at k
    rw [← k]
    refine bn9 (by simp) fun i x y hx hy => ?_
    simp only [List.getElem?_map, Option.map_eq_some_iff] at hx hy
    obtain ⟨i1, e1, rfl⟩ := hx
    obtain ⟨f, e2, rfl⟩ := hy
    have hlt := aa3 e1
    simp only [List.length_range] at hlt
    rw [List.getElem?_range hlt] at e1
    simp only [Option.some.injEq] at e1
    subst e1
    exact (hch i f (by simpa using e2)).1
   ·simp only [List.getElem?_map, Option.map_eq_some_iff] at hc
    obtain ⟨i1, e1, rfl⟩ := hc
    have hlt := aa3 e1
    simp only [List.length_range] at hlt
    rw [List.getElem?_range hlt] at e1
    simp only [Option.some.injEq] at e1
    subst e1
    exact (hch i f hf).2
  ·simp at hp
theorem cm5 {W : World} {v : Value} {d : DataW H} {ps : List MemPlace} {r : Reach} {b : Nat} {L : List TypeId} {t : TypeId} (hL : L.all (eo0 P L) = true) (ht : L.contains t = true) (hv : Value.okWide P W r b t v)
  (h : DataW.Trod enc P W 0 (fun _ => true) held t v d ps) : ∃ D es, ar7 P D t es ∧ RV id 0 (oldI W) W (bc0 P t es) v := by
 obtain ⟨fuel, h⟩ := h
 obtain ⟨_, es, h1, h2⟩ := da2 (φ := id) (N := 0) (fun _ => rfl) hL (sizeOf d + 1) t fuel _ _ ht (Nat.lt_succ_self _) h
 refine ⟨sizeOf d + 1, es, h2, ?_⟩
 unfold bc0
 by_cases ha : aggT P t = true
 ·rw [if_pos ha]
  obtain ⟨cs, rfl⟩ := ce5 hv ha
  exact .agg es cs (by simpa [Value.cells] using h1.1) fun k x u hx hu => h1.2 k x u hx (by simpa [Value.cells] using hu)
 ·have ha' : aggT P t = false := by simpa using ha
  rw [if_neg ha]
  obtain ⟨x, rfl, _⟩ := cl2 h2 ha'
  rw [df7 hv ha'] at h1
  exact h1.2 0 x v rfl rfl
theorem cd6 {t i0 s0 u0 sl : TypeId} {fs : Array Field} (hu : P.underlying t = some (.struct fs)) (hts : fs.toList.map (·.type) = [i0, s0, sl, i0, i0])
  (hi : P.underlying i0 = some (.int .i64)) (ci : P.cellsOf i0 = 1) (hs : P.underlying s0 = some (.array 4 u0)) (hsu : P.underlying u0 = some (.int .u64)) (cs : P.cellsOf s0 = 4)
  (hl : P.underlying sl = some (.slice t)) (cl : P.cellsOf sl = 1) (ct : P.cellsOf t = 8) : ∀ (D : Nat) {es : List EV}, ar7 P D t es → ∃ rt : RT, rt.Ok ∧ bc0 P t es = rt.E := by
 intro D
 induction D using Nat.strongRecOn with
 | _ D IH =>
  intro es h
  cases D with
  | zero => exact h.elim
  | succ D =>
  obtain ⟨hp, l, rfl, hln, hx⟩ := cl3 hu hts h
  rw [hp]
  match l, hln with
  | [a0, a1, a2, a3, a4], _ =>
   obtain ⟨x0, l0⟩ := hx 0 a0 i0 rfl rfl
   obtain ⟨x1, l1⟩ := hx 1 a1 s0 rfl rfl
   obtain ⟨x2, l2⟩ := hx 2 a2 sl rfl rfl
   obtain ⟨x3, l3⟩ := hx 3 a3 i0 rfl rfl
   obtain ⟨x4, l4⟩ := hx 4 a4 i0 rfl rfl
   cases D with
   | zero => exact x0.elim
   | succ D =>
    obtain ⟨m0, _, _, e0⟩ := bx6 hi x0
    obtain ⟨m3, _, _, e3⟩ := bx6 hi x3
    obtain ⟨m4, _, _, e4⟩ := bx6 hi x4
    have hD : D ≠ 0 := fun e => by
     subst e
     unfold ar7 at x1
     rw [hs] at x1
     obtain ⟨q, hq, _, hc⟩ := x1
     match q, hq with
     | c :: _, _ => exact (hc c (by simp)).1.elim
    obtain ⟨D, rfl⟩ := Nat.exists_eq_succ_of_ne_zero hD
    obtain ⟨w, rfl, hw⟩ := dd0 hs hsu eq4 (by omega) x1
    obtain ⟨ys, hys, hye⟩ := cs8 hl x2
    rw [ct] at hys
    obtain ⟨ts, e', hts'⟩ := dy3 (f := RT.E) (Q := RT.Ok) (l := ys) fun x hxl => by
     obtain ⟨cs', h1, rfl⟩ := hye x hxl
     obtain ⟨rt, h2, h3⟩ := IH (D + 1) (by omega) h1
     exact ⟨rt, h3, h2⟩
    have one : ∀ {ti : TypeId} {c : List EV}, aggT P ti = false → c.length = 1 → ∃ y, c = [y] ∧ bc0 P ti c = y := fun {ti c} ha hl => ⟨_, eb9 ha hl, rfl⟩
    obtain ⟨y0, rfl, k0⟩ := one (ti := i0) (by simp [aggT, hi, aggD]) (l0.trans ci)
    obtain ⟨y2, rfl, k2⟩ := one (ti := sl) (by simp [aggT, hl, aggD]) (l2.trans cl)
    obtain ⟨y3, rfl, k3⟩ := one (ti := i0) (by simp [aggT, hi, aggD]) (l3.trans ci)
    obtain ⟨y4, rfl, k4⟩ := one (ti := i0) (by simp [aggT, hi, aggD]) (l4.trans ci)
    rw [k0] at e0
    rw [k2] at hys
    rw [k3] at e3
    rw [k4] at e4
    subst e0 e3 e4 e'
    exact ⟨.mk m0 w y2 ts m3 m4, .mk _ _ _ _ _ _ hw hys hts', by
     have e4 : tab 4 (fun i => EV.int .u64 ((w i : Nat) : Int)) = [.int .u64 (w 0 : Nat), .int .u64 (w 1 : Nat), .int .u64 (w 2 : Nat), .int .u64 (w 3 : Nat)] := rfl
     rw [e4]
     rfl⟩
end
end Abs
