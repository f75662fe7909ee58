/- A part. -/
import Derived.Test.YtddgppmcbjjliaaGreatDoorDenRow
import Derived.Test.YtddgppmcbjjliaaGreatDoorNfA
namespace Abs
open Go Go.ChangeShapes Go.WideShapes
theorem cm9 (n : Nat) : ∀ (a b : List EV), okL n (a ++ b) = (okL n a && okL n b)
 | [], b => by simp [okL]
 | x :: a, b => by simp [okL, cm9 n a b, Bool.and_assoc]
theorem bs0 (n : Nat) : ∀ (l : List (List EV)), (∀ c ∈ l, okL n c = true) → okL n l.flatten = true
 | [], _ => rfl
 | c :: l, h => by rw [List.flatten_cons, cm9, h c (by simp), bs0 n l fun c hc => h c (by simp [hc])]; rfl
section
variable {P : Program}
theorem er2 {n : Nat} {t : TypeId} {cs : List EV} (h : okL n cs = true) : (at9 P t cs).ok n = true := by
 unfold at9
 split
 ·simpa [EV.ok] using h
 ·cases cs with
  | nil => rfl
  | cons x l => simp only [okL, Bool.and_eq_true] at h; exact h.1
theorem cc9 : ∀ {D : Nat} {t : TypeId} {es : List EV}, ao7 P D t es → ∀ n, okL n es = true
 | 0, _, _, h, _ => by simp [ao7] at h
 | D + 1, t, es, h, n => by
  unfold ao7 at h
  split at h
  ·obtain ⟨b, rfl⟩ := h; rfl
  ·obtain ⟨m, rfl, _⟩ := h; rfl
  ·obtain ⟨s, rfl, _⟩ := h; rfl
  ·rcases h with rfl | ⟨l, rfl, _, hl⟩
   ·rfl
   ·simp only [okL, EV.ok, Bool.and_true]
    refine ag9.2 fun x hx => ?_
    obtain ⟨cs, hc, rfl⟩ := hl x hx
    exact er2 (cc9 hc n)
  ·obtain ⟨l, _, rfl, hl⟩ := h
   exact bs0 n l fun c hc => cc9 (hl c hc).1 n
  ·rename_i fs hu
   obtain ⟨l, hlen, rfl, hl⟩ := h
   refine bs0 n l fun c hc => ?_
   obtain ⟨i, hi, e⟩ := List.mem_iff_getElem.1 hc
   have hif : i < fs.size := by rw [← hlen]; exact hi
   exact cc9 (hl i fs[i] c (by simp [hif]) (by rw [List.getElem?_eq_getElem hi, e])).1 n
  ·exact h.elim
theorem cj5 {α β : Type} {f : α → β} {Q : α → Prop} : ∀ {l : List β}, (∀ x ∈ l, ∃ v, x = f v ∧ Q v) → ∃ vs : List α, l = vs.map f ∧ ∀ v ∈ vs, Q v
 | [], _ => ⟨[], rfl, by simp⟩
 | x :: l, h => by
  obtain ⟨v, rfl, hv⟩ := h x (by simp)
  obtain ⟨vs, rfl, hvs⟩ := cj5 (l := l) fun y hy => h y (by simp [hy])
  exact ⟨v :: vs, rfl, fun w hw => by
   rcases List.mem_cons.1 hw with rfl | h'
   ·exact hv
   ·exact hvs w h'⟩
theorem bj8 {D : Nat} {t e : TypeId} {es : List EV} (hu : P.underlying t = some (.slice e)) (h : ao7 P (D + 1) t es) : ∃ l : List EV, SlV (P.cellsOf e) (at9 P t es) l ∧ ∀ x ∈ l, ∃ cs, ao7 P D e cs ∧ x = at9 P e cs := by
 have ho := cc9 h
 unfold ao7 at h
 rw [hu] at h
 have hp : ∀ x, at9 P t [x] = x := fun x => by simp [at9, aggT, hu, aggD]
 rcases h with rfl | ⟨l, rfl, hl, hx⟩
 ·rw [hp]; exact ⟨[], .nil, by simp⟩
 ·rw [hp]
  refine ⟨l, .imm (fun n => by simpa [okL, EV.ok] using ho n) hl, hx⟩
theorem bj9 {D : Nat} {t e : TypeId} {es : List EV} (hu : P.underlying t = some (.slice e)) (he : P.underlying e = some (.int .i64)) (hc : P.cellsOf e = 1) (h : ao7 P (D + 2) t es) : ∃ l : List Int, ai9 (at9 P t es) l := by
 obtain ⟨l, hl, hx⟩ := bj8 hu h
 obtain ⟨vs, rfl, _⟩ := cj5 (f := EV.int .i64) (Q := fun _ => True) (l := l) fun x hxl => by
  obtain ⟨cs, hs, rfl⟩ := hx x hxl
  obtain ⟨n, _, _, e⟩ := cu7 he hs
  exact ⟨n, e, trivial⟩
 rw [hc] at hl
 exact ⟨vs, hl⟩
theorem cj9 {D : Nat} {t e : TypeId} {es : List EV} (hu : P.underlying t = some (.slice e)) (he : P.underlying e = some .bool) (hc : P.cellsOf e = 1) (h : ao7 P (D + 2) t es) : ∃ l : List Bool, SlV 1 (at9 P t es) (l.map EV.bool) := by
 obtain ⟨l, hl, hx⟩ := bj8 hu h
 obtain ⟨vs, rfl, _⟩ := cj5 (f := EV.bool) (Q := fun _ => True) (l := l) fun x hxl => by
  obtain ⟨cs, hs, rfl⟩ := hx x hxl
  unfold ao7 at hs
  rw [he] at hs
  obtain ⟨b, rfl⟩ := hs
  exact ⟨b, by simp [at9, aggT, he, aggD], trivial⟩
 rw [hc] at hl
 exact ⟨vs, hl⟩
theorem cp3 {D : Nat} {t e u : TypeId} {es : List EV} (hu : P.underlying t = some (.slice e)) (he : P.underlying e = some (.array 4 u)) (hu64 : P.underlying u = some (.int .u64)) (hc : P.cellsOf e = 4) (h : ao7 P (D + 3) t es) :
  ∃ l : List (Nat → Nat), SlV 4 (at9 P t es) (l.map setE) ∧ ∀ w ∈ l, av8 w := by
 obtain ⟨l, hl, hx⟩ := bj8 hu h
 obtain ⟨vs, rfl, hw⟩ := cj5 (f := setE) (Q := av8) (l := l) fun x hxl => by
  obtain ⟨cs, hs, rfl⟩ := hx x hxl
  obtain ⟨w, rfl, hw⟩ := do8 he hu64 fg9 (by omega) hs
  exact ⟨w, by simp [at9, aggT, he, aggD, setE], hw⟩
 rw [hc] at hl
 exact ⟨vs, hl, hw⟩
theorem cj8 {D : Nat} {t e u : TypeId} {es : List EV} (hu : P.underlying t = some (.slice e)) (he : P.underlying e = some (.slice u)) (hi : P.underlying u = some (.int .i64)) (hc : P.cellsOf e = 1) (hc2 : P.cellsOf u = 1) (h : ao7 P (D + 3) t es) :
  ∃ (l : List EV) (ls : List (List Int)), SlV 1 (at9 P t es) l ∧ l.length = ls.length ∧ ∀ (i : Nat) (y : EV) (m : List Int), l[i]? = some y → ls[i]? = some m → ai9 y m := by
 obtain ⟨l, hl, hx⟩ := bj8 hu h
 obtain ⟨vs, e', hv⟩ := cj5 (f := fun p : EV × List Int => p.1) (Q := fun p => ai9 p.1 p.2) (l := l) fun x hxl => by
  obtain ⟨cs, hs, rfl⟩ := hx x hxl
  obtain ⟨m, hm⟩ := bj9 he hi hc2 hs
  exact ⟨(_, m), rfl, hm⟩
 rw [hc] at hl
 refine ⟨l, vs.map (·.2), hl, by rw [e']; simp, fun i y m hy hm => ?_⟩
 rw [e', List.getElem?_map] at hy
 rw [List.getElem?_map] at hm
 cases hvi : vs[i]? with
 | none => rw [hvi] at hy; simp at hy
 | some p =>
  rw [hvi] at hy hm
  simp only [Option.map_some, Option.some.injEq] at hy hm
  subst hy hm
  exact hv p (List.mem_of_getElem? hvi)
theorem cu8 {D : Nat} {t : TypeId} {fs : Array Field} {es : List EV} (hu : P.underlying t = some (.struct fs)) {ts : List TypeId} (hts : fs.toList.map (·.type) = ts) (h : ao7 P (D + 1) t es) :
  at9 P t es = .agg es ∧ ∃ l : List (List EV), es = l.flatten ∧ l.length = ts.length ∧ ∀ (i : Nat) (c : List EV) (ti : TypeId), l[i]? = some c → ts[i]? = some ti → ao7 P D ti c ∧ c.length = P.cellsOf ti := by
 unfold ao7 at h
 rw [hu] at h
 obtain ⟨l, hl, rfl, hx⟩ := h
 refine ⟨by simp [at9, aggT, hu, aggD], l, rfl, by rw [← hts]; simp [hl], fun i c ti hc hti => ?_⟩
 rw [← hts, List.getElem?_map, Array.getElem?_toList] at hti
 cases hf : fs[i]? with
 | none => rw [hf] at hti; simp at hti
 | some f =>
  rw [hf] at hti
  simp only [Option.map_some, Option.some.injEq] at hti
  subst hti
  exact hx i f c hf hc
theorem er1 {t : TypeId} {c : List EV} (ha : aggT P t = false) (hl : c.length = 1) : c = [at9 P t c] := by
 match c, hl with
 | [x], _ => simp [at9, ha]
theorem dy7 {D : Nat} {t s0 s1 s3 s4 i0 e0 u0 e4 : TypeId} {fs : Array Field} {es : List EV} (hu : P.underlying t = some (.struct fs)) (hts : fs.toList.map (·.type) = [s0, s1, s1, s3, s4, i0])
  (h0 : P.underlying s0 = some (.slice e0)) (h0a : P.underlying e0 = some (.array 4 u0)) (h0u : P.underlying u0 = some (.int .u64)) (c0 : P.cellsOf s0 = 1) (c0e : P.cellsOf e0 = 4)
  (h1 : P.underlying s1 = some (.slice i0)) (h1i : P.underlying i0 = some (.int .i64)) (c1 : P.cellsOf s1 = 1) (ci : P.cellsOf i0 = 1)
  (h3 : P.underlying s3 = some (.slice s1)) (c3 : P.cellsOf s3 = 1) (h4 : P.underlying s4 = some (.slice e4)) (h4b : P.underlying e4 = some .bool) (c4 : P.cellsOf s4 = 1) (c4e : P.cellsOf e4 = 1)
  (h : ao7 P (D + 4) t es) : ∃ n : NF, True ∧ at9 P t es = n.E := by
 obtain ⟨hp, l, rfl, hl, hx⟩ := cu8 hu hts h
 rw [hp]
 match l, hl with
 | [a0, a1, a2, a3, a4, a5], _ =>
  obtain ⟨x0, l0⟩ := hx 0 a0 s0 rfl rfl
  obtain ⟨x1, l1⟩ := hx 1 a1 s1 rfl rfl
  obtain ⟨x2, l2⟩ := hx 2 a2 s1 rfl rfl
  obtain ⟨x3, l3⟩ := hx 3 a3 s3 rfl rfl
  obtain ⟨x4, l4⟩ := hx 4 a4 s4 rfl rfl
  obtain ⟨x5, l5⟩ := hx 5 a5 i0 rfl rfl
  have ag : ∀ {t e : TypeId}, P.underlying t = some (.slice e) → aggT P t = false := fun h => by simp [aggT, h, aggD]
  obtain ⟨sets, hs, hw⟩ := cp3 h0 h0a h0u c0e x0
  obtain ⟨rules, hr⟩ := bj9 h1 h1i ci x1
  obtain ⟨first, hf⟩ := bj9 h1 h1i ci x2
  obtain ⟨fx, fol, h3x, h3l, h3f⟩ := cj8 h3 h1 h1i c1 ci x3
  obtain ⟨ends, he⟩ := cj9 h4 h4b c4e x4
  obtain ⟨m, _, _, hm⟩ := cu7 h1i x5
  have one : ∀ {ti : TypeId} {c : List EV}, aggT P ti = false → c.length = 1 → ∃ y, c = [y] ∧ at9 P ti c = y := fun {ti c} ha hl => ⟨_, er1 ha hl, rfl⟩
  obtain ⟨y0, rfl, k0⟩ := one (ag h0) (l0.trans c0)
  obtain ⟨y1, rfl, k1⟩ := one (ag h1) (l1.trans c1)
  obtain ⟨y2, rfl, k2⟩ := one (ag h1) (l2.trans c1)
  obtain ⟨y3, rfl, k3⟩ := one (ag h3) (l3.trans c3)
  obtain ⟨y4, rfl, k4⟩ := one (ag h4) (l4.trans c4)
  obtain ⟨y5, rfl, k5⟩ := one (ti := i0) (by simp [aggT, h1i, aggD]) (l5.trans ci)
  rw [k0] at hs
  rw [k1] at hr
  rw [k2] at hf
  rw [k3] at h3x
  rw [k4] at he
  rw [k5] at hm
  subst hm
  exact ⟨⟨y0, y1, y2, y3, y4, m, sets, rules, first, fx, fol, ends, hs, hw, hr, hf, h3x, h3l, h3f, he⟩, trivial, rfl⟩
end
end Abs
