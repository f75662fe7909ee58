/- A part. -/
import Derived.Test.YtddgppmcbjjliaaGreatDoorDenRow
import Derived.Test.YtddgppmcbjjliaaGreatDoorNfA
namespace Abs
open Go Go.ChangeShapes Go.WideShapes
theorem okL_append (n : Nat) : ∀ (a b : List EV), okL n (a ++ b) = (okL n a && okL n b)
 | [], b => by simp [okL]
 | x :: a, b => by simp [okL, okL_append n a b, Bool.and_assoc]
theorem okL_flatten (n : Nat) : ∀ (l : List (List EV)), (∀ c ∈ l, okL n c = true) → okL n l.flatten = true
 | [], _ => rfl
 | c :: l, h => by rw [List.flatten_cons, okL_append, h c (by simp), okL_flatten n l fun c hc => h c (by simp [hc])]; rfl
section
variable {P : Program}
theorem packT_ok {n : Nat} {t : TypeId} {cs : List EV} (h : okL n cs = true) : (packT P t cs).ok n = true := by
 unfold packT
 split
 ·simpa [EV.ok] using h
 ·cases cs with
  | nil => rfl
  | cons x l => simp only [okL, Bool.and_eq_true] at h; exact h.1
theorem shape_ok : ∀ {D : Nat} {t : TypeId} {es : List EV}, Shape P D t es → ∀ n, okL n es = true
 | 0, _, _, h, _ => by simp [Shape] at h
 | D + 1, t, es, h, n => by
  unfold Shape at h
  split at h
  ·obtain ⟨b, rfl⟩ := h; rfl
  ·obtain ⟨m, rfl, _⟩ := h; rfl
  ·obtain ⟨s, rfl, _⟩ := h; rfl
  ·rcases h with rfl | ⟨l, rfl, _, hl⟩
   ·rfl
   ·simp only [okL, EV.ok, Bool.and_true]
    refine okL_iff.2 fun x hx => ?_
    obtain ⟨cs, hc, rfl⟩ := hl x hx
    exact packT_ok (shape_ok hc n)
  ·obtain ⟨l, _, rfl, hl⟩ := h
   exact okL_flatten n l fun c hc => shape_ok (hl c hc).1 n
  ·rename_i fs hu
   obtain ⟨l, hlen, rfl, hl⟩ := h
   refine okL_flatten n l fun c hc => ?_
   obtain ⟨i, hi, e⟩ := List.mem_iff_getElem.1 hc
   have hif : i < fs.size := by rw [← hlen]; exact hi
   exact shape_ok (hl i fs[i] c (by simp [hif]) (by rw [List.getElem?_eq_getElem hi, e])).1 n
  ·exact h.elim
theorem all_map {α β : Type} {f : α → β} {Q : α → Prop} : ∀ {l : List β}, (∀ x ∈ l, ∃ v, x = f v ∧ Q v) → ∃ vs : List α, l = vs.map f ∧ ∀ v ∈ vs, Q v
 | [], _ => ⟨[], rfl, by simp⟩
 | x :: l, h => by
  obtain ⟨v, rfl, hv⟩ := h x (by simp)
  obtain ⟨vs, rfl, hvs⟩ := all_map (l := l) fun y hy => h y (by simp [hy])
  exact ⟨v :: vs, rfl, fun w hw => by
   rcases List.mem_cons.1 hw with rfl | h'
   ·exact hv
   ·exact hvs w h'⟩
theorem shape_slice {D : Nat} {t e : TypeId} {es : List EV} (hu : P.underlying t = some (.slice e)) (h : Shape P (D + 1) t es) : ∃ l : List EV, SlV (P.cellsOf e) (packT P t es) l ∧ ∀ x ∈ l, ∃ cs, Shape P D e cs ∧ x = packT P e cs := by
 have ho := shape_ok h
 unfold Shape at h
 rw [hu] at h
 have hp : ∀ x, packT P t [x] = x := fun x => by simp [packT, aggT, hu, aggD]
 rcases h with rfl | ⟨l, rfl, hl, hx⟩
 ·rw [hp]; exact ⟨[], .nil, by simp⟩
 ·rw [hp]
  refine ⟨l, .imm (fun n => by simpa [okL, EV.ok] using ho n) hl, hx⟩
theorem shape_sl_ints {D : Nat} {t e : TypeId} {es : List EV} (hu : P.underlying t = some (.slice e)) (he : P.underlying e = some (.int .i64)) (hc : P.cellsOf e = 1) (h : Shape P (D + 2) t es) : ∃ l : List Int, IntsV (packT P t es) l := by
 obtain ⟨l, hl, hx⟩ := shape_slice hu h
 obtain ⟨vs, rfl, _⟩ := all_map (f := EV.int .i64) (Q := fun _ => True) (l := l) fun x hxl => by
  obtain ⟨cs, hs, rfl⟩ := hx x hxl
  obtain ⟨n, _, _, e⟩ := shape_i64 he hs
  exact ⟨n, e, trivial⟩
 rw [hc] at hl
 exact ⟨vs, hl⟩
theorem shape_sl_intss {D : Nat} {t e u : TypeId} {es : List EV} (hu : P.underlying t = some (.slice e)) (he : P.underlying e = some (.slice u)) (hi : P.underlying u = some (.int .i64)) (hc : P.cellsOf e = 1) (hc2 : P.cellsOf u = 1) (h : Shape P (D + 3) t es) :
  ∃ (l : List EV) (ls : List (List Int)), SlV 1 (packT P t es) l ∧ l.length = ls.length ∧ ∀ (i : Nat) (y : EV) (m : List Int), l[i]? = some y → ls[i]? = some m → IntsV y m := by
 obtain ⟨l, hl, hx⟩ := shape_slice hu h
 obtain ⟨vs, e', hv⟩ := all_map (f := fun p : EV × List Int => p.1) (Q := fun p => IntsV p.1 p.2) (l := l) fun x hxl => by
  obtain ⟨cs, hs, rfl⟩ := hx x hxl
  obtain ⟨m, hm⟩ := shape_sl_ints he hi hc2 hs
  exact ⟨(_, m), rfl, hm⟩
 rw [hc] at hl
 refine ⟨l, vs.map (·.2), hl, by rw [e']; simp, fun i y m hy hm => ?_⟩
 rw [e', List.getElem?_map] at hy
 rw [List.getElem?_map] at hm
 cases hvi : vs[i]? with
 | none => rw [hvi] at hy; simp at hy
 | some p =>
  rw [hvi] at hy hm
  simp only [Option.map_some, Option.some.injEq] at hy hm
  subst hy hm
  exact hv p (List.mem_of_getElem? hvi)
theorem shape_fields {D : Nat} {t : TypeId} {fs : Array Field} {es : List EV} (hu : P.underlying t = some (.struct fs)) {ts : List TypeId} (hts : fs.toList.map (·.type) = ts) (h : Shape P (D + 1) t es) :
  packT P t es = .agg es ∧ ∃ l : List (List EV), es = l.flatten ∧ l.length = ts.length ∧ ∀ (i : Nat) (c : List EV) (ti : TypeId), l[i]? = some c → ts[i]? = some ti → Shape P D ti c ∧ c.length = P.cellsOf ti := by
 unfold Shape at h
 rw [hu] at h
 obtain ⟨l, hl, rfl, hx⟩ := h
 refine ⟨by simp [packT, aggT, hu, aggD], l, rfl, by rw [← hts]; simp [hl], fun i c ti hc hti => ?_⟩
 rw [← hts, List.getElem?_map, Array.getElem?_toList] at hti
 cases hf : fs[i]? with
 | none => rw [hf] at hti; simp at hti
 | some f =>
  rw [hf] at hti
  simp only [Option.map_some, Option.some.injEq] at hti
  subst hti
  exact hx i f c hf hc
theorem pack_one {t : TypeId} {c : List EV} (ha : aggT P t = false) (hl : c.length = 1) : c = [packT P t c] := by
 match c, hl with
 | [x], _ => simp [packT, ha]
end
end Abs
