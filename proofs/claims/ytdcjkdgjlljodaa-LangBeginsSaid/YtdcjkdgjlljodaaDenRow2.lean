/- A part. -/
import Derived.Test.YtdcjkdgjlljodaaDenRow
import Derived.Test.YtdcjkdgjlljodaaNfA
namespace Abs
open Go Go.ChangeShapes Go.WideShapes
theorem cf7 (n : Nat) : ∀ (a b : List EV), okL n (a ++ b) = (okL n a && okL n b)
 | [], b => by simp [okL]
 | x :: a, b => by simp [okL, cf7 n a b, Bool.and_assoc]
theorem bo8 (n : Nat) : ∀ (l : List (List EV)), (∀ c ∈ l, okL n c = true) → okL n l.flatten = true
 | [], _ => rfl
 | c :: l, h => by rw [List.flatten_cons, cf7, h c (by simp), bo8 n l fun c hc => h c (by simp [hc])]; rfl
section
variable {P : Program}
theorem ee0 {n : Nat} {t : TypeId} {cs : List EV} (h : okL n cs = true) : (av1 P t cs).ok n = true := by
 unfold av1
 split
 ·simpa [EV.ok] using h
 ·cases cs with
  | nil => rfl
  | cons x l => simp only [okL, Bool.and_eq_true] at h; exact h.1
theorem bx5 : ∀ {D : Nat} {t : TypeId} {es : List EV}, ak8 P D t es → ∀ n, okL n es = true
 | 0, _, _, h, _ => by simp [ak8] at h
 | D + 1, t, es, h, n => by
  unfold ak8 at h
  split at h
  ·obtain ⟨b, rfl⟩ := h; rfl
  ·obtain ⟨m, rfl, _⟩ := h; rfl
  ·obtain ⟨s, rfl, _⟩ := h; rfl
  ·rcases h with rfl | ⟨l, rfl, _, hl⟩
   ·rfl
   ·simp only [okL, EV.ok, Bool.and_true]
    refine ai2.2 fun x hx => ?_
    obtain ⟨cs, hc, rfl⟩ := hl x hx
    exact ee0 (bx5 hc n)
  ·obtain ⟨l, _, rfl, hl⟩ := h
   exact bo8 n l fun c hc => bx5 (hl c hc).1 n
  ·rename_i fs hu
   obtain ⟨l, hlen, rfl, hl⟩ := h
   refine bo8 n l fun c hc => ?_
   obtain ⟨i, hi, e⟩ := List.mem_iff_getElem.1 hc
   have hif : i < fs.size := by rw [← hlen]; exact hi
   exact bx5 (hl i fs[i] c (by simp [hif]) (by rw [List.getElem?_eq_getElem hi, e])).1 n
  ·exact h.elim
theorem dz8 {α β : Type} {f : α → β} {Q : α → Prop} : ∀ {l : List β}, (∀ x ∈ l, ∃ v, x = f v ∧ Q v) → ∃ vs : List α, l = vs.map f ∧ ∀ v ∈ vs, Q v
 | [], _ => ⟨[], rfl, by simp⟩
 | x :: l, h => by
  obtain ⟨v, rfl, hv⟩ := h x (by simp)
  obtain ⟨vs, rfl, hvs⟩ := dz8 (l := l) fun y hy => h y (by simp [hy])
  exact ⟨v :: vs, rfl, fun w hw => by
   rcases List.mem_cons.1 hw with rfl | h'
   ·exact hv
   ·exact hvs w h'⟩
theorem ct8 {D : Nat} {t e : TypeId} {es : List EV} (hu : P.underlying t = some (.slice e)) (h : ak8 P (D + 1) t es) : ∃ l : List EV, SlV (P.cellsOf e) (av1 P t es) l ∧ ∀ x ∈ l, ∃ cs, ak8 P D e cs ∧ x = av1 P e cs := by
 have ho := bx5 h
 unfold ak8 at h
 rw [hu] at h
 have hp : ∀ x, av1 P t [x] = x := fun x => by simp [av1, aggT, hu, aggD]
 rcases h with rfl | ⟨l, rfl, hl, hx⟩
 ·rw [hp]; exact ⟨[], .nil, by simp⟩
 ·rw [hp]
  refine ⟨l, .imm (fun n => by simpa [okL, EV.ok] using ho n) hl, hx⟩
theorem cm5 {D : Nat} {t : TypeId} {fs : Array Field} {es : List EV} (hu : P.underlying t = some (.struct fs)) {ts : List TypeId} (hts : fs.toList.map (·.type) = ts) (h : ak8 P (D + 1) t es) :
  av1 P t es = .agg es ∧ ∃ l : List (List EV), es = l.flatten ∧ l.length = ts.length ∧ ∀ (i : Nat) (c : List EV) (ti : TypeId), l[i]? = some c → ts[i]? = some ti → ak8 P D ti c ∧ c.length = P.cellsOf ti := by
 unfold ak8 at h
 rw [hu] at h
 obtain ⟨l, hl, rfl, hx⟩ := h
 refine ⟨by simp [av1, aggT, hu, aggD], l, rfl, by rw [← hts]; simp [hl], fun i c ti hc hti => ?_⟩
 rw [← hts, List.getElem?_map, Array.getElem?_toList] at hti
 cases hf : fs[i]? with
 | none => rw [hf] at hti; simp at hti
 | some f =>
  rw [hf] at hti
  simp only [Option.map_some, Option.some.injEq] at hti
  subst hti
  exact hx i f c hf hc
theorem ed9 {t : TypeId} {c : List EV} (ha : aggT P t = false) (hl : c.length = 1) : c = [av1 P t c] := by
 match c, hl with
 | [x], _ => simp [av1, ha]
end
end Abs
