/- A part. -/
import Derived.Test.YtdcjkdgjlljodaaDenRow
import Derived.Test.YtdcjkdgjlljodaaNfA
namespace Abs
open Go Go.ChangeShapes Go.WideShapes
theorem ce6 (n : Nat) : ∀ (a b : List EV), okL n (a ++ b) = (okL n a && okL n b)
 | [], b => by simp [okL]
 | x :: a, b => by simp [okL, ce6 n a b, Bool.and_assoc]
theorem bo0 (n : Nat) : ∀ (l : List (List EV)), (∀ c ∈ l, okL n c = true) → okL n l.flatten = true
 | [], _ => rfl
 | c :: l, h => by rw [List.flatten_cons, ce6, h c (by simp), bo0 n l fun c hc => h c (by simp [hc])]; rfl
section
variable {P : Program}
theorem ec0 {n : Nat} {t : TypeId} {cs : List EV} (h : okL n cs = true) : (bc0 P t cs).ok n = true := by
 unfold bc0
 split
 ·simpa [EV.ok] using h
 ·cases cs with
  | nil => rfl
  | cons x l => simp only [okL, Bool.and_eq_true] at h; exact h.1
theorem bw4 : ∀ {D : Nat} {t : TypeId} {es : List EV}, ar7 P D t es → ∀ n, okL n es = true
 | 0, _, _, h, _ => by simp [ar7] at h
 | D + 1, t, es, h, n => by
  unfold ar7 at h
  split at h
  ·obtain ⟨b, rfl⟩ := h; rfl
  ·obtain ⟨m, rfl, _⟩ := h; rfl
  ·obtain ⟨s, rfl, _⟩ := h; rfl
  ·rcases h with rfl | ⟨l, rfl, _, hl⟩
   ·rfl
   ·simp only [okL, EV.ok, Bool.and_true]
    refine ah6.2 fun x hx => ?_
    obtain ⟨cs, hc, rfl⟩ := hl x hx
    exact ec0 (bw4 hc n)
  ·obtain ⟨l, _, rfl, hl⟩ := h
   exact bo0 n l fun c hc => bw4 (hl c hc).1 n
  ·rename_i fs hu
   obtain ⟨l, hlen, rfl, hl⟩ := h
   refine bo0 n l fun c hc => ?_
   obtain ⟨i, hi, e⟩ := List.mem_iff_getElem.1 hc
   have hif : i < fs.size := by rw [← hlen]; exact hi
   exact bw4 (hl i fs[i] c (by simp [hif]) (by rw [List.getElem?_eq_getElem hi, e])).1 n
  ·exact h.elim
theorem dy3 {α β : Type} {f : α → β} {Q : α → Prop} : ∀ {l : List β}, (∀ x ∈ l, ∃ v, x = f v ∧ Q v) → ∃ vs : List α, l = vs.map f ∧ ∀ v ∈ vs, Q v
 | [], _ => ⟨[], rfl, by simp⟩
 | x :: l, h => by
  obtain ⟨v, rfl, hv⟩ := h x (by simp)
  obtain ⟨vs, rfl, hvs⟩ := dy3 (l := l) fun y hy => h y (by simp [hy])
  exact ⟨v :: vs, rfl, fun w hw => by
   rcases List.mem_cons.1 hw with rfl | h'
   ·exact hv
   ·exact hvs w h'⟩
theorem cs8 {D : Nat} {t e : TypeId} {es : List EV} (hu : P.underlying t = some (.slice e)) (h : ar7 P (D + 1) t es) : ∃ l : List EV, SlV (P.cellsOf e) (bc0 P t es) l ∧ ∀ x ∈ l, ∃ cs, ar7 P D e cs ∧ x = bc0 P e cs := by
 have ho := bw4 h
 unfold ar7 at h
 rw [hu] at h
 have hp : ∀ x, bc0 P t [x] = x := fun x => by simp [bc0, aggT, hu, aggD]
 rcases h with rfl | ⟨l, rfl, hl, hx⟩
 ·rw [hp]; exact ⟨[], .nil, by simp⟩
 ·rw [hp]
  refine ⟨l, .imm (fun n => by simpa [okL, EV.ok] using ho n) hl, hx⟩
theorem cl3 {D : Nat} {t : TypeId} {fs : Array Field} {es : List EV} (hu : P.underlying t = some (.struct fs)) {ts : List TypeId} (hts : fs.toList.map (·.type) = ts) (h : ar7 P (D + 1) t es) :
  bc0 P t es = .agg es ∧ ∃ l : List (List EV), es = l.flatten ∧ l.length = ts.length ∧ ∀ (i : Nat) (c : List EV) (ti : TypeId), l[i]? = some c → ts[i]? = some ti → ar7 P D ti c ∧ c.length = P.cellsOf ti := by
 unfold ar7 at h
 rw [hu] at h
 obtain ⟨l, hl, rfl, hx⟩ := h
 refine ⟨by simp [bc0, aggT, hu, aggD], l, rfl, by rw [← hts]; simp [hl], fun i c ti hc hti => ?_⟩
 rw [← hts, List.getElem?_map, Array.getElem?_toList] at hti
 cases hf : fs[i]? with
 | none => rw [hf] at hti; simp at hti
 | some f =>
  rw [hf] at hti
  simp only [Option.map_some, Option.some.injEq] at hti
  subst hti
  exact hx i f c hf hc
theorem eb9 {t : TypeId} {c : List EV} (ha : aggT P t = false) (hl : c.length = 1) : c = [bc0 P t c] := by
 match c, hl with
 | [x], _ => simp [bc0, ha]
end
end Abs
