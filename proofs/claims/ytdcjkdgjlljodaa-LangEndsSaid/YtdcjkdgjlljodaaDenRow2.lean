/- A part. -/
import Derived.Test.YtdcjkdgjlljodaaDenRow
import Derived.Test.YtdcjkdgjlljodaaNfA
namespace Abs
open Go Go.ChangeShapes Go.WideShapes
theorem ce6 (n : Nat) : ∀ (a b : List EV), okL n (a ++ b) = (okL n a && okL n b)
 | [], b => by simp [okL]
 | x :: a, b => by simp [okL, ce6 n a b, Bool.and_assoc]
theorem bo6 (n : Nat) : ∀ (l : List (List EV)), (∀ c ∈ l, okL n c = true) → okL n l.flatten = true
 | [], _ => rfl
 | c :: l, h => by rw [List.flatten_cons, ce6, h c (by simp), bo6 n l fun c hc => h c (by simp [hc])]; rfl
section
variable {P : Program}
theorem ec4 {n : Nat} {t : TypeId} {cs : List EV} (h : okL n cs = true) : (au8 P t cs).ok n = true := by
 unfold au8
 split
 ·simpa [EV.ok] using h
 ·cases cs with
  | nil => rfl
  | cons x l => simp only [okL, Bool.and_eq_true] at h; exact h.1
theorem bw7 : ∀ {D : Nat} {t : TypeId} {es : List EV}, al2 P D t es → ∀ n, okL n es = true
 | 0, _, _, h, _ => by simp [al2] at h
 | D + 1, t, es, h, n => by
  unfold al2 at h
  split at h
  ·obtain ⟨b, rfl⟩ := h; rfl
  ·obtain ⟨m, rfl, _⟩ := h; rfl
  ·obtain ⟨s, rfl, _⟩ := h; rfl
  ·rcases h with rfl | ⟨l, rfl, _, hl⟩
   ·rfl
   ·simp only [okL, EV.ok, Bool.and_true]
    refine ai4.2 fun x hx => ?_
    obtain ⟨cs, hc, rfl⟩ := hl x hx
    exact ec4 (bw7 hc n)
  ·obtain ⟨l, _, rfl, hl⟩ := h
   exact bo6 n l fun c hc => bw7 (hl c hc).1 n
  ·rename_i fs hu
   obtain ⟨l, hlen, rfl, hl⟩ := h
   refine bo6 n l fun c hc => ?_
   obtain ⟨i, hi, e⟩ := List.mem_iff_getElem.1 hc
   have hif : i < fs.size := by rw [← hlen]; exact hi
   exact bw7 (hl i fs[i] c (by simp [hif]) (by rw [List.getElem?_eq_getElem hi, e])).1 n
  ·exact h.elim
theorem dy7 {α β : Type} {f : α → β} {Q : α → Prop} : ∀ {l : List β}, (∀ x ∈ l, ∃ v, x = f v ∧ Q v) → ∃ vs : List α, l = vs.map f ∧ ∀ v ∈ vs, Q v
 | [], _ => ⟨[], rfl, by simp⟩
 | x :: l, h => by
  obtain ⟨v, rfl, hv⟩ := h x (by simp)
  obtain ⟨vs, rfl, hvs⟩ := dy7 (l := l) fun y hy => h y (by simp [hy])
  exact ⟨v :: vs, rfl, fun w hw => by
   rcases List.mem_cons.1 hw with rfl | h'
   ·exact hv
   ·exact hvs w h'⟩
theorem ct0 {D : Nat} {t e : TypeId} {es : List EV} (hu : P.underlying t = some (.slice e)) (h : al2 P (D + 1) t es) : ∃ l : List EV, SlV (P.cellsOf e) (au8 P t es) l ∧ ∀ x ∈ l, ∃ cs, al2 P D e cs ∧ x = au8 P e cs := by
 have ho := bw7 h
 unfold al2 at h
 rw [hu] at h
 have hp : ∀ x, au8 P t [x] = x := fun x => by simp [au8, aggT, hu, aggD]
 rcases h with rfl | ⟨l, rfl, hl, hx⟩
 ·rw [hp]; exact ⟨[], .nil, by simp⟩
 ·rw [hp]
  refine ⟨l, .imm (fun n => by simpa [okL, EV.ok] using ho n) hl, hx⟩
theorem cl2 {D : Nat} {t : TypeId} {fs : Array Field} {es : List EV} (hu : P.underlying t = some (.struct fs)) {ts : List TypeId} (hts : fs.toList.map (·.type) = ts) (h : al2 P (D + 1) t es) :
  au8 P t es = .agg es ∧ ∃ l : List (List EV), es = l.flatten ∧ l.length = ts.length ∧ ∀ (i : Nat) (c : List EV) (ti : TypeId), l[i]? = some c → ts[i]? = some ti → al2 P D ti c ∧ c.length = P.cellsOf ti := by
 unfold al2 at h
 rw [hu] at h
 obtain ⟨l, hl, rfl, hx⟩ := h
 refine ⟨by simp [au8, aggT, hu, aggD], l, rfl, by rw [← hts]; simp [hl], fun i c ti hc hti => ?_⟩
 rw [← hts, List.getElem?_map, Array.getElem?_toList] at hti
 cases hf : fs[i]? with
 | none => rw [hf] at hti; simp at hti
 | some f =>
  rw [hf] at hti
  simp only [Option.map_some, Option.some.injEq] at hti
  subst hti
  exact hx i f c hf hc
theorem ec3 {t : TypeId} {c : List EV} (ha : aggT P t = false) (hl : c.length = 1) : c = [au8 P t c] := by
 match c, hl with
 | [x], _ => simp [au8, ha]
end
end Abs
