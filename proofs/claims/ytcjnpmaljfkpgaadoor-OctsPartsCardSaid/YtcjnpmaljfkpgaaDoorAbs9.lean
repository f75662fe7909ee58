/- Structs, arrays and slices that are built; slices that are cut. -/
import Derived.Test.YtcjnpmaljfkpgaaDoorAbs8
namespace Abs
open Go

theorem fold_set (off : Nat) : ∀ (vs : List Value) (k : Nat) (c : Array Value), off + k + vs.length ≤ c.size →
    ((vs.zipIdx k).foldl (fun cs (x : Value × Nat) => cs.setIfInBounds (off + x.2) x.1) c).toList = c.toList.take (off + k) ++ vs ++ c.toList.drop (off + k + vs.length)
  | [], k, c, _ => by simp
  | v :: vs, k, c, h => by
    simp only [List.length_cons] at h
    simp only [List.zipIdx_cons, List.foldl_cons]
    rw [fold_set off vs (k + 1) (c.setIfInBounds (off + k) v) (by simp; omega)]
    simp only [Array.toList_setIfInBounds]
    apply List.ext_getElem?
    intro m
    have l1 : off + (k + 1) + vs.length ≤ (c.toList.set (off + k) v).length := by simp; omega
    have l2 : off + k + (v :: vs).length ≤ c.toList.length := by simp; omega
    rw [splice_get _ _ _ l1, splice_get _ _ _ l2]
    simp only [List.length_cons]
    by_cases a : m < off + k
    · rw [if_pos a, if_pos (by omega), List.getElem?_set_ne (by omega)]
    · rw [if_neg a]
      by_cases b : m = off + k
      · subst b
        rw [if_pos (by omega), if_pos (by omega), List.getElem?_set_self (by simp; omega)]
        simp
      · rw [if_neg (show ¬ m < off + (k + 1) by omega)]
        by_cases d : m < off + k + (vs.length + 1)
        · rw [if_pos (by omega), if_pos d]
          rw [show m - (off + k) = (m - (off + (k + 1))) + 1 by omega, List.getElem?_cons_succ]
        · rw [if_neg (by omega), if_neg d, List.getElem?_set_ne (by omega)]

section
variable {P : Program} {γ : Nat → EV} {φ : Nat → Nat} {N : Nat} {I : Nat → Prop} {H : Heap} {w : World}

/-- Cell by cell. -/
def RCs (φ : Nat → Nat) (N : Nat) (I : Nat → Prop) (w : World) (cs : List EV) (vs : List Value) : Prop :=
  cs.length = vs.length ∧ ∀ (k : Nat) (x : EV) (v : Value), cs[k]? = some x → vs[k]? = some v → RV φ N I w x v

theorem RCs.splice {cs xs : List EV} {vs us : List Value} {o : Nat} (h : RCs φ N I w cs vs) (g : RCs φ N I w xs us) (hle : o + xs.length ≤ cs.length) :
    RCs φ N I w (cs.take o ++ xs ++ cs.drop (o + xs.length)) (vs.take o ++ us ++ vs.drop (o + us.length)) := by
  refine ⟨by rw [splice_len _ _ _ hle, splice_len _ _ _ (by rw [← g.1, ← h.1]; exact hle)]; exact h.1, fun k x v hx hv => ?_⟩
  rw [splice_get _ _ _ hle] at hx
  rw [splice_get _ _ _ (by rw [← g.1, ← h.1]; exact hle), ← g.1] at hv
  by_cases a : k < o
  · rw [if_pos a] at hx hv; exact h.2 k x v hx hv
  · rw [if_neg a] at hx hv
    by_cases b : k < o + xs.length
    · rw [if_pos b] at hx hv; exact g.2 _ x v hx hv
    · rw [if_neg b] at hx hv; exact h.2 k x v hx hv

theorem fill_sound {place : Nat → Option (Nat × Nat)} : ∀ (ps : List (Nat × Nat × EV)) (qs : List (Nat × Value)) (cs cs' : List EV) (c : Array Value),
    RCs φ N I w cs c.toList → fillCells cs ps = some cs' → ps.length = qs.length →
    (∀ (i : Nat) (p : Nat × Nat × EV) (q : Nat × Value), ps[i]? = some p → qs[i]? = some q → place q.1 = some (p.1, p.2.1) ∧ RV φ N I w p.2.2 q.2 ∧ p.2.2.cells.all EV.one = true) →
    ∃ c' : Array Value, Instr.fill place c qs = some c' ∧ RCs φ N I w cs' c'.toList
  | [], [], cs, cs', c, h, hf, _, _ => by
    simp only [fillCells, Option.some.injEq] at hf; subst hf
    exact ⟨c, rfl, h⟩
  | (off, size, x) :: ps, (i, v) :: qs, cs, cs', c, h, hf, hl, hp => by
    obtain ⟨h1, h2, h3⟩ := hp 0 _ _ rfl rfl
    obtain ⟨g1, g2⟩ := h2.cells h3
    simp only [fillCells] at hf
    split at hf
    · rename_i hc
      obtain ⟨hs, hle⟩ := hc
      have hvs : v.cells.toList.length = size := by simp [g1, hs]
      have hx : RCs φ N I w x.cells v.cells.toList := ⟨by simp [g1], fun k y u hy hu => g2 k y u hy (by simpa using hu)⟩
      have step := RCs.splice (o := off) h hx (by rw [hs]; exact hle)
      rw [hs, hvs] at step
      have hcsz : cs.length = c.size := by simpa using h.1
      have fold := fold_set off v.cells.toList 0 c (by rw [hvs]; omega)
      simp only [Nat.add_zero, hvs] at fold
      have hfold : (v.cells.zipIdx.foldl (fun cs (x : Value × Nat) => cs.setIfInBounds (off + x.2) x.1) c).toList = c.toList.take off ++ v.cells.toList ++ c.toList.drop (off + size) := by
        rw [← fold, ← Array.foldl_toList]
        simp
      obtain ⟨c', e1, e2⟩ := fill_sound ps qs _ cs' (v.cells.zipIdx.foldl (fun cs (x : Value × Nat) => cs.setIfInBounds (off + x.2) x.1) c) (by rw [hfold]; exact step) hf (by simpa using hl)
        (fun i p q hp' hq' => hp (i + 1) p q (by simpa using hp') (by simpa using hq'))
      refine ⟨c', ?_, e2⟩
      simp only [Instr.fill, h1]
      rw [if_neg (by simp [g1, hs]; omega)]
      exact e1
    · simp at hf
  | [], _ :: _, _, _, _, _, _, hl, _ => by simp at hl
  | _ :: _, [], _, _, _, _, _, hl, _ => by simp at hl

/-- The bounds of a slice expression. -/
theorem bounds_sound {isSlice : Bool} {len cap : Nat} {lo hi : Option EV} {vlo vhi : Option Value} {l h : Nat}
    (h1 : match lo, vlo with | none, none => True | some x, some v => RV φ N I w x v | _, _ => False)
    (h2 : match hi, vhi with | none, none => True | some x, some v => RV φ N I w x v | _, _ => False)
    (hev : evBounds len cap lo hi = some (l, h)) (hlc : len ≤ cap) (cap' : Nat) (hcc : cap ≤ cap') :
    (Instr.sliceBounds isSlice len cap' vlo vhi none).run P w = .ok (l, h, cap') w ∧ l ≤ h ∧ h ≤ cap := by
  have bound : ∀ (x : EV) (v : Value) (d y y' n : Nat) (code : BoundsCode), RV φ N I w x v → evBound d y (some x) = some n → y ≤ y' → (Instr.sliceBound v y' code).run P w = .ok n w ∧ n ≤ y := by
    intro x v d y y' n code hx hn hyy
    unfold evBound at hn
    split at hn
    · rename_i e; simp at e
    · rename_i k m e
      simp only [Option.some.injEq] at e
      subst e
      split at hn
      · rename_i hc
        simp only [Option.some.injEq] at hn; subst hn
        cases hx
        refine ⟨?_, by omega⟩
        simp only [Instr.sliceBound, asIntOf, Sem.run_bind, Sem.run_pure, Result.andThen_ok]
        rw [if_pos ⟨hc.1, by omega⟩]
        rfl
      · simp at hn
    · simp at hn
  unfold evBounds at hev
  split at hev
  case h_2 => simp at hev
  rename_i h' hh
  split at hev
  case h_2 => simp at hev
  rename_i l' hl
  simp only [Option.some.injEq, Prod.mk.injEq] at hev
  obtain ⟨rfl, rfl⟩ := hev
  have H2 : (match vhi, (none : Option Value) with
      | some v, some _ => Instr.sliceBound v cap' .slice3B
      | some v, none => Instr.sliceBound v cap' (if isSlice then .sliceAcap else .sliceAlen)
      | none, none => pure len
      | none, some _ => stuck "Slice: max without high" : Sem Nat).run P w = .ok h' w ∧ h' ≤ cap := by
    cases hi with
    | none =>
      cases vhi with
      | none => simp only [evBound, Option.some.injEq] at hh; subst hh; exact ⟨rfl, hlc⟩
      | some v => exact h2.elim
    | some x =>
      cases vhi with
      | none => exact h2.elim
      | some v => exact bound x v len cap cap' h' _ h2 hh hcc
  have H1 : (match vlo with
      | some v => Instr.sliceBound v h' .sliceB
      | none => pure 0 : Sem Nat).run P w = .ok l' w ∧ l' ≤ h' := by
    cases lo with
    | none =>
      cases vlo with
      | none => simp only [evBound, Option.some.injEq] at hl; subst hl; exact ⟨rfl, Nat.zero_le _⟩
      | some v => exact h1.elim
    | some x =>
      cases vlo with
      | none => exact h1.elim
      | some v => exact bound x v 0 h' h' l' _ h1 hl (Nat.le_refl _)
  refine ⟨?_, H1.2, H2.2⟩
  have e2 := H2.1
  have e1 := H1.1
  cases vhi <;> cases vlo <;> simp only [Instr.sliceBounds, Sem.run_bind, Sem.run_pure, Result.andThen_ok, Option.isSome_none, Bool.false_eq_true, if_false] at e1 e2 ⊢ <;>
    first
      | (simp only [e2, e1, Result.andThen_ok]; done)
      | (simp only [Result.ok.injEq, and_true] at e1 e2; subst e1 e2; rfl)
      | (simp only [Result.ok.injEq, and_true] at e1; subst e1; simp only [e2, Result.andThen_ok])
      | (simp only [Result.ok.injEq, and_true] at e2; subst e2; simp only [e1, Result.andThen_ok])

end
end Abs
