/- Stores, and new blocks. -/
import Derived.Test.YtcjnpmaljfkpgaaDoorAbs4
namespace Abs
open Go

theorem splice_get {α : Type} (l vs : List α) (o : Nat) (h : o + vs.length ≤ l.length) (m : Nat) :
    (l.take o ++ vs ++ l.drop (o + vs.length))[m]? = if m < o then l[m]? else if m < o + vs.length then vs[m - o]? else l[m]? := by
  have h1 : (l.take o).length = o := by simp; omega
  by_cases a : m < o
  · rw [if_pos a, List.append_assoc, List.getElem?_append_left (by omega), List.getElem?_take_of_lt a]
  · rw [if_neg a]
    by_cases b : m < o + vs.length
    · rw [if_pos b, List.append_assoc, List.getElem?_append_right (by omega), h1, List.getElem?_append_left (by omega)]
    · rw [if_neg b, List.getElem?_append_right (by simp; omega), List.getElem?_drop]
      congr 1
      simp
      omega

theorem splice_len {α : Type} (l vs : List α) (o : Nat) (h : o + vs.length ≤ l.length) : (l.take o ++ vs ++ l.drop (o + vs.length)).length = l.length := by
  simp; omega

theorem one_cells {x : EV} (h : x.one = true) : x.cells = [x] := by
  cases x <;> first | rfl | simp [EV.one] at h

theorem withCells_cells {e : EV} {cs : List EV} (hl : e.cells.length = cs.length) (h : ∀ x ∈ cs, x.one = true ∨ (e.cells ≠ [e])) : (withCells e cs).cells = cs := by
  unfold withCells
  split
  · rfl
  · rename_i hne
    have he : e.cells = [e] := by
      cases e <;> first | rfl | exact absurd rfl (hne _)
    rw [he] at hl
    match cs, hl with
    | [x], _ =>
      rcases h x (by simp) with h1 | h1
      · simpa using one_cells h1
      · exact absurd he h1

theorem cells_ne {e : EV} : e.cells ≠ [e] → ∃ cs, e = .agg cs := by
  intro h
  cases e <;> first | exact ⟨_, rfl⟩ | exact absurd rfl h

theorem mul_add_lt {i j sz m : Nat} (hj : j < sz) (h : i < m) : i * sz + j < m * sz := by
  have : (i + 1) * sz ≤ m * sz := Nat.mul_le_mul_right _ h
  rw [Nat.add_mul] at this; omega


theorem row_put {φ : Nat → Nat} {N : Nat} {I : Nat → Prop} {w w' : World} {B sz i j n : Nat} {es : List EV} {e v : EV} {c : Array Value} {T : TypeId} {vs : List Value}
    (hc1 : es.length * sz ≤ c.size) (hc2 : ∀ e ∈ es, e.cells.length = sz)
    (hc3 : ∀ (i j : Nat) (e x : EV) (v : Value), es[i]? = some e → e.cells[j]? = some x → c[i * sz + j]? = some v → RV φ N I w x v)
    (he : es[i]? = some e) (hn : v.cells.length = n) (hn0 : 0 < n) (hone : v.cells.all EV.one = true) (hle : j + n ≤ sz) (hl : vs.length = n)
    (hv : ∀ (k : Nat) (y : EV) (u : Value), v.cells[k]? = some y → vs[k]? = some u → RV φ N I w y u)
    (hm : ∀ (y : EV) (u : Value), RV φ N I w y u → RV φ N I w' y u)
    (hB : w'.heap[B]? = some (.cells (c.toList.take (i * sz + j) ++ vs ++ c.toList.drop (i * sz + j + vs.length)).toArray T (0, 0))) :
    RB φ N I w' B (.row sz (es.set i (withCells e (e.cells.take j ++ v.cells ++ e.cells.drop (j + n))))) := by
  have hes := get_lt he
  have hz := hc2 e (List.mem_of_getElem? he)
  have hmul : i * sz + sz ≤ c.size := by
    have : (i + 1) * sz ≤ es.length * sz := Nat.mul_le_mul_right _ hes
    rw [Nat.add_mul] at this; omega
  have hfit : i * sz + j + vs.length ≤ c.toList.length := by rw [hl]; simp; omega
  have hnl : (e.cells.take j ++ v.cells ++ e.cells.drop (j + n)).length = sz := by
    rw [← hn]; rw [splice_len _ _ _ (by omega)]; exact hz
  have hwc : (withCells e (e.cells.take j ++ v.cells ++ e.cells.drop (j + n))).cells = e.cells.take j ++ v.cells ++ e.cells.drop (j + n) := by
    refine withCells_cells (by rw [hnl, hz]) fun y hy => ?_
    by_cases hc : e.cells = [e]
    · rw [hc] at hz
      simp at hz
      left
      obtain ⟨h1, h2⟩ : n = 1 ∧ j = 0 := by omega
      subst h1 h2
      simp [hc] at hy
      exact List.all_eq_true.1 hone y hy
    · exact .inr hc
  refine ⟨_, T, hB, ?_, ?_, ?_⟩
  · rw [List.length_set]
    simp only [List.size_toArray]
    rw [splice_len c.toList vs (i * sz + j) hfit]
    simpa using hc1
  · intro y hy
    rcases List.mem_or_eq_of_mem_set hy with h | rfl
    · exact hc2 y h
    · rw [hwc, hnl]
  · intro i' j' e' y u he' hy hu
    simp only [List.getElem?_toArray] at hu
    rw [splice_get _ _ _ hfit, hl] at hu
    refine hm _ _ ?_
    by_cases hii : i = i'
    · subst hii
      rw [List.getElem?_set_self hes] at he'
      simp only [Option.some.injEq] at he'
      subst he'
      rw [hwc, ← hn, splice_get _ _ _ (by omega)] at hy
      by_cases a1 : j' < j
      · rw [if_pos a1] at hy
        rw [if_pos (by omega)] at hu
        exact hc3 i j' e y u he hy (by simpa using hu)
      · rw [if_neg a1] at hy
        rw [if_neg (by omega)] at hu
        by_cases a2 : j' < j + v.cells.length
        · rw [if_pos a2] at hy
          rw [if_pos (by omega)] at hu
          exact hv (j' - j) y u hy (by rw [show i * sz + j' - (i * sz + j) = j' - j by omega] at hu; exact hu)
        · rw [if_neg a2] at hy
          rw [if_neg (by omega)] at hu
          exact hc3 i j' e y u he hy (by simpa using hu)
    · rw [List.getElem?_set_ne hii] at he'
      have hz' := hc2 e' (List.mem_of_getElem? he')
      have hj' := get_lt hy
      have hout : ¬ (i * sz + j ≤ i' * sz + j' ∧ i' * sz + j' < i * sz + j + n) := by
        rintro ⟨g1, g2⟩
        rcases Nat.lt_or_gt_of_ne hii with g | g
        · have : (i + 1) * sz ≤ i' * sz := Nat.mul_le_mul_right _ g
          rw [Nat.add_mul] at this; omega
        · have : (i' + 1) * sz ≤ i * sz := Nat.mul_le_mul_right _ g
          rw [Nat.add_mul] at this; omega
      refine hc3 i' j' e' y u he' hy ?_
      by_cases a1 : i' * sz + j' < i * sz + j
      · rw [if_pos a1] at hu; simpa using hu
      · rw [if_neg a1, if_neg (by omega)] at hu; simpa using hu

theorem ones_of {φ : Nat → Nat} {N : Nat} {I : Nat → Prop} {w : World} {cs : List EV} {vs : List Value} (hl : vs.length = cs.length) (hone : cs.all EV.one = true)
    (h : ∀ (k : Nat) (y : EV) (u : Value), cs[k]? = some y → vs[k]? = some u → RV φ N I w y u) : ∀ u ∈ vs, u.oneCell' = true := by
  intro u hu
  obtain ⟨k, hk, rfl⟩ := List.mem_iff_getElem.1 hu
  have hk' : k < cs.length := by omega
  exact (RV.one (h k cs[k] _ (by simp [hk']) (by simp [hk])) (List.all_eq_true.1 hone _ (List.getElem_mem hk'))).1

theorem store_sound {P : Program} {γ : Nat → EV} {φ : Nat → Nat} {I : Nat → Prop} {H H' : Heap} {w : World} (hr : RH γ φ I H w) {t : TypeId} {q : TypeInfo} (hty : P.info? t = some q)
    {x v : EV} {vx vv : Value} (hx : RV φ H.length I w x vx) (hv : RV φ H.length I w v vv) (hev : evStore q.size x v H = some H') :
    ∃ w', (Instr.storeAt t vx vv).run P w = .ok () w' ∧ Evo φ I H w φ I H' w' ∧ RH γ φ I H' w' := by
  unfold evStore at hev
  split at hev
  · rename_i b sz i j
    cases hx with
    | ptr _ _ _ _ hb =>
    split at hev
    · rename_i sz' es hH
      split at hev
      · rename_i hsz
        subst hsz
        split at hev
        · rename_i e he
          split at hev
          · rename_i hcond
            simp only [Bool.and_eq_true, decide_eq_true_eq] at hcond
            obtain ⟨⟨⟨hn, hone⟩, hle⟩, hn0⟩ := hcond
            simp only [Option.some.injEq] at hev
            subst hev
            obtain ⟨c, T, hB, hc1, hc2, hc3⟩ := hr.blk b _ hH
            have hes := get_lt he
            obtain ⟨hvc, hvr⟩ := hv.cells hone
            have hmul : i * sz + sz ≤ c.size := by
              have : (i + 1) * sz ≤ es.length * sz := Nat.mul_le_mul_right _ hes
              rw [Nat.add_mul] at this; omega
            have hlen : vv.cells.toList.length = q.size := by simp [hvc, hn]
            have hfit : i * sz + j + vv.cells.toList.length ≤ c.toList.length := by rw [hlen]; simp; omega
            have hvr' : ∀ (k : Nat) (y : EV) (u : Value), v.cells[k]? = some y → vv.cells.toList[k]? = some u → RV φ H.length I w y u := fun k y u hy hu => hvr k y u hy (by simpa using hu)
            have hones := ones_of (by simp [hvc]) hone hvr'
            have hst := run_storeCells_at P (φ b) (i * sz + j) T vv.cells.toList 0 c w hB (by simpa using hfit) hones
            simp only [Nat.add_zero] at hst
            have hcs : (c.toList.take (i * sz + j) ++ vv.cells.toList ++ c.toList.drop (i * sz + j + vv.cells.toList.length)).toArray.size = c.size := by
              simpa using splice_len c.toList vv.cells.toList (i * sz + j) hfit
            generalize hc' : (c.toList.take (i * sz + j) ++ vv.cells.toList ++ c.toList.drop (i * sz + j + vv.cells.toList.length)).toArray = c' at hst hcs
            refine ⟨w.setRow (φ b) c', ?_, evo_setRow hH hB hcs, rh_setRow hr hH hB hcs ?_⟩
            · simp only [Instr.storeAt, Instr.sureAddr, storeVar, Go.sizeOf, typeInfo, Sem.run_bind, Sem.run_pure, run_program, hty, Result.andThen_ok, hvc, hn, ne_eq, not_true_eq_false, if_false]
              exact hst
            · refine row_put hc1 hc2 hc3 he hn hn0 hone hle hlen hvr' (fun y u h => ?_) (T := T) (by rw [hc']; exact setRow_heap w (φ b) c c' T (0, 0) hB)
              have := (evo_setRow (I := I) (y := EB.row sz es) hH hB hcs).rv hr h
              simpa using this
          · simp at hev
        · simp at hev
      · simp at hev
    · simp at hev
  · simp at hev

end Abs
