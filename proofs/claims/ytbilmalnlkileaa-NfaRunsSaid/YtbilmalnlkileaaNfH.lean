/- Tags of places. -/
import Derived.Test.YtbilmalnlkileaaNfG
set_option linter.all false

namespace Abs
open Go
set_option linter.all false
set_option maxRecDepth 20000

def endP (n : NF) (p : Int) : Bool := n.ends.getD p.toNat false
def rulP (n : NF) (p : Int) : Int := n.rules.getD p.toNat 0
def tagS (n : NF) (out p : Int) : Int := if endP n p = true ∧ (out < 0 ∨ rulP n p < out) then rulP n p else out
def tagF (n : NF) (l : List Int) : Int := l.foldl (tagS n) (-1)
def TagI (n : NF) (l : List Int) (t : Int) : Prop := (t = -1 ∧ ∀ p ∈ l, endP n p = false) ∨ (0 ≤ t ∧ (∃ p ∈ l, endP n p = true ∧ rulP n p = t) ∧ ∀ p ∈ l, endP n p = true → t ≤ rulP n p)

theorem TagI.step {n : NF} {l : List Int} {t p : Int} (h : TagI n l t) (hp : 0 ≤ rulP n p) : TagI n (l ++ [p]) (tagS n t p) := by
  unfold tagS
  cases he : endP n p with
  | false =>
    rw [if_neg (by simp)]
    rcases h with ⟨h1, h2⟩ | ⟨h0, ⟨q, hq, h1, h2⟩, h3⟩
    · exact .inl ⟨h1, fun q hq => by
        rcases List.mem_append.1 hq with h | h
        · exact h2 q h
        · simp at h; subst h; exact he⟩
    · exact .inr ⟨h0, ⟨q, List.mem_append_left _ hq, h1, h2⟩, fun r hr hre => by
        rcases List.mem_append.1 hr with h | h
        · exact h3 r h hre
        · simp at h; subst h; rw [he] at hre; simp at hre⟩
  | true =>
    rcases h with ⟨h1, h2⟩ | ⟨h0, ⟨q, hq, h1, h2⟩, h3⟩
    · rw [if_pos ⟨rfl, by omega⟩]
      exact .inr ⟨hp, ⟨p, by simp, he, rfl⟩, fun r hr hre => by
        rcases List.mem_append.1 hr with h | h
        · rw [h2 r h] at hre; simp at hre
        · simp at h; subst h; exact Int.le_refl _⟩
    · by_cases hlt : rulP n p < t
      · rw [if_pos ⟨rfl, .inr hlt⟩]
        exact .inr ⟨hp, ⟨p, by simp, he, rfl⟩, fun r hr hre => by
          rcases List.mem_append.1 hr with h | h
          · have := h3 r h hre; omega
          · simp at h; subst h; exact Int.le_refl _⟩
      · rw [if_neg (by omega)]
        exact .inr ⟨h0, ⟨q, List.mem_append_left _ hq, h1, h2⟩, fun r hr hre => by
          rcases List.mem_append.1 hr with h | h
          · exact h3 r h hre
          · simp at h; subst h; omega⟩
theorem tagF_spec {n : NF} {l : List Int} (hr : ∀ p ∈ l, 0 ≤ rulP n p) : TagI n l (tagF n l) := by
  have key : ∀ (l pre : List Int) (t : Int), (∀ p ∈ l, 0 ≤ rulP n p) → TagI n pre t → TagI n (pre ++ l) (l.foldl (tagS n) t) := by
    intro l
    induction l with
    | nil => intro pre t _ h; simpa using h
    | cons p l ih =>
      intro pre t hp h
      have := ih (pre ++ [p]) (tagS n t p) (fun q hq => hp q (List.mem_cons_of_mem _ hq)) (h.step (hp p (by simp)))
      simpa using this
  have := key l [] (-1) hr (.inl ⟨rfl, by simp⟩)
  simpa [tagF] using this
theorem tagF_none {n : NF} {l : List Int} (hr : ∀ p ∈ l, 0 ≤ rulP n p) (h : ∀ p ∈ l, endP n p = false) : tagF n l = -1 := by
  rcases tagF_spec hr with h1 | ⟨_, ⟨p, hp, h2, _⟩, _⟩
  · exact h1.1
  · rw [h p hp] at h2; simp at h2
theorem tagF_first {n : NF} {l : List Int} (hr : ∀ p ∈ l, 0 ≤ rulP n p) {r : Int} (h1 : ∃ p ∈ l, endP n p = true ∧ rulP n p = r) (h2 : ∀ p ∈ l, endP n p = true → r ≤ rulP n p) : tagF n l = r := by
  obtain ⟨p, hp, he, hrp⟩ := h1
  rcases tagF_spec hr with h | ⟨_, ⟨q, hq, hqe, hqr⟩, h3⟩
  · rw [h.2 p hp] at he; simp at he
  · have a := h3 p hp he
    have b := h2 q hq hqe
    omega
theorem tagF_snoc (n : NF) {l : List Int} {i : Nat} {v : Int} (hv : l[i]? = some v) : tagF n (l.take (i + 1)) = tagS n (tagF n (l.take i)) v := by
  unfold tagF
  rw [List.take_add_one, hv, List.foldl_append]; rfl

theorem NF.Good.at {n : NF} (g : n.Good) {p : Int} (hp : 0 ≤ p ∧ p < n.sets.length) : n.rules[p.toNat]? = some (rulP n p) ∧ n.ends[p.toNat]? = some (endP n p) ∧ 0 ≤ rulP n p ∧ rulP n p ≤ 39 := by
  obtain ⟨r, hr⟩ := get_some (l := n.rules) (i := p.toNat) (by rw [g.r]; omega)
  obtain ⟨e, he⟩ := get_some (l := n.ends) (i := p.toNat) (by rw [g.e]; omega)
  have e1 : rulP n p = r := by unfold rulP; rw [List.getD, hr]; rfl
  have e2 : endP n p = e := by unfold endP; rw [List.getD, he]; rfl
  rw [e1, e2]
  exact ⟨hr, he, g.rr r (List.mem_of_getElem? hr)⟩

section
variable {E : Env} [R : NfaR E]

theorem ints_den (x y : EV) (a b : List Int) (hx : IntsV x a) (hy : IntsV y b) (H : Heap) : den E R.n_hackleref08_Ints [x, y] H = some (.ret (.bool (decide (a = b))), H) := by
  have lx := hx.lenI
  have ly := hy.lenI
  have xle := hx.leI
  refine den_of R.d_hackleref08_Ints (by simp) ?_
  unfold Gn.hackleref08_Ints Gn.hackleref08_Ints_r
  by_cases hl : a.length = b.length
  · have hll : ((a.length : Int) != (b.length : Int)) = false := by simp [hl]
    rw [← hl] at ly
    have hll2 : ((a.length : Int) != (a.length : Int)) = false := by simp
    simp (disch := omega) only [go_sem, ↓reduceIte, simprocAttr, reduceCtorEq, lx, ly, hll2]
    refine while_of (ι := Nat) (fun i => i ≤ a.length ∧ a.take i = b.take i) (fun i => a.length - i) (fun i => [(0, x), (1, y), (5, .int .i64 i)]) (fun _ => H) 0 ⟨by omega, rfl⟩ ?_ rfl ?_
    · simp (disch := omega) only [go_sem, ↓reduceIte, simprocAttr, reduceCtorEq, Sl]
    · rintro i t ⟨hi, hp⟩ ht K hK
      simp (disch := omega) only [go_sem, ↓reduceIte, simprocAttr, reduceCtorEq, Sl] at ht
      by_cases hlt : i < a.length
      · obtain ⟨v, hv⟩ := get_some hlt
        obtain ⟨w, hw⟩ := get_some (l := b) (i := i) (by omega)
        have h1 := hx.at hv
        have h2 := hy.at hw
        by_cases e : v = w
        · subst e
          have hk := hK (i + 1)
          have hnp : a.take (i + 1) = b.take (i + 1) := by rw [List.take_add_one, List.take_add_one, hv, hw, hp]
          have hne : (v != v) = false := by simp
          clear hK hp
          repeat' first
            | (simp (disch := first | omega | assumption) only [go_sem, ↓reduceIte, simprocAttr, reduceCtorEq, *])
            | (refine HG_split (fun hb => ?_) (fun hb => ?_))
            | (refine HC_split (fun hb => ?_) (fun hb => ?_))
          all_goals (try simp only [decide_eq_true_eq, decide_eq_false_iff_not, beq_iff_eq, beq_eq_false_iff_ne, bne_iff_ne, bne_eq_false_iff_eq, ne_eq, Bool.not_eq_true', Bool.not_eq_false', Bool.not_eq_true, Bool.not_eq_false, Decidable.not_not, Bool.and_eq_true, Bool.or_eq_true] at *)
          all_goals first | omega | skip
          refine hk _ _ ⟨by omega, hnp⟩ (by omega) ?_ rfl
          simp (disch := omega) only [go_sem, ↓reduceIte, simprocAttr, reduceCtorEq, Sl, ht, and_self, cast_succ]
        · have hne : (v != w) = true := by simp [e]
          have hf : decide (a = b) = false := decide_eq_false fun h => by subst h; rw [hv] at hw; exact e (Option.some.inj hw)
          rw [hf]
          clear hK hp e hf
          repeat' first
            | (simp (disch := first | omega | assumption) only [go_sem, ↓reduceIte, simprocAttr, reduceCtorEq, *])
            | (refine HG_split (fun hb => ?_) (fun hb => ?_))
            | (refine HC_split (fun hb => ?_) (fun hb => ?_))
          all_goals (try simp only [decide_eq_true_eq, decide_eq_false_iff_not, beq_iff_eq, beq_eq_false_iff_ne, bne_iff_ne, bne_eq_false_iff_eq, ne_eq, Bool.not_eq_true', Bool.not_eq_false', Bool.not_eq_true, Bool.not_eq_false, Decidable.not_not, Bool.and_eq_true, Bool.or_eq_true] at *)
          all_goals first | omega | exact finV_same rfl rfl
      · have hie : i = a.length := by omega
        have he : decide (a = b) = true := decide_eq_true (by
          rw [hie, List.take_length, hl, List.take_length] at hp; exact hp)
        rw [he]
        clear hK hp he
        repeat' first
          | (simp (disch := first | omega | assumption) only [go_sem, ↓reduceIte, simprocAttr, reduceCtorEq, *])
          | (refine HG_split (fun hb => ?_) (fun hb => ?_))
          | (refine HC_split (fun hb => ?_) (fun hb => ?_))
        all_goals (try simp only [decide_eq_true_eq, decide_eq_false_iff_not, beq_iff_eq, beq_eq_false_iff_ne, bne_iff_ne, bne_eq_false_iff_eq, ne_eq, Bool.not_eq_true', Bool.not_eq_false', Bool.not_eq_true, Bool.not_eq_false, Decidable.not_not, Bool.and_eq_true, Bool.or_eq_true] at *)
        all_goals first | omega | exact finV_same rfl rfl
  · have hf : decide (a = b) = false := decide_eq_false fun h => hl (by rw [h])
    have hll : ((a.length : Int) != (b.length : Int)) = true := by simp; omega
    rw [hf]
    clear hf
    repeat' first
      | (simp (disch := first | omega | assumption) only [go_sem, ↓reduceIte, simprocAttr, reduceCtorEq, *])
      | (refine HG_split (fun hb => ?_) (fun hb => ?_))
      | (refine HC_split (fun hb => ?_) (fun hb => ?_))
    exact finV_same rfl rfl

theorem tag_den (n : NF) (g : n.Good) (x : EV) (l : List Int) (hx : IntsV x l) (hin : InP n.sets.length l) (H : Heap) : den E R.n_nfa_Nfa_tag [n.E, x] H = some (.ret (.int .i64 (tagF n l)), H) := by
  obtain ⟨o0, o1, o2, o3, o4⟩ := n.one
  have lx := hx.lenI
  have lle := hx.leI
  refine den_of R.d_nfa_Nfa_tag (by simp) ?_
  unfold Gn.nfa_Nfa_tag Gn.nfa_Nfa_tag_r
  unfold EV.one at o0 o1 o2 o3 o4
  unfold NF.E
  simp (disch := omega) only [go_sem, ↓reduceIte, simprocAttr, reduceCtorEq, o0, o1, o2, o3, o4, lx]
  refine while_of (ι := Nat) (fun i => i ≤ l.length) (fun i => l.length - i) (fun i => [(2, .ptr H.length 6 0 0), (5, .int .i64 (tagF n (l.take i))), (8, x), (9, .int .i64 l.length), (10, .int .i64 i)]) (fun _ => H ++ [some (.row 6 [.agg [n.x0, n.x1, n.x2, n.x3, n.x4, .int .i64 n.m]])]) 0 (by omega) ?_ rfl ?_
  · simp (disch := omega) only [go_sem, ↓reduceIte, simprocAttr, reduceCtorEq, Sl]
    simp [tagF]
  · intro i t hi ht K hK
    simp (disch := omega) only [go_sem, ↓reduceIte, simprocAttr, reduceCtorEq, Sl] at ht
    by_cases hlt : i < l.length
    · obtain ⟨p, hp⟩ := get_some hlt
      have hpi := hin p (List.mem_of_getElem? hp)
      obtain ⟨hr, he, hr0, hr39⟩ := g.at hpi
      have hre : evElem 1 p n.x1 = some (.iptr [.int .i64 (rulP n p)] 0) := n.h1.elemI hpi.1 (intsE_get hr)
      have hee : evElem 1 p n.x4 = some (.iptr [.bool (endP n p)] 0) := n.h4.elemI (e := .bool (endP n p)) hpi.1 (by rw [List.getElem?_map, he]; rfl)
      have hat := hx.at hp
      have hk := hK (i + 1)
      rw [tagF_snoc n hp] at hk
      unfold tagS at hk
      cases hend : endP n p with
      | true =>
        rw [hend] at hk hee
        clear hK hr he
        by_cases hc : tagF n (l.take i) < 0 ∨ rulP n p < tagF n (l.take i)
        · rw [if_pos ⟨rfl, hc⟩] at hk
          repeat' first
            | (simp (disch := first | omega | assumption) only [go_sem, ↓reduceIte, simprocAttr, reduceCtorEq, *])
            | (refine HG_split (fun hb => ?_) (fun hb => ?_))
            | (refine HC_split (fun hb => ?_) (fun hb => ?_))
          all_goals (try simp only [decide_eq_true_eq, decide_eq_false_iff_not, beq_iff_eq, beq_eq_false_iff_ne, bne_iff_ne, bne_eq_false_iff_eq, ne_eq, Bool.not_eq_true', Bool.not_eq_false', Bool.not_eq_true, Bool.not_eq_false, Decidable.not_not, Bool.and_eq_true, Bool.or_eq_true] at *)
          all_goals first | omega | (refine hk _ _ (by omega) (by omega) ?_ rfl; simp (disch := omega) only [go_sem, ↓reduceIte, simprocAttr, reduceCtorEq, Sl, ht, and_self, cast_succ])
        · rw [if_neg (fun h => hc h.2)] at hk
          repeat' first
            | (simp (disch := first | omega | assumption) only [go_sem, ↓reduceIte, simprocAttr, reduceCtorEq, *])
            | (refine HG_split (fun hb => ?_) (fun hb => ?_))
            | (refine HC_split (fun hb => ?_) (fun hb => ?_))
          all_goals (try simp only [decide_eq_true_eq, decide_eq_false_iff_not, beq_iff_eq, beq_eq_false_iff_ne, bne_iff_ne, bne_eq_false_iff_eq, ne_eq, Bool.not_eq_true', Bool.not_eq_false', Bool.not_eq_true, Bool.not_eq_false, Decidable.not_not, Bool.and_eq_true, Bool.or_eq_true] at *)
          all_goals first | omega | (refine hk _ _ (by omega) (by omega) ?_ rfl; simp (disch := omega) only [go_sem, ↓reduceIte, simprocAttr, reduceCtorEq, Sl, ht, and_self, cast_succ])
      | false =>
        rw [hend] at hk hee
        rw [if_neg (by simp)] at hk
        clear hK hr he
        repeat' first
          | (simp (disch := first | omega | assumption) only [go_sem, ↓reduceIte, simprocAttr, reduceCtorEq, *])
          | (refine HG_split (fun hb => ?_) (fun hb => ?_))
          | (refine HC_split (fun hb => ?_) (fun hb => ?_))
        all_goals (try simp only [decide_eq_true_eq, decide_eq_false_iff_not, beq_iff_eq, beq_eq_false_iff_ne, bne_iff_ne, bne_eq_false_iff_eq, ne_eq, Bool.not_eq_true', Bool.not_eq_false', Bool.not_eq_true, Bool.not_eq_false, Decidable.not_not, Bool.and_eq_true, Bool.or_eq_true] at *)
        all_goals first | omega | skip
        refine hk _ _ (by omega) (by omega) ?_ rfl
        simp (disch := omega) only [go_sem, ↓reduceIte, simprocAttr, reduceCtorEq, Sl, ht, and_self, cast_succ]
    · have hie : i = l.length := by omega
      rw [hie, List.take_length] at ht
      clear hK
      repeat' first
        | (simp (disch := first | omega | assumption) only [go_sem, ↓reduceIte, simprocAttr, reduceCtorEq, *])
        | (refine HG_split (fun hb => ?_) (fun hb => ?_))
        | (refine HC_split (fun hb => ?_) (fun hb => ?_))
      all_goals (try simp only [decide_eq_true_eq, decide_eq_false_iff_not, beq_iff_eq, beq_eq_false_iff_ne, bne_iff_ne, bne_eq_false_iff_eq, ne_eq, Bool.not_eq_true', Bool.not_eq_false', Bool.not_eq_true, Bool.not_eq_false, Decidable.not_not, Bool.and_eq_true, Bool.or_eq_true] at *)
      all_goals first | omega | exact finV_drop rfl rfl

theorem refTag_den (n : NF) (g : n.Good) (x : EV) (l : List Int) (hx : IntsV x l) (hin : InP n.sets.length l) (H : Heap) : den E R.n_hackleref08_Tag [n.E, x] H = some (.ret (.int .i64 (tagF n l)), H) := by
  obtain ⟨o0, o1, o2, o3, o4⟩ := n.one
  have lx := hx.lenI
  have lle := hx.leI
  have hrl : ∀ p ∈ l, 0 ≤ rulP n p := fun p hp => (g.at (hin p hp)).2.2.1
  have hrl9 : ∀ p ∈ l, rulP n p ≤ 39 := fun p hp => (g.at (hin p hp)).2.2.2
  refine den_of R.d_hackleref08_Tag (by simp) ?_
  unfold Gn.hackleref08_Tag Gn.hackleref08_Tag_r
  unfold EV.one at o0 o1 o2 o3 o4
  unfold NF.E
  simp (disch := omega) only [go_sem, ↓reduceIte, simprocAttr, reduceCtorEq, o0, o1, o2, o3, o4]
  refine while_of (ι := Nat) (fun r => r ≤ 40 ∧ ∀ p ∈ l, endP n p = true → (r : Int) ≤ rulP n p) (fun r => 40 - r) (fun r => [(1, x), (2, .ptr H.length 6 0 0), (5, .int .i64 r)]) (fun _ => H ++ [some (.row 6 [.agg [n.x0, n.x1, n.x2, n.x3, n.x4, .int .i64 n.m]])]) 0 ⟨by omega, fun p hp _ => by have := hrl p hp; simpa using this⟩ ?_ rfl ?_
  · simp (disch := omega) only [go_sem, ↓reduceIte, simprocAttr, reduceCtorEq, Sl]
  · rintro r t ⟨hr, hall⟩ ht K hK
    simp (disch := omega) only [go_sem, ↓reduceIte, simprocAttr, reduceCtorEq, Sl] at ht
    by_cases hlt : r < 40
    · have hk := hK (r + 1)
      clear hK
      repeat' first
        | (simp (disch := first | omega | assumption) only [go_sem, ↓reduceIte, simprocAttr, reduceCtorEq, *])
        | (refine HG_split (fun hb => ?_) (fun hb => ?_))
        | (refine HC_split (fun hb => ?_) (fun hb => ?_))
      all_goals (try simp only [decide_eq_true_eq, decide_eq_false_iff_not, beq_iff_eq, beq_eq_false_iff_ne, bne_iff_ne, bne_eq_false_iff_eq, ne_eq, Bool.not_eq_true', Bool.not_eq_false', Bool.not_eq_true, Bool.not_eq_false, Decidable.not_not, Bool.and_eq_true, Bool.or_eq_true] at *)
      all_goals first | omega | skip
      refine while_of (ι := Nat) (fun i => i ≤ l.length ∧ ∀ p ∈ l.take i, endP n p = true → (r : Int) + 1 ≤ rulP n p) (fun i => l.length - i) (fun i => [(1, x), (2, .ptr H.length 6 0 0), (5, .int .i64 r), (6, .int .i64 i)]) (fun _ => H ++ [some (.row 6 [.agg [n.x0, n.x1, n.x2, n.x3, n.x4, .int .i64 n.m]])]) 0 ⟨by omega, by simp⟩ ?_ rfl ?_
      · simp (disch := omega) only [go_sem, ↓reduceIte, simprocAttr, reduceCtorEq, Sl, ht, and_self]
      · rintro i t2 ⟨hi, hdone⟩ ht2 K2 hK2
        simp (disch := omega) only [go_sem, ↓reduceIte, simprocAttr, reduceCtorEq, Sl] at ht2
        by_cases hil : i < l.length
        · obtain ⟨p, hp⟩ := get_some hil
          have hpm := List.mem_of_getElem? hp
          have hpi := hin p hpm
          obtain ⟨hru, he, hr0, hr39⟩ := g.at hpi
          have hre : evElem 1 p n.x1 = some (.iptr [.int .i64 (rulP n p)] 0) := n.h1.elemI hpi.1 (intsE_get hru)
          have hee : evElem 1 p n.x4 = some (.iptr [.bool (endP n p)] 0) := n.h4.elemI (e := .bool (endP n p)) hpi.1 (by rw [List.getElem?_map, he]; rfl)
          have hat := hx.at hp
          have hallp := hall p hpm
          have hk2 := hK2 (i + 1)
          have hstep : (endP n p = true → (r : Int) + 1 ≤ rulP n p) → ∀ q ∈ l.take (i + 1), endP n q = true → (r : Int) + 1 ≤ rulP n q := fun h q hq hqe => by
            rw [List.take_add_one, hp] at hq
            rcases List.mem_append.1 hq with h' | h'
            · exact hdone q h' hqe
            · simp at h'; subst h'; exact h hqe
          cases hend : endP n p with
          | true =>
            rw [hend] at hee hallp hstep
            have hle := hallp rfl
            by_cases heq : rulP n p = r
            · have hres : tagF n l = r := tagF_first hrl ⟨p, hpm, hend, heq⟩ hall
              have hbe : (rulP n p == (r : Int)) = true := by simp [heq]
              rw [hres]
              clear hK2 hk2 hk hru he hstep hdone hall hallp hend
              repeat' first
                | (simp (disch := first | omega | assumption) only [go_sem, ↓reduceIte, simprocAttr, reduceCtorEq, *])
                | (refine HG_split (fun hb => ?_) (fun hb => ?_))
                | (refine HC_split (fun hb => ?_) (fun hb => ?_))
              all_goals (try simp only [decide_eq_true_eq, decide_eq_false_iff_not, beq_iff_eq, beq_eq_false_iff_ne, bne_iff_ne, bne_eq_false_iff_eq, ne_eq, Bool.not_eq_true', Bool.not_eq_false', Bool.not_eq_true, Bool.not_eq_false, Decidable.not_not, Bool.and_eq_true, Bool.or_eq_true] at *)
              all_goals first | omega | exact finV_drop rfl rfl
            · have hst := hstep fun _ => by omega
              have hbe : (rulP n p == (r : Int)) = false := by simp [heq]
              clear hK2 hk hru he hstep hdone hall hallp hend
              repeat' first
                | (simp (disch := first | omega | assumption) only [go_sem, ↓reduceIte, simprocAttr, reduceCtorEq, *])
                | (refine HG_split (fun hb => ?_) (fun hb => ?_))
                | (refine HC_split (fun hb => ?_) (fun hb => ?_))
              all_goals (try simp only [decide_eq_true_eq, decide_eq_false_iff_not, beq_iff_eq, beq_eq_false_iff_ne, bne_iff_ne, bne_eq_false_iff_eq, ne_eq, Bool.not_eq_true', Bool.not_eq_false', Bool.not_eq_true, Bool.not_eq_false, Decidable.not_not, Bool.and_eq_true, Bool.or_eq_true] at *)
              all_goals first | omega | skip
              refine hk2 _ _ ⟨by omega, hst⟩ (by omega) ?_ rfl
              simp (disch := omega) only [go_sem, ↓reduceIte, simprocAttr, reduceCtorEq, Sl, ht2, and_self, cast_succ]
          | false =>
            have hst := hstep (by rw [hend]; simp)
            rw [hend] at hee
            clear hK2 hk hru he hstep hdone hall hallp hend
            repeat' first
              | (simp (disch := first | omega | assumption) only [go_sem, ↓reduceIte, simprocAttr, reduceCtorEq, *])
              | (refine HG_split (fun hb => ?_) (fun hb => ?_))
              | (refine HC_split (fun hb => ?_) (fun hb => ?_))
            all_goals (try simp only [decide_eq_true_eq, decide_eq_false_iff_not, beq_iff_eq, beq_eq_false_iff_ne, bne_iff_ne, bne_eq_false_iff_eq, ne_eq, Bool.not_eq_true', Bool.not_eq_false', Bool.not_eq_true, Bool.not_eq_false, Decidable.not_not, Bool.and_eq_true, Bool.or_eq_true] at *)
            all_goals first
              | omega
              | (refine hk2 _ _ ⟨by omega, hst⟩ (by omega) ?_ rfl; simp (disch := omega) only [go_sem, ↓reduceIte, simprocAttr, reduceCtorEq, Sl, ht2, and_self, cast_succ])
        · have hie : i = l.length := by omega
          rw [hie, List.take_length] at hdone
          clear hK2
          repeat' first
            | (simp (disch := first | omega | assumption) only [go_sem, ↓reduceIte, simprocAttr, reduceCtorEq, *])
            | (refine HG_split (fun hb => ?_) (fun hb => ?_))
            | (refine HC_split (fun hb => ?_) (fun hb => ?_))
          all_goals (try simp only [decide_eq_true_eq, decide_eq_false_iff_not, beq_iff_eq, beq_eq_false_iff_ne, bne_iff_ne, bne_eq_false_iff_eq, ne_eq, Bool.not_eq_true', Bool.not_eq_false', Bool.not_eq_true, Bool.not_eq_false, Decidable.not_not, Bool.and_eq_true, Bool.or_eq_true] at *)
          all_goals first | omega | skip
          refine hk _ _ ⟨by omega, fun p hp he => by have := hdone p hp he; push_cast; omega⟩ (by omega) ?_ rfl
          simp (disch := omega) only [go_sem, ↓reduceIte, simprocAttr, reduceCtorEq, Sl, ht2, and_self, cast_succ]
    · have h40 : r = 40 := by omega
      have hres : tagF n l = -1 := tagF_none hrl fun p hp => by
        cases he : endP n p with
        | false => rfl
        | true =>
          have a := hall p hp he
          have b := hrl9 p hp
          omega
      rw [hres]
      clear hK hall hres
      repeat' first
        | (simp (disch := first | omega | assumption) only [go_sem, ↓reduceIte, simprocAttr, reduceCtorEq, *])
        | (refine HG_split (fun hb => ?_) (fun hb => ?_))
        | (refine HC_split (fun hb => ?_) (fun hb => ?_))
      all_goals (try simp only [decide_eq_true_eq, decide_eq_false_iff_not, beq_iff_eq, beq_eq_false_iff_ne, bne_iff_ne, bne_eq_false_iff_eq, ne_eq, Bool.not_eq_true', Bool.not_eq_false', Bool.not_eq_true, Bool.not_eq_false, Decidable.not_not, Bool.and_eq_true, Bool.or_eq_true] at *)
      all_goals first | omega | exact finV_drop rfl rfl
end
end Abs
