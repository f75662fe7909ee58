/- Automata by places: slices of numbers, rising lists. -/
import Derived.Test.YtbilmalnlkileaaCqN
import Derived.Test.YtbilmalnlkileaaOctsA
set_option linter.all false

namespace Abs
open Go
set_option linter.all false
set_option maxRecDepth 20000

/-- A slice of just these elements, that nobody writes. -/
structure SlV (sz : Nat) (x : EV) (es : List EV) : Prop where
  len : evLen false x = some es.length
  elem : ∀ (i : Nat) (e : EV), es[i]? = some e → evElem sz (i : Int) x = some (.iptr e.cells 0)
  els : ∀ H, elems H x = some es
  ok : ∀ n, x.ok n = true
  le : es.length ≤ 9223372036854775807
  one : x.cells = [x] ∧ x.one = true

theorem SlV.imm {sz : Nat} {es : List EV} (h : ∀ n, okL n es = true) (hl : es.length ≤ 9223372036854775807) : SlV sz (.imm sz es) es :=
  ⟨rfl, fun i e he => by simp [evElem, he], fun _ => rfl, fun n => by simpa [EV.ok] using h n, hl, rfl, rfl⟩
theorem SlV.nil {sz : Nat} : SlV sz .nilsl [] := ⟨rfl, fun i e he => by simp at he, fun _ => rfl, fun _ => rfl, by simp, rfl, rfl⟩
theorem SlV.zsl {sz : Nat} : SlV sz .zsl [] := ⟨rfl, fun i e he => by simp at he, fun _ => rfl, fun _ => rfl, by simp, rfl, rfl⟩

def intsE (l : List Int) : List EV := l.map (EV.int .i64)
abbrev IntsV (x : EV) (l : List Int) : Prop := SlV 1 x (intsE l)
theorem intsE_len (l : List Int) : (intsE l).length = l.length := by simp [intsE]
theorem intsE_get {l : List Int} {i : Nat} {v : Int} (h : l[i]? = some v) : (intsE l)[i]? = some (.int .i64 v) := by simp [intsE, h]
theorem okL_ints (n : Nat) : ∀ l : List Int, okL n (intsE l) = true
  | [] => rfl
  | x :: l => by
    have := okL_ints n l
    unfold intsE at this ⊢
    simp [okL, EV.ok, this]
theorem SlV.lenI {x : EV} {l : List Int} (h : IntsV x l) : evLen false x = some l.length := by rw [h.len, intsE_len]
theorem SlV.leI {x : EV} {l : List Int} (h : IntsV x l) : l.length ≤ 9223372036854775807 := by have := h.le; rwa [intsE_len] at this
theorem SlV.at {x : EV} {l : List Int} (h : IntsV x l) {i : Nat} {v : Int} (hv : l[i]? = some v) : evElem 1 (i : Int) x = some (.iptr [.int .i64 v] 0) := h.elem i _ (intsE_get hv)
theorem ints_imm {l : List Int} (hl : l.length ≤ 9223372036854775807) : IntsV (.imm 1 (intsE l)) l := .imm (fun n => okL_ints n l) (by rw [intsE_len]; exact hl)
theorem SlV.elemI {sz : Nat} {x : EV} {es : List EV} (h : SlV sz x es) {k : Int} {e : EV} (h0 : 0 ≤ k) (he : es[k.toNat]? = some e) : evElem sz k x = some (.iptr e.cells 0) := by
  have := h.elem k.toNat e he
  rwa [Int.toNat_of_nonneg h0] at this

/-- Rising numbers below a bound. -/
def risF (k : Int) : Int → List Int → Bool
  | _, [] => true
  | a, x :: l => decide (a < x) && (decide (x < k) && risF k x l)
def ris (k : Nat) (l : List Int) : Bool := risF k (-1) l

theorem cast_succ (i : Nat) : ((i + 1 : Nat) : Int) = (i : Int) + 1 := rfl
theorem drop_get {α : Type} {l : List α} {i : Nat} {v : α} (h : l[i]? = some v) : l.drop i = v :: l.drop (i + 1) := by
  obtain ⟨hp, e⟩ := List.getElem?_eq_some_iff.1 h
  rw [← e]; exact List.drop_eq_getElem_cons hp
theorem get_some {α : Type} {l : List α} {i : Nat} (h : i < l.length) : ∃ v, l[i]? = some v := ⟨l[i], by simp [h]⟩

/-- An automaton's fields. -/
structure NF where
  (x0 x1 x2 x3 x4 : EV)
  (m : Int)
  (sets : List (Nat → Nat))
  (rules first : List Int)
  (fx : List EV)
  (follow : List (List Int))
  (ends : List Bool)
  h0 : SlV 4 x0 (sets.map setE)
  hw : ∀ w ∈ sets, Words w
  h1 : IntsV x1 rules
  h2 : IntsV x2 first
  h3 : SlV 1 x3 fx
  hl : fx.length = follow.length
  hf : ∀ (i : Nat) (y : EV) (l : List Int), fx[i]? = some y → follow[i]? = some l → IntsV y l
  h4 : SlV 1 x4 (ends.map EV.bool)

def NF.E (n : NF) : EV := .agg [n.x0, n.x1, n.x2, n.x3, n.x4, .int .i64 n.m]
theorem NF.k (n : NF) : evLen false n.x0 = some n.sets.length := by rw [n.h0.len, List.length_map]
theorem NF.k1 (n : NF) : evLen false n.x1 = some n.rules.length := n.h1.lenI
theorem NF.k2 (n : NF) : evLen false n.x2 = some n.first.length := n.h2.lenI
theorem NF.k3 (n : NF) : evLen false n.x3 = some n.follow.length := by rw [n.h3.len, n.hl]
theorem NF.k4 (n : NF) : evLen false n.x4 = some n.ends.length := by rw [n.h4.len, List.length_map]
theorem NF.fol (n : NF) {i : Nat} {l : List Int} (h : n.follow[i]? = some l) : ∃ y, n.fx[i]? = some y ∧ IntsV y l ∧ evElem 1 (i : Int) n.x3 = some (.iptr [y] 0) := by
  obtain ⟨y, hy⟩ := get_some (l := n.fx) (i := i) (by rw [n.hl]; exact (List.getElem?_eq_some_iff.1 h).1)
  have hv := n.hf i y l hy h
  refine ⟨y, hy, hv, ?_⟩
  have := n.h3.elem i y hy
  rwa [hv.one.1] at this
theorem NF.one (n : NF) : n.x0.one = true ∧ n.x1.one = true ∧ n.x2.one = true ∧ n.x3.one = true ∧ n.x4.one = true := ⟨n.h0.one.2, n.h1.one.2, n.h2.one.2, n.h3.one.2, n.h4.one.2⟩

section
variable {E : Env} [R : NfaR E]

theorem ris_den (n : NF) (x : EV) (l : List Int) (hx : IntsV x l) (H : Heap) : den E R.n_nfa_Nfa_rising [n.E, x] H = some (.ret (.bool (ris n.sets.length l)), H) := by
  have k := n.k
  have lx := hx.lenI
  have lle := hx.leI
  obtain ⟨o0, o1, o2, o3, o4⟩ := n.one
  refine den_of R.d_nfa_Nfa_rising (by simp) ?_
  unfold Gn.nfa_Nfa_rising Gn.nfa_Nfa_rising_r NF.E
  unfold EV.one at o0 o1 o2 o3 o4
  simp (disch := omega) only [go_sem, ↓reduceIte, simprocAttr, reduceCtorEq, *]
  refine while_of (ι := Nat) (fun i => i ≤ l.length ∧ ∃ a : Int, -1 ≤ a ∧ (i = 0 ∧ a = -1 ∨ 0 < i ∧ l[i - 1]? = some a) ∧ ris n.sets.length l = risF n.sets.length a (l.drop i)) (fun i => l.length - i)
    (fun i => [(1, x), (2, .ptr H.length 6 0 0), (7, x), (8, .int .i64 l.length), (9, .int .i64 i)]) (fun _ => H ++ [some (.row 6 [.agg [n.x0, n.x1, n.x2, n.x3, n.x4, .int .i64 n.m]])]) 0 ⟨by omega, -1, by omega, .inl ⟨rfl, rfl⟩, rfl⟩ ?_ rfl ?_
  · simp (disch := omega) only [go_sem, ↓reduceIte, simprocAttr, reduceCtorEq, Sl]
  · rintro i t ⟨hi, a, ha, hprev, hr⟩ ht K hK
    simp (disch := omega) only [go_sem, ↓reduceIte, simprocAttr, reduceCtorEq, Sl] at ht
    by_cases hlt : i < l.length
    · obtain ⟨v, hv⟩ := get_some hlt
      have hat := hx.at hv
      rw [drop_get hv] at hr
      have go : a < v → v < n.sets.length → _ := fun h1 h2 s' H' => hK (i + 1) s' H' ⟨by omega, v, by omega, .inr ⟨by omega, by simpa using hv⟩, by rw [hr]; simp [risF, h1, h2]⟩ (by omega)
      have stop : ¬ (a < v ∧ v < n.sets.length) → ris n.sets.length l = false := fun h => by
        rw [hr]
        simp only [risF, Bool.and_eq_false_iff, decide_eq_false_iff_not]
        by_cases h1 : a < v
        · exact .inr (.inl fun h2 => h ⟨h1, h2⟩)
        · exact .inl h1
      clear hr
      rcases hprev with ⟨rfl, rfl⟩ | ⟨hi0, hp⟩
      · have hat0 : evElem 1 0 x = some (.iptr [.int .i64 v] 0) := hat
        repeat' first
          | (simp (disch := first | omega | assumption) only [go_sem, ↓reduceIte, simprocAttr, reduceCtorEq, *])
          | (refine HG_split (fun hb => ?_) (fun hb => ?_))
          | (refine HC_split (fun hb => ?_) (fun hb => ?_))
        all_goals (try simp only [decide_eq_true_eq, decide_eq_false_iff_not, beq_iff_eq, beq_eq_false_iff_ne, bne_iff_ne, bne_eq_false_iff_eq, ne_eq, Bool.not_eq_true', Bool.not_eq_false', Bool.not_eq_true, Bool.not_eq_false, Decidable.not_not, Bool.and_eq_true, Bool.or_eq_true] at *)
        all_goals first
          | omega
          | (rw [stop (by omega)]; exact finV_drop rfl rfl)
          | (refine go (by omega) (by omega) _ _ ?_ rfl; simp (disch := omega) only [go_sem, ↓reduceIte, simprocAttr, reduceCtorEq, Sl, ht, and_self, cast_succ])
      · have hat' := hx.at hp
        have e1 : ((i - 1 : Nat) : Int) = (i : Int) - 1 := by omega
        rw [e1] at hat'
        repeat' first
          | (simp (disch := first | omega | assumption) only [go_sem, ↓reduceIte, simprocAttr, reduceCtorEq, *])
          | (refine HG_split (fun hb => ?_) (fun hb => ?_))
          | (refine HC_split (fun hb => ?_) (fun hb => ?_))
        all_goals (try simp only [decide_eq_true_eq, decide_eq_false_iff_not, beq_iff_eq, beq_eq_false_iff_ne, bne_iff_ne, bne_eq_false_iff_eq, ne_eq, Bool.not_eq_true', Bool.not_eq_false', Bool.not_eq_true, Bool.not_eq_false, Decidable.not_not, Bool.and_eq_true, Bool.or_eq_true] at *)
        all_goals first
          | omega
          | (rw [stop (by omega)]; exact finV_drop rfl rfl)
          | (refine go (by omega) (by omega) _ _ ?_ rfl; simp (disch := omega) only [go_sem, ↓reduceIte, simprocAttr, reduceCtorEq, Sl, ht, and_self, cast_succ])
    · have : i = l.length := by omega
      subst this
      have he : ris n.sets.length l = true := by rw [hr]; simp [risF]
      rw [he]
      repeat' first
        | (simp (disch := first | omega | assumption) only [go_sem, ↓reduceIte, simprocAttr, reduceCtorEq, *])
        | (refine HG_split (fun hb => ?_) (fun hb => ?_))
        | (refine HC_split (fun hb => ?_) (fun hb => ?_))
      all_goals (try simp only [decide_eq_true_eq, decide_eq_false_iff_not, beq_iff_eq, beq_eq_false_iff_ne, bne_iff_ne, bne_eq_false_iff_eq, ne_eq, Bool.not_eq_true', Bool.not_eq_false', Bool.not_eq_true, Bool.not_eq_false, Decidable.not_not, Bool.and_eq_true, Bool.or_eq_true] at *)
      all_goals first | omega | exact finV_drop rfl rfl
end
end Abs
