/- Tables (arrays by a function of the index), and heaps with more behind them. -/
import Derived.Test.YtcjnpmaljfkpgaaDoorAbsNum
namespace Abs
open Go

def tab (n : Nat) (f : Nat → EV) : List EV := (List.range n).map f
def put (f : Nat → EV) (k : Nat) (v : EV) : Nat → EV := fun i => if i = k then v else f i

section
variable {n k : Nat} {κ : IntKind} {f g : Nat → EV} {v x : EV} {l : List EV}

theorem put_self : put f k v k = v := by simp [put]
theorem put_other {i : Nat} (h : i ≠ k) : put f k v i = f i := by simp [put, h]

theorem tab_len : (tab n f).length = n := by simp [tab]
theorem tab_get (h : k < n) : (tab n f)[k]? = some (f k) := by simp [tab, h]
theorem tab_congr (h : ∀ i, i < n → f i = g i) : tab n f = tab n g := List.map_congr_left fun i hi => h i (by simpa using hi)
theorem tab_pick (h : k < n) : ((tab n f).drop k).take 1 = [f k] := by
  rw [List.drop_eq_getElem_cons (by rw [tab_len]; exact h)]
  simp [tab]
theorem tab_pick_app (h : k < n) : ((tab n f ++ l).drop k).take 1 = [f k] := by
  rw [List.drop_append_of_le_length (by rw [tab_len]; omega), List.drop_eq_getElem_cons (by rw [tab_len]; exact h)]
  simp [tab]
theorem tab_put (h : k < n) : (tab n f).take k ++ (v :: (tab n f).drop (k + 1)) = tab n (put f k v) := by
  refine List.ext_getElem? fun i => ?_
  have e := splice_get (tab n f) [v] k (by simp [tab_len]; omega) i
  simp only [List.append_assoc, List.singleton_append, List.length_singleton] at e
  rw [e]
  by_cases hi : i < n
  · rw [tab_get hi, tab_get hi]
    by_cases a : i < k
    · rw [if_pos a, put_other (by omega)]
    · rw [if_neg a]
      by_cases b : i < k + 1
      · obtain rfl : i = k := by omega
        rw [if_pos b, put_self]; simp
      · rw [if_neg b, put_other (by omega)]
  · have a1 : (tab n f)[i]? = none := List.getElem?_eq_none (by rw [tab_len]; omega)
    have a2 : (tab n (put f k v))[i]? = none := List.getElem?_eq_none (by rw [tab_len]; omega)
    rw [if_neg (by omega), if_neg (by omega), a1, a2]
theorem tab_put_app (h : k < n) : (tab n f ++ l).take k ++ (v :: (tab n f ++ l).drop (k + 1)) = tab n (put f k v) ++ l := by
  rw [List.take_append_of_le_length (by rw [tab_len]; omega), List.drop_append_of_le_length (by rw [tab_len]; omega), ← List.cons_append, ← List.append_assoc, tab_put h]
theorem tab_take_self : (tab n f ++ l).take n = tab n f := by
  rw [List.take_append_of_le_length (by rw [tab_len]; omega), List.take_of_length_le (by rw [tab_len]; omega)]
theorem tab_take_all (h : n ≤ k) : (tab n f).take k = tab n f := List.take_of_length_le (by rw [tab_len]; exact h)
theorem tab_take_one (h : n + 1 ≤ k) : (tab n f ++ [x]).take k = tab n f ++ [x] := List.take_of_length_le (by simp [tab_len]; omega)
theorem tab_drop_app (h : n ≤ k) : (tab n f ++ l).drop k = l.drop (k - n) := by
  rw [List.drop_append, List.drop_of_length_le (by rw [tab_len]; exact h), tab_len, List.nil_append]
theorem tab_drop_all (h : n ≤ k) : (tab n f).drop k = [] := List.drop_of_length_le (by rw [tab_len]; exact h)

theorem tab_one_int {κ : IntKind} {w : Nat → Int} : (tab n fun i => .int κ (w i)).all EV.one = true := by
  rw [List.all_eq_true]
  intro x hx
  simp only [tab, List.mem_map] at hx
  obtain ⟨i, _, rfl⟩ := hx
  rfl
theorem tab_one_bool {w : Nat → Bool} : (tab n fun i => .bool (w i)).all EV.one = true := by
  rw [List.all_eq_true]
  intro x hx
  simp only [tab, List.mem_map] at hx
  obtain ⟨i, _, rfl⟩ := hx
  rfl
theorem put_int {κ : IntKind} {w : Nat → Int} {a : Int} : put (fun i => .int κ (w i)) k (.int κ a) = fun i => .int κ (if i = k then a else w i) := by
  funext i
  unfold put
  split <;> rfl
theorem put_bool {w : Nat → Bool} {a : Bool} : put (fun i => .bool (w i)) k (.bool a) = fun i => .bool (if i = k then a else w i) := by
  funext i
  unfold put
  split <;> rfl

theorem tab_rep {a : EV} : List.replicate n a = tab n fun _ => a := by
  refine List.ext_getElem? fun i => ?_
  by_cases h : i < n
  · rw [tab_get h]; simp [h]
  · rw [List.getElem?_eq_none (by simp; omega), List.getElem?_eq_none (by rw [tab_len]; omega)]
theorem tab_four {a : EV} : [a, a, a, a] = tab 4 fun _ => a := rfl

theorem tab_succ : tab (n + 1) f = tab n f ++ [f n] := by simp [tab, List.range_succ]

theorem sweep {a b : Nat → Nat} {i : Nat} : (fun j => EV.int κ ((if j = i then a i else if j < i then a j else b j : Nat) : Int)) = fun j => EV.int κ ((if j < i + 1 then a j else b j : Nat) : Int) := by
  funext j
  by_cases h1 : j = i
  · subst h1; simp
  · rw [if_neg h1]
    by_cases h2 : j < i
    · rw [if_pos h2, if_pos (by omega)]
    · rw [if_neg h2, if_neg (by omega)]

theorem tab_lt {a b : Nat → Nat} : (tab n fun i => EV.int κ ((if i < n then a i else b i : Nat) : Int)) = tab n fun i => EV.int κ ((a i : Nat) : Int) := tab_congr fun i hi => by rw [if_pos hi]

/-- Equality of tables of numbers. -/
theorem fits_rep {q : SK} {ks : List SK} : ∀ {n : Nat} {f : Nat → EV}, (∀ i, i < n → fit q (f i) = true) → fits ks l = true → fits (List.replicate n q ++ ks) (tab n f ++ l) = true := by
  intro n
  induction n generalizing ks l with
  | zero => intro f _ h; simpa [tab] using h
  | succ n ih =>
    intro f hf h
    rw [tab_succ, List.replicate_succ', List.append_assoc, List.append_assoc]
    exact ih (fun i hi => hf i (by omega)) (by simp [fits, hf n (by omega), h])
theorem fits_tab {q : SK} {f : Nat → EV} (h : ∀ i, i < n → fit q (f i) = true) : fits (List.replicate n q) (tab n f) = true := by
  have := fits_rep (ks := []) (l := []) h rfl
  simpa using this
theorem eqL_app {a b c d : List EV} (h : a.length = b.length) : eqL (a ++ c) (b ++ d) = (eqL a b && eqL c d) := by
  induction a generalizing b with
  | nil => cases b with
    | nil => simp [eqL]
    | cons y b => simp at h
  | cons x a ih => cases b with
    | nil => simp at h
    | cons y b => simp only [List.cons_append, eqL, ih (by simpa using h), Bool.and_assoc]
/-- Are the first n numbers of two rows alike? -/
def allEq (n : Nat) (u w : Nat → Int) : Bool := (List.range n).all fun i => u i == w i
theorem allEq_iff {u w : Nat → Int} : allEq n u w = true ↔ ∀ i, i < n → u i = w i := by
  simp [allEq, List.all_eq_true]
theorem eqL_tab {κ κ' : IntKind} {u w : Nat → Int} : ∀ {n : Nat}, eqL (tab n fun i => .int κ (u i)) (tab n fun i => .int κ' (w i)) = allEq n u w
  | 0 => by simp [tab, eqL, allEq]
  | n + 1 => by
    rw [tab_succ, tab_succ, eqL_app (by simp [tab_len]), eqL_tab]
    simp [eqL, sceq, allEq, List.range_succ, List.all_append]
theorem eqL_tab_app {κ κ' : IntKind} {u w : Nat → Int} {c d : List EV} : eqL ((tab n fun i => .int κ (u i)) ++ c) ((tab n fun i => .int κ' (w i)) ++ d) = (allEq n u w && eqL c d) := by
  rw [eqL_app (by simp [tab_len]), eqL_tab]
theorem fits_tab_int {κ : IntKind} {w : Nat → Int} : fits (List.replicate n (.i κ)) (tab n fun i => .int κ (w i)) = true := fits_tab fun _ _ => by simp [fit]
theorem fits_app {n : Nat} {q : SK} {ks : List SK} {f : Nat → EV} (hf : ∀ i, i < n → fit q (f i) = true) : fits (List.replicate n q ++ ks) (tab n f ++ l) = fits ks l := by
  induction n generalizing ks l with
  | zero => simp [tab]
  | succ n ih =>
    rw [tab_succ, List.replicate_succ', List.append_assoc, List.append_assoc, ih (fun i hi => hf i (by omega))]
    simp [fits, hf n (by omega)]
theorem fits_tab_int_app {κ : IntKind} {w : Nat → Int} {ks : List SK} : fits (List.replicate n (.i κ) ++ ks) ((tab n fun i => .int κ (w i)) ++ l) = fits ks l := fits_app fun _ _ => by simp [fit]
end

theorem evLen_str {s : List UInt8} : evLen true (.str s) = some s.length := rfl
theorem evLen_nil : evLen false .nilsl = some 0 := rfl
theorem evLen_imm {sz : Nat} {es : List EV} : evLen false (.imm sz es) = some es.length := rfl
theorem evLen_own {b sz off len : Nat} : evLen false (.own b sz off len) = some len := rfl
theorem evElem_own {sz b bs off len : Nat} {k : Int} : evElem sz k (.own b bs off len) = if sz = bs ∧ 0 ≤ k ∧ k < len then some (.ptr b bs (off + k.toNat) 0) else none := rfl
theorem evElem_imm {sz bs : Nat} {es : List EV} {k : Int} : evElem sz k (.imm bs es) = if sz = bs ∧ 0 ≤ k then (match es[k.toNat]? with | some e => some (.iptr e.cells 0) | none => none) else none := rfl

section
variable {H G : Heap} {i b : Nat} {x : Option EB}
theorem app_get : (H ++ G)[H.length + i]? = G[i]? := by rw [List.getElem?_append_right (by omega)]; congr 1; omega
theorem app_get0 : (H ++ G)[H.length]? = G[0]? := app_get (i := 0)
theorem app_set : (H ++ G).set (H.length + i) x = H ++ G.set i x := by rw [List.set_append_right _ _ (by omega)]; congr 2; omega
theorem app_set0 : (H ++ G).set H.length x = H ++ G.set 0 x := app_set (i := 0)
theorem app_old (h : H[b]? = some x) : (H ++ G)[b]? = some x := by rw [List.getElem?_append_left (List.getElem?_eq_some_iff.1 h).1, h]
end
end Abs
