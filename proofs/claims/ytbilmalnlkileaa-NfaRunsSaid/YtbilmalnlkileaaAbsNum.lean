/- Numbers of Go's kinds. -/
import Derived.Test.YtbilmalnlkileaaAbs14
set_option linter.all false

namespace Abs
open Go

theorem wrap_i64 {x : Int} (h1 : -9223372036854775808 ≤ x) (h2 : x ≤ 9223372036854775807) : IntKind.i64.wrap x = x := by
  unfold IntKind.wrap
  simp only [IntKind.bits, IntKind.signed, Bool.true_and, Nat.reduceSub, Int.reducePow]
  split
  · rename_i h; have := of_decide_eq_true h; omega
  · rename_i h
    have : ¬ (x % 18446744073709551616 ≥ 9223372036854775808) := fun g => h (decide_eq_true g)
    omega

theorem wrap_u64 {x : Int} (h1 : 0 ≤ x) (h2 : x < 18446744073709551616) : IntKind.u64.wrap x = x := by
  unfold IntKind.wrap
  simp only [IntKind.bits, IntKind.signed, Bool.false_and, Bool.false_eq_true, if_false, Int.reducePow]
  omega

theorem wrap_u8 {x : Int} (h1 : 0 ≤ x) (h2 : x < 256) : IntKind.u8.wrap x = x := by
  unfold IntKind.wrap
  simp only [IntKind.bits, IntKind.signed, Bool.false_and, Bool.false_eq_true, if_false, Int.reducePow]
  omega

theorem ofInt_nat {a : Nat} : BitVec.ofInt 64 (a : Int) = BitVec.ofNat 64 a := by
  apply BitVec.eq_of_toInt_eq
  simp

theorem bits_and {a b : Nat} (ha : a < 18446744073709551616) (hb : b < 18446744073709551616) : bitsOp .and .u64 a b = ((a &&& b : Nat) : Int) := by
  have h := Nat.and_lt_two_pow a (n := 64) hb
  have e : (BitVec.ofInt 64 (a : Int) &&& BitVec.ofInt 64 (b : Int)).toNat = a &&& b := by
    rw [ofInt_nat, ofInt_nat, BitVec.toNat_and, BitVec.toNat_ofNat, BitVec.toNat_ofNat, Nat.mod_eq_of_lt ha, Nat.mod_eq_of_lt hb]
  show IntKind.u64.wrap (((BitVec.ofInt 64 (a : Int) &&& BitVec.ofInt 64 (b : Int)).toNat : Nat) : Int) = _
  rw [e, wrap_u64 (by omega) (by omega)]

theorem bits_or {a b : Nat} (ha : a < 18446744073709551616) (hb : b < 18446744073709551616) : bitsOp .or .u64 a b = ((a ||| b : Nat) : Int) := by
  have h := Nat.or_lt_two_pow (n := 64) ha hb
  have e : (BitVec.ofInt 64 (a : Int) ||| BitVec.ofInt 64 (b : Int)).toNat = a ||| b := by
    rw [ofInt_nat, ofInt_nat, BitVec.toNat_or, BitVec.toNat_ofNat, BitVec.toNat_ofNat, Nat.mod_eq_of_lt ha, Nat.mod_eq_of_lt hb]
  show IntKind.u64.wrap (((BitVec.ofInt 64 (a : Int) ||| BitVec.ofInt 64 (b : Int)).toNat : Nat) : Int) = _
  rw [e, wrap_u64 (by omega) (by omega)]

theorem bits_andnot {a b : Nat} (ha : a < 18446744073709551616) (hb : b < 18446744073709551616) : bitsOp .andNot .u64 a b = ((a &&& (18446744073709551615 - b) : Nat) : Int) := by
  have h := Nat.and_lt_two_pow a (n := 64) (show 18446744073709551615 - b < 2 ^ 64 by omega)
  have e : (BitVec.ofInt 64 (a : Int) &&& ~~~ BitVec.ofInt 64 (b : Int)).toNat = a &&& (18446744073709551615 - b) := by
    rw [ofInt_nat, ofInt_nat, BitVec.toNat_and, BitVec.toNat_not, BitVec.toNat_ofNat, BitVec.toNat_ofNat, Nat.mod_eq_of_lt ha, Nat.mod_eq_of_lt hb]
  show IntKind.u64.wrap (((BitVec.ofInt 64 (a : Int) &&& ~~~ BitVec.ofInt 64 (b : Int)).toNat : Nat) : Int) = _
  rw [e, wrap_u64 (by omega) (by omega)]

theorem ite_cast {p : Prop} [Decidable p] {a b : Nat} : (if p then ((a : Nat) : Int) else ((b : Nat) : Int)) = ((if p then a else b : Nat) : Int) := by split <;> rfl

theorem tdiv_lit (b n : Nat) : ((b : Nat) : Int).tdiv (no_index (OfNat.ofNat n)) = ((b / (OfNat.ofNat n) : Nat) : Int) := rfl
theorem tmod_lit (b n : Nat) : ((b : Nat) : Int).tmod (no_index (OfNat.ofNat n)) = ((b % (OfNat.ofNat n) : Nat) : Int) := rfl
theorem add_lit (b n : Nat) : ((b : Nat) : Int) + (no_index (OfNat.ofNat n)) = ((b + (OfNat.ofNat n) : Nat) : Int) := rfl

theorem shl_one {m : Nat} (h : m < 64) : IntKind.u64.wrap (1 * 2 ^ (min m IntKind.u64.bits)) = ((2 ^ m : Nat) : Int) := by
  have h1 : min m IntKind.u64.bits = m := by show min m 64 = m; omega
  have h2 : (2 : Nat) ^ m ≤ 2 ^ 63 := Nat.pow_le_pow_right (by decide) (by omega)
  have h3 : ((2 : Int) ^ m) = ((2 ^ m : Nat) : Int) := by simp
  rw [h1, Int.one_mul, h3]
  generalize 2 ^ m = z at *
  exact wrap_u64 (by omega) (by omega)

end Abs

namespace Abs
open Go

def tab (n : Nat) (f : Nat → EV) : List EV := (List.range n).map f
def put (f : Nat → EV) (k : Nat) (v : EV) : Nat → EV := fun i => if i = k then v else f i

section
variable {n k : Nat} {κ : IntKind} {f g : Nat → EV} {v x : EV} {l : List EV}

theorem put_self : put f k v k = v := by simp [put]
theorem put_other {i : Nat} (h : i ≠ k) : put f k v i = f i := by simp [put, h]

theorem tab_len : (tab n f).length = n := by simp [tab]
theorem tab_get (h : k < n) : (tab n f)[k]? = some (f k) := by simp [tab, h]
theorem tab_congr (h : ∀ i, i < n → f i = g i) : tab n f = tab n g := List.map_congr_left fun i hi => h i (by simpa using hi)
theorem tab_pick (h : k < n) : ((tab n f).drop k).take 1 = [f k] := by
  rw [List.drop_eq_getElem_cons (by rw [tab_len]; exact h)]
  simp [tab]
theorem tab_pick_app (h : k < n) : ((tab n f ++ l).drop k).take 1 = [f k] := by
  rw [List.drop_append_of_le_length (by rw [tab_len]; omega), List.drop_eq_getElem_cons (by rw [tab_len]; exact h)]
  simp [tab]
theorem tab_put (h : k < n) : (tab n f).take k ++ (v :: (tab n f).drop (k + 1)) = tab n (put f k v) := by
  refine List.ext_getElem? fun i => ?_
  have e := splice_get (tab n f) [v] k (by simp [tab_len]; omega) i
  simp only [List.append_assoc, List.singleton_append, List.length_singleton] at e
  rw [e]
  by_cases hi : i < n
  · rw [tab_get hi, tab_get hi]
    by_cases a : i < k
    · rw [if_pos a, put_other (by omega)]
    · rw [if_neg a]
      by_cases b : i < k + 1
      · obtain rfl : i = k := by omega
        rw [if_pos b, put_self]; simp
      · rw [if_neg b, put_other (by omega)]
  · have a1 : (tab n f)[i]? = none := List.getElem?_eq_none (by rw [tab_len]; omega)
    have a2 : (tab n (put f k v))[i]? = none := List.getElem?_eq_none (by rw [tab_len]; omega)
    rw [if_neg (by omega), if_neg (by omega), a1, a2]
theorem tab_put_app (h : k < n) : (tab n f ++ l).take k ++ (v :: (tab n f ++ l).drop (k + 1)) = tab n (put f k v) ++ l := by
  rw [List.take_append_of_le_length (by rw [tab_len]; omega), List.drop_append_of_le_length (by rw [tab_len]; omega), ← List.cons_append, ← List.append_assoc, tab_put h]
theorem tab_take_self : (tab n f ++ l).take n = tab n f := by
  rw [List.take_append_of_le_length (by rw [tab_len]; omega), List.take_of_length_le (by rw [tab_len]; omega)]
theorem tab_take_all (h : n ≤ k) : (tab n f).take k = tab n f := List.take_of_length_le (by rw [tab_len]; exact h)
theorem tab_take_one (h : n + 1 ≤ k) : (tab n f ++ [x]).take k = tab n f ++ [x] := List.take_of_length_le (by simp [tab_len]; omega)
theorem tab_drop_app (h : n ≤ k) : (tab n f ++ l).drop k = l.drop (k - n) := by
  rw [List.drop_append, List.drop_of_length_le (by rw [tab_len]; exact h), tab_len, List.nil_append]
theorem tab_drop_all (h : n ≤ k) : (tab n f).drop k = [] := List.drop_of_length_le (by rw [tab_len]; exact h)

theorem tab_one_int {κ : IntKind} {w : Nat → Int} : (tab n fun i => .int κ (w i)).all EV.one = true := by
  rw [List.all_eq_true]
  intro x hx
  simp only [tab, List.mem_map] at hx
  obtain ⟨i, _, rfl⟩ := hx
  rfl
theorem tab_one_bool {w : Nat → Bool} : (tab n fun i => .bool (w i)).all EV.one = true := by
  rw [List.all_eq_true]
  intro x hx
  simp only [tab, List.mem_map] at hx
  obtain ⟨i, _, rfl⟩ := hx
  rfl
theorem put_int {κ : IntKind} {w : Nat → Int} {a : Int} : put (fun i => .int κ (w i)) k (.int κ a) = fun i => .int κ (if i = k then a else w i) := by
  funext i
  unfold put
  split <;> rfl
theorem put_bool {w : Nat → Bool} {a : Bool} : put (fun i => .bool (w i)) k (.bool a) = fun i => .bool (if i = k then a else w i) := by
  funext i
  unfold put
  split <;> rfl

theorem tab_rep {a : EV} : List.replicate n a = tab n fun _ => a := by
  refine List.ext_getElem? fun i => ?_
  by_cases h : i < n
  · rw [tab_get h]; simp [h]
  · rw [List.getElem?_eq_none (by simp; omega), List.getElem?_eq_none (by rw [tab_len]; omega)]
theorem tab_four {a : EV} : [a, a, a, a] = tab 4 fun _ => a := rfl

theorem tab_succ : tab (n + 1) f = tab n f ++ [f n] := by simp [tab, List.range_succ]

theorem sweep {a b : Nat → Nat} {i : Nat} : (fun j => EV.int κ ((if j = i then a i else if j < i then a j else b j : Nat) : Int)) = fun j => EV.int κ ((if j < i + 1 then a j else b j : Nat) : Int) := by
  funext j
  by_cases h1 : j = i
  · subst h1; simp
  · rw [if_neg h1]
    by_cases h2 : j < i
    · rw [if_pos h2, if_pos (by omega)]
    · rw [if_neg h2, if_neg (by omega)]

theorem tab_lt {a b : Nat → Nat} : (tab n fun i => EV.int κ ((if i < n then a i else b i : Nat) : Int)) = tab n fun i => EV.int κ ((a i : Nat) : Int) := tab_congr fun i hi => by rw [if_pos hi]

/-- Equality of tables of numbers. -/
theorem fits_rep {q : SK} {ks : List SK} : ∀ {n : Nat} {f : Nat → EV}, (∀ i, i < n → fit q (f i) = true) → fits ks l = true → fits (List.replicate n q ++ ks) (tab n f ++ l) = true := by
  intro n
  induction n generalizing ks l with
  | zero => intro f _ h; simpa [tab] using h
  | succ n ih =>
    intro f hf h
    rw [tab_succ, List.replicate_succ', List.append_assoc, List.append_assoc]
    exact ih (fun i hi => hf i (by omega)) (by simp [fits, hf n (by omega), h])
theorem fits_tab {q : SK} {f : Nat → EV} (h : ∀ i, i < n → fit q (f i) = true) : fits (List.replicate n q) (tab n f) = true := by
  have := fits_rep (ks := []) (l := []) h rfl
  simpa using this
theorem eqL_app {a b c d : List EV} (h : a.length = b.length) : eqL (a ++ c) (b ++ d) = (eqL a b && eqL c d) := by
  induction a generalizing b with
  | nil => cases b with
    | nil => simp [eqL]
    | cons y b => simp at h
  | cons x a ih => cases b with
    | nil => simp at h
    | cons y b => simp only [List.cons_append, eqL, ih (by simpa using h), Bool.and_assoc]
/-- Are the first n numbers of two rows alike? -/
def allEq (n : Nat) (u w : Nat → Int) : Bool := (List.range n).all fun i => u i == w i
theorem allEq_iff {u w : Nat → Int} : allEq n u w = true ↔ ∀ i, i < n → u i = w i := by
  simp [allEq, List.all_eq_true]
theorem eqL_tab {κ κ' : IntKind} {u w : Nat → Int} : ∀ {n : Nat}, eqL (tab n fun i => .int κ (u i)) (tab n fun i => .int κ' (w i)) = allEq n u w
  | 0 => by simp [tab, eqL, allEq]
  | n + 1 => by
    rw [tab_succ, tab_succ, eqL_app (by simp [tab_len]), eqL_tab]
    simp [eqL, sceq, allEq, List.range_succ, List.all_append]
theorem eqL_tab_app {κ κ' : IntKind} {u w : Nat → Int} {c d : List EV} : eqL ((tab n fun i => .int κ (u i)) ++ c) ((tab n fun i => .int κ' (w i)) ++ d) = (allEq n u w && eqL c d) := by
  rw [eqL_app (by simp [tab_len]), eqL_tab]
theorem fits_tab_int {κ : IntKind} {w : Nat → Int} : fits (List.replicate n (.i κ)) (tab n fun i => .int κ (w i)) = true := fits_tab fun _ _ => by simp [fit]
theorem fits_app {n : Nat} {q : SK} {ks : List SK} {f : Nat → EV} (hf : ∀ i, i < n → fit q (f i) = true) : fits (List.replicate n q ++ ks) (tab n f ++ l) = fits ks l := by
  induction n generalizing ks l with
  | zero => simp [tab]
  | succ n ih =>
    rw [tab_succ, List.replicate_succ', List.append_assoc, List.append_assoc, ih (fun i hi => hf i (by omega))]
    simp [fits, hf n (by omega)]
theorem fits_tab_int_app {κ : IntKind} {w : Nat → Int} {ks : List SK} : fits (List.replicate n (.i κ) ++ ks) ((tab n fun i => .int κ (w i)) ++ l) = fits ks l := fits_app fun _ _ => by simp [fit]
end

theorem evLen_str {s : List UInt8} : evLen true (.str s) = some s.length := rfl
theorem evLen_nil : evLen false .nilsl = some 0 := rfl
theorem evLen_imm {sz : Nat} {es : List EV} : evLen false (.imm sz es) = some es.length := rfl
theorem evLen_own {b sz off len : Nat} : evLen false (.own b sz off len) = some len := rfl
theorem evElem_own {sz b bs off len : Nat} {k : Int} : evElem sz k (.own b bs off len) = if sz = bs ∧ 0 ≤ k ∧ k < len then some (.ptr b bs (off + k.toNat) 0) else none := rfl
theorem evElem_imm {sz bs : Nat} {es : List EV} {k : Int} : evElem sz k (.imm bs es) = if sz = bs ∧ 0 ≤ k then (match es[k.toNat]? with | some e => some (.iptr e.cells 0) | none => none) else none := rfl

section
variable {H G : Heap} {i b : Nat} {x : Option EB}
theorem app_get : (H ++ G)[H.length + i]? = G[i]? := by rw [List.getElem?_append_right (by omega)]; congr 1; omega
theorem app_get0 : (H ++ G)[H.length]? = G[0]? := app_get (i := 0)
theorem app_set : (H ++ G).set (H.length + i) x = H ++ G.set i x := by rw [List.set_append_right _ _ (by omega)]; congr 2; omega
theorem app_set0 : (H ++ G).set H.length x = H ++ G.set 0 x := app_set (i := 0)
theorem app_old (h : H[b]? = some x) : (H ++ G)[b]? = some x := by rw [List.getElem?_append_left (List.getElem?_eq_some_iff.1 h).1, h]
end
end Abs

namespace Abs
open Go

mutual
theorem EV.ok_mono {n m : Nat} (h : n ≤ m) : ∀ (x : EV), x.ok n = true → x.ok m = true
  | .undef, _ => rfl
  | .bool _, _ => rfl
  | .int _ _, _ => rfl
  | .str _, _ => rfl
  | .nilptr, _ => rfl
  | .ptr _ _ _ _, g => by simp [EV.ok] at g ⊢; omega
  | .iptr cs _, g => by simp only [EV.ok] at g ⊢; exact okL_mono h cs g
  | .nilsl, _ => rfl
  | .zsl, _ => rfl
  | .imm _ es, g => by simp only [EV.ok] at g ⊢; exact okL_mono h es g
  | .own _ _ _ _, g => by simp [EV.ok] at g ⊢; omega
  | .nilfn, _ => rfl
  | .func _ a b, g => by simp only [EV.ok, Bool.and_eq_true] at g ⊢; exact ⟨okL_mono h a g.1, okL_mono h b g.2⟩
  | .nilif, _ => rfl
  | .iface _ v, g => by simp only [EV.ok] at g ⊢; exact EV.ok_mono h v g
  | .nilmap, _ => rfl
  | .map _, g => by simp [EV.ok] at g ⊢; omega
  | .agg cs, g => by simp only [EV.ok] at g ⊢; exact okL_mono h cs g
  | .tup cs, g => by simp only [EV.ok] at g ⊢; exact okL_mono h cs g
theorem okL_mono {n m : Nat} (h : n ≤ m) : ∀ (l : List EV), okL n l = true → okL m l = true
  | [], _ => rfl
  | x :: l, g => by simp only [okL, Bool.and_eq_true] at g ⊢; exact ⟨EV.ok_mono h x g.1, okL_mono h l g.2⟩
end

theorem EB.ok_mono {n m : Nat} (h : n ≤ m) (x : EB) (g : x.ok n = true) : x.ok m = true := by
  cases x with
  | row sz es => simp only [EB.ok] at g ⊢; exact okL_mono h es g
  | map es =>
    simp only [EB.ok, List.all_eq_true, Bool.and_eq_true] at g ⊢
    exact fun e he => ⟨EV.ok_mono h _ (g e he).1, EV.ok_mono h _ (g e he).2⟩
  | it s p => rfl

theorem okL_app {n : Nat} {a b : List EV} : okL n (a ++ b) = (okL n a && okL n b) := by
  induction a with
  | nil => simp [okL]
  | cons x a ih => simp [okL, ih, Bool.and_assoc]
theorem okL_tab {n m : Nat} {f : Nat → EV} (h : ∀ i, i < n → (f i).ok m = true) : okL m (tab n f) = true := by
  rw [okL_iff]
  intro x hx
  simp only [tab, List.mem_map, List.mem_range] at hx
  obtain ⟨i, hi, rfl⟩ := hx
  exact h i hi
theorem okL_tab_int {n m : Nat} {κ : IntKind} {w : Nat → Int} : okL m (tab n fun i => .int κ (w i)) = true := okL_tab fun _ _ => rfl
theorem okL_tab_bool {n m : Nat} {w : Nat → Bool} : okL m (tab n fun i => .bool (w i)) = true := okL_tab fun _ _ => rfl

def okG (n : Nat) : Heap → Bool
  | [] => true
  | none :: G => okG n G
  | some x :: G => x.ok n && okG n G

theorem okG_get {n : Nat} : ∀ {G : Heap}, okG n G = true → ∀ (b : Nat) (x : EB), G[b]? = some (some x) → x.ok n = true
  | [], _, b, x, h => by simp at h
  | none :: G, g, 0, x, h => by simp at h
  | none :: G, g, b + 1, x, h => okG_get (G := G) g b x (by simpa using h)
  | some y :: G, g, 0, x, h => by simp at h; subst h; simp only [okG, Bool.and_eq_true] at g; exact g.1
  | some y :: G, g, b + 1, x, h => by simp only [okG, Bool.and_eq_true] at g; exact okG_get (G := G) g.2 b x (by simpa using h)

theorem okH_app {H G : Heap} (h : OkH H) (g : okG (H.length + G.length) G = true) : OkH (H ++ G) := by
  intro b x hx
  by_cases hb : b < H.length
  · rw [List.getElem?_append_left hb] at hx
    exact EB.ok_mono (by simp) x (h b x hx)
  · rw [List.getElem?_append_right (by omega)] at hx
    rw [List.length_append]
    exact okG_get g _ x hx

theorem okH_nil {G : Heap} (g : okG G.length G = true) : OkH G := by
  have := okH_app (H := []) (G := G) (fun b x h => by simp at h) (by simpa using g)
  simpa using this

section
variable {P : Program} {γ : Nat → EV} {Inv : Nat → Slots → Heap → Prop} {m n0 : Nat} {s : Slots} {H : Heap}

def slotsAre (s : Slots) (n : Nat) : List (Nat × EV) → Prop
  | [] => True
  | p :: l => (s p.1 = p.2 ∧ p.2.ok n = true) ∧ slotsAre s n l

theorem slotsAre_mem {s : Slots} {n : Nat} : ∀ {l : List (Nat × EV)}, slotsAre s n l → ∀ p ∈ l, s p.1 = p.2 ∧ p.2.ok n = true
  | [], _, p, h => by simp at h
  | q :: l, g, p, h => by
    rcases List.mem_cons.1 h with rfl | h
    · exact g.1
    · exact slotsAre_mem g.2 p h

/-- A round that keeps the blocks. -/
theorem round_keep (m1 : Nat) (l : List (Nat × EV)) (hm : m1 < m) (hn : n0 ≤ H.length) (hok : OkH H) (hs : slotsAre s H.length l) (h : Inv m1 (mkS l) H) : Hands Inv m n0 s H :=
  round_end m1 l H.length hm hn (slotsAre_mem hs) (fun b x _ hx => hok b x hx) (by rwa [List.take_of_length_le (Nat.le_refl _)])

/-- .. that lets go of blocks that it made. -/
theorem round_drop {G : Heap} (m1 : Nat) (l : List (Nat × EV)) (hm : m1 < m) (hn : n0 ≤ H.length) (hok : OkH H) (hs : slotsAre s H.length l) (h : Inv m1 (mkS l) H) : Hands Inv m n0 s (H ++ G) :=
  round_end m1 l H.length hm hn (slotsAre_mem hs) (fun b x hb hx => hok b x (by rwa [List.getElem?_append_left hb] at hx)) (by rwa [List.take_left])

/-- A loop whose head's slots are a row. -/
theorem wpc_loop' {Q : AX → Slots → Heap → Prop} {c : EC} (Inv : Nat → Slots → Heap → Prop) (m0 : Nat) (l : List (Nat × EV)) (hl : slotsAre s H.length l) (h0 : Inv m0 (mkS l) H)
    (h : ∀ m s' H', Inv m s' H' → ∀ (K : Slots → Heap → Prop) (Q' : AX → Slots → Heap → Prop), (∀ s1 H1, Hands Inv m H.length s1 H1 → K s1 H1) → (∀ x s1 H1, Q x s1 H1 → Q' x s1 H1) → wpc P γ c (thenA K Q') s' H') :
    wpc P γ (.loop c) Q s H :=
  wpc_loop Inv m0 l (fun p hp => (slotsAre_mem hl p hp).1) h0 h

end
end Abs
namespace Abs
open Go
section
variable {P : Program} {γ : Nat → EV} {s : Slots} {H : Heap} {Q : AX → Slots → Heap → Prop} {c : EC}

theorem wpc_true {c : EOpd} {a b : EC} (hc : ev γ s c = .bool true) (h : wpc P γ a Q s H) : wpc P γ (.cond c a b) Q s H := wpc_cond hc (fun _ => h) (fun e => by simp at e)
theorem wpc_false {c : EOpd} {a b : EC} (hc : ev γ s c = .bool false) (h : wpc P γ b Q s H) : wpc P γ (.cond c a b) Q s H := wpc_cond hc (fun e => by simp at e) (fun _ => h)

theorem wops_unguard {g : Nat} {b : Bool} {d : Option Nat} {op : EOp} {rest : List EOper} (hg : s g = .bool b) (h : wops P γ Q ({ dst := d, op := op } :: rest) s H) : wops P γ Q ({ dst := d, op := op, guard := some (g, b) } :: rest) s H := by
  simp only [wops] at h ⊢
  rw [hg]
  simpa using h
theorem wops_leave {g : Nat} {b t : Bool} {d : Option Nat} {op : EOp} {rest : List EOper} (hg : s g = .bool t) (ht : (t == b) = false) (h : wops P γ Q rest (putA s d (.tup [])) H) : wops P γ Q ({ dst := d, op := op, guard := some (g, b) } :: rest) s H := by
  simp only [wops]
  rw [hg]
  have : ¬ t = b := by simpa using ht
  simpa [this] using h
theorem wdr_unguard {g : Nat} {b c : Bool} {d : Option Nat} {op : EOp} {rest : List (EOper × Bool)} (hg : s g = .bool b) (h : wdr P γ Q (({ dst := d, op := op }, c) :: rest) s H) : wdr P γ Q (({ dst := d, op := op, guard := some (g, b) }, c) :: rest) s H := by
  obtain ⟨v, H', h1, h2, h3⟩ := h
  refine ⟨v, H', ?_, h2, h3⟩
  exact .inl ⟨b, hg, fun _ => h1, fun e => absurd rfl e⟩
theorem wdr_leave {g : Nat} {b t c : Bool} {d : Option Nat} {op : EOp} {rest : List (EOper × Bool)} (hg : s g = .bool t) (ht : (t == b) = false) (h : wdr P γ Q rest (putA s d (.tup [])) H) : wdr P γ Q (({ dst := d, op := op, guard := some (g, b) }, c) :: rest) s H := by
  refine ⟨.tup [], H, .inl ⟨t, hg, fun e => ?_, fun _ => ⟨rfl, rfl⟩⟩, fun _ => rfl, h⟩
  subst e
  simp at ht

theorem wops_gone {g : Nat} {b : Bool} {d : Option Nat} {op : EOp} {rest : List EOper} (hg : s g = .tup []) (h : wops P γ Q rest (putA s d (.tup [])) H) : wops P γ Q ({ dst := d, op := op, guard := some (g, b) } :: rest) s H := by
  simp only [wops]
  rw [hg]
  exact h
theorem wdr_gone {g : Nat} {b c : Bool} {d : Option Nat} {op : EOp} {rest : List (EOper × Bool)} (hg : s g = .tup []) (h : wdr P γ Q rest (putA s d (.tup [])) H) : wdr P γ Q (({ dst := d, op := op, guard := some (g, b) }, c) :: rest) s H :=
  ⟨.tup [], H, .inr ⟨hg, rfl, rfl⟩, fun _ => rfl, h⟩

def gate : Bool → Prop → Prop → Prop
  | true, a, _ => a
  | false, _, b => b

theorem gate_tt {a b : Prop} (h : a) : gate (true == true) a b := h
theorem gate_ff {a b : Prop} (h : a) : gate (false == false) a b := h
theorem gate_tf {a b : Prop} (h : b) : gate (true == false) a b := h
theorem gate_ft {a b : Prop} (h : b) : gate (false == true) a b := h
theorem gate_t {a b : Prop} (h : a) : gate true a b := h
theorem gate_f {a b : Prop} (h : b) : gate false a b := h
theorem lit_t : EV.bool true = EV.bool true := rfl
theorem lit_f : EV.bool false = EV.bool false := rfl
theorem keep_same {c : Bool} : c = false → H = H := fun _ => rfl
theorem keep_rfl {c : Bool} {A B : Heap} (h : A = B) : c = false → A = B := fun _ => h
theorem keep_true {p : Prop} : true = false → p := fun h => Bool.noConfusion h

theorem wpc_test {c : EOpd} {a b : EC} {t : Bool} (hc : ev γ s c = .bool t) (h : gate t (wpc P γ a Q s H) (wpc P γ b Q s H)) : wpc P γ (.cond c a b) Q s H :=
  wpc_cond hc (fun e => by subst e; exact h) (fun e => by subst e; exact h)
theorem wops_guard {g : Nat} {t b : Bool} {d : Option Nat} {op : EOp} {rest : List EOper} (hg : s g = .bool t) (h : gate (t == b) (wops P γ Q ({ dst := d, op := op } :: rest) s H) (wops P γ Q rest (putA s d (.tup [])) H)) :
    wops P γ Q ({ dst := d, op := op, guard := some (g, b) } :: rest) s H := by
  cases t <;> cases b
  · exact wops_unguard hg h
  · exact wops_leave hg rfl h
  · exact wops_leave hg rfl h
  · exact wops_unguard hg h
theorem wdr_guard {g : Nat} {t b c : Bool} {d : Option Nat} {op : EOp} {rest : List (EOper × Bool)} (hg : s g = .bool t) (h : gate (t == b) (wdr P γ Q (({ dst := d, op := op }, c) :: rest) s H) (wdr P γ Q rest (putA s d (.tup [])) H)) :
    wdr P γ Q (({ dst := d, op := op, guard := some (g, b) }, c) :: rest) s H := by
  cases t <;> cases b
  · exact wdr_unguard hg h
  · exact wdr_leave hg rfl h
  · exact wdr_leave hg rfl h
  · exact wdr_unguard hg h

/-- A loop by its states: 'J' those that may be, 'μ' what falls, 'S' the slots, 'Hp' the heap. -/
theorem wpc_while {ι : Type} (J : ι → Prop) (μ : ι → Nat) (S : ι → List (Nat × EV)) (Hp : ι → Heap) (i0 : ι) (hJ : J i0) (hl : slotsAre s H.length (S i0)) (hH : H = Hp i0)
    (hok : ∀ i, J i → OkH (Hp i)) (hlen : ∀ j, J j → H.length ≤ (Hp j).length)
    (h : ∀ i, J i → ∀ (K : Slots → Heap → Prop) (Q' : AX → Slots → Heap → Prop), (∀ j s1 H1 G, J j → μ j < μ i → H1 = Hp j ++ G → slotsAre s1 (Hp j).length (S j) → K s1 H1) → (∀ x s1 H1, Q x s1 H1 → Q' x s1 H1) →
      wpc P γ c (thenA K Q') (mkS (S i)) (Hp i)) :
    wpc P γ (.loop c) Q s H := by
  refine wpc_loop' (fun m s H => ∃ i, J i ∧ m = μ i ∧ s = mkS (S i) ∧ H = Hp i) (μ i0) (S i0) hl ⟨i0, hJ, rfl, rfl, hH⟩ ?_
  rintro m s' H' ⟨i, hi, rfl, rfl, rfl⟩ K Q' hK hQ'
  refine h i hi K Q' (fun j s1 H1 G hj hlt e hs => hK _ _ ?_) hQ'
  subst e
  exact round_drop (μ j) (S j) hlt (hlen j hj) (hok j hj) hs ⟨j, hj, rfl, rfl, rfl⟩
end
end Abs

namespace Abs
open Go
theorem shl_one' {m : Nat} (h : m < 64) : IntKind.u64.wrap (1 * 2 ^ (min m 64)) = ((2 ^ m : Nat) : Int) := shl_one h
attribute [go_sem ↓] List.all_cons List.all_nil List.map_cons List.map_nil fits_tab_int fits_tab_int_app eqL_tab eqL_tab_app evOp ev upd putA_some putA_none slots0 mkS
attribute [go_sem] EV.cells EV.one evLoad evStore evBin evUn evAdd evElem_own evElem_imm evCut evBounds evBound evLen_str evLen_nil evLen_imm evLen_own evNil pack withCells fits fit eqL sceq fillCells if_true if_false Nat.zero_ne_one Nat.one_ne_zero ne_eq not_true_eq_false not_false_eq_true Int.toNat_natCast Int.natCast_zero Int.ofNat_zero List.foldl_cons List.foldl_nil List.set_cons_zero List.set_cons_succ List.replicate_succ List.replicate_zero List.getElem?_cons_succ List.getElem?_cons_zero List.getElem?_nil Option.getD_some Option.getD_none Option.map_some Option.map_none List.length_cons List.length_nil List.length_append List.nil_append List.cons_append List.append_nil List.append_assoc List.take_succ_cons List.take_zero List.take_nil List.drop_succ_cons List.drop_zero List.drop_nil List.headD_cons Nat.zero_add Nat.add_zero Nat.zero_mul Nat.mul_zero Nat.mul_one Nat.one_mul Nat.zero_le Nat.lt_irrefl Nat.lt_add_one Bool.and_true Bool.true_and Bool.and_false Bool.false_and Bool.and_self Bool.or_true Bool.or_false Bool.true_or Bool.false_or Bool.not_true Bool.not_false Bool.false_eq_true Bool.and_eq_true decide_eq_true_eq decide_true decide_false and_self and_true true_and beq_self_eq_true beq_iff_eq List.length_set Nat.lt_add_left_iff_pos Nat.zero_lt_succ tab_len tab_pick tab_pick_app tab_put tab_put_app tab_take_self tab_take_all tab_take_one tab_drop_app tab_drop_all tab_one_int tab_one_bool put_int put_bool ite_cast tab_lt tdiv_lit tmod_lit shl_one app_get app_get0 app_set app_set0 List.all_append wrap_i64 wrap_u64 wrap_u8
attribute [go_sem] shl_one'
end Abs
