/- A part. -/
import Derived.Test.YtddgppmcbjjliaaGreatDoorCqD
import Derived.Test.YtddgppmcbjjliaaGreatDoorClassA
import Derived.Test.YtddgppmcbjjliaaGreatDoorAbsGrow
set_option linter.all false
namespace Abs
open Go
set_option maxRecDepth 20000
def dfc (of : Nat → Nat) (n : Int) (x1 x2 : EV) : List EV := tab 256 (fun i => .int .u8 ((of i : Nat) : Int)) ++ [.int .i64 n] ++ [x1, x2]
structure DF where
 (of : Nat → Nat)
 (n : Int)
 (x1 x2 : EV)
 (rx : List EV)
 (rows : List (List Int))
 (tags : List Int)
 hof : ∀ b, b < 256 → of b < 256
 h1 : SlV 1 x1 rx
 hl : rx.length = rows.length
 hr : ∀ (i : Nat) (y : EV) (l : List Int), rx[i]? = some y → rows[i]? = some l → IntsV y l
 h2 : IntsV x2 tags
def DF.E (d : DF) : EV := .agg (dfc d.of d.n d.x1 d.x2)
theorem DF.k1 (d : DF) : evLen false d.x1 = some d.rows.length := by rw [d.h1.len, d.hl]
theorem DF.k2 (d : DF) : evLen false d.x2 = some d.tags.length := d.h2.lenI
theorem DF.le (d : DF) : d.rows.length ≤ 9223372036854775807 := by rw [← d.hl]; exact d.h1.le
theorem DF.row (d : DF) {i : Nat} {l : List Int} (h : d.rows[i]? = some l) : ∃ y, d.rx[i]? = some y ∧ IntsV y l ∧ evElem 1 (i : Int) d.x1 = some (.iptr [y] 0) := by
 obtain ⟨y, hy⟩ := get_some (l := d.rx) (i := i) (by rw [d.hl]; exact (List.getElem?_eq_some_iff.1 h).1)
 have hv := d.hr i y l hy h
 refine ⟨y, hy, hv, ?_⟩
 have := d.h1.elem i y hy
 rwa [hv.one.1] at this
theorem DF.rowI (d : DF) {k : Int} {l : List Int} (h0 : 0 ≤ k) (h : d.rows[k.toNat]? = some l) : ∃ y, d.rx[k.toNat]? = some y ∧ IntsV y l ∧ evElem 1 k d.x1 = some (.iptr [y] 0) := by
 have := d.row h
 rwa [Int.toNat_of_nonneg h0] at this
theorem DF.one (d : DF) : d.x1.one = true ∧ d.x2.one = true := ⟨d.h1.one.2, d.h2.one.2⟩
section
variable {of : Nat → Nat} {n : Int} {x1 x2 v : EV}
theorem dfc_len : (dfc of n x1 x2).length = 259 := by simp [dfc, tab_len]
theorem dfc_take (k : Nat) (h : 259 ≤ k) : (dfc of n x1 x2).take k = dfc of n x1 x2 := List.take_of_length_le (by rw [dfc_len]; exact h)
theorem dfc_cls : (dfc of n x1 x2).take 257 = tab 256 (fun i => .int .u8 ((of i : Nat) : Int)) ++ [.int .i64 n] := by
 unfold dfc
 rw [List.take_append_of_le_length (by simp [tab_len]), List.take_of_length_le (by simp [tab_len])]
theorem pick_of {c : List EV} {i : Nat} {v : EV} (h : c[i]? = some v) : (c.drop i).take 1 = [v] := by rw [drop_get h]; rfl
theorem dfc_n : ((dfc of n x1 x2).drop 256).take 1 = [.int .i64 n] := pick_of (by
 unfold dfc
 rw [List.getElem?_append_left (by simp [tab_len]), List.getElem?_append_right (by simp [tab_len])]
 simp [tab_len])
theorem dfc_x1 : ((dfc of n x1 x2).drop 257).take 1 = [x1] := pick_of (by
 unfold dfc
 rw [List.getElem?_append_right (by simp [tab_len])]
 simp [tab_len])
theorem dfc_x2 : ((dfc of n x1 x2).drop 258).take 1 = [x2] := pick_of (by
 unfold dfc
 rw [List.getElem?_append_right (by simp [tab_len])]
 simp [tab_len])
theorem dfc_of {b : Nat} (h : b < 256) : ((dfc of n x1 x2).drop b).take 1 = [.int .u8 (of b)] := pick_of (by
 unfold dfc
 rw [List.append_assoc, List.getElem?_append_left (by simpa [tab_len] using h), tab_get h])
end
section
variable {E : Env} [R : DfaR E]
theorem within_den (n a b : Int) (H : Heap) : den E R.n_dfa_within [.int .i64 n, .int .i64 a, .int .i64 b] H = some (.ret (.bool (decide (a ≤ n) && decide (n ≤ b))), H) := by
 refine den_of R.d_dfa_within (by simp) ?_
 unfold Gn.dfa_within Gn.dfa_within_r
 by_cases h1 : a ≤ n
 ·by_cases h2 : n ≤ b
  ·repeat' first | (simp (disch := first | omega | assumption) only [go_sem, ↓reduceIte, simprocAttr, *]) | refine HG_split (fun hb=>?_) fun hb=>?_ | refine HC_split (fun hb=>?_) fun hb=>?_
   all_goals (try simp only [FX] at *)
   all_goals first | omega | skip
   refine finV_same rfl ?_
   simp [h1, h2]
  ·repeat' first | (simp (disch := first | omega | assumption) only [go_sem, ↓reduceIte, simprocAttr, *]) | refine HG_split (fun hb=>?_) fun hb=>?_ | refine HC_split (fun hb=>?_) fun hb=>?_
   all_goals (try simp only [FX] at *)
   all_goals first | omega | skip
   refine finV_same rfl ?_
   simp [h1, h2]
 ·repeat' first | (simp (disch := first | omega | assumption) only [go_sem, ↓reduceIte, simprocAttr, *]) | refine HG_split (fun hb=>?_) fun hb=>?_ | refine HC_split (fun hb=>?_) fun hb=>?_
  all_goals (try simp only [FX] at *)
  all_goals first | omega | skip
  refine finV_same rfl ?_
  simp [h1]
theorem DF.all (d : DF) : (dfc d.of d.n d.x1 d.x2).all EV.one = true := by
 obtain ⟨o1, o2⟩ := d.one
 rw [List.all_eq_true]
 intro x hx
 simp only [dfc, List.mem_append, List.mem_cons, List.not_mem_nil, or_false] at hx
 rcases hx with (hx | rfl) | rfl | rfl
 ·obtain ⟨i, hi, e⟩ := List.mem_iff_getElem.1 hx
  rw [tab_len] at hi
  have := tab_get (f := fun i => EV.int .u8 ((d.of i : Nat) : Int)) hi
  rw [List.getElem?_eq_getElem (by rw [tab_len]; exact hi), e] at this
  rw [Option.some.inj this]; rfl
 ·rfl
 ·exact o1
 ·exact o2
def DF.nxt (d : DF) (k : Int) (b : Nat) : Int := ((d.rows.getD k.toNat []).getD (d.of b) 0)
def DF.stepF (d : DF) (k : Int) (b : Nat) : Int := if 0 ≤ k ∧ k < d.rows.length then d.nxt k b else -1
def DF.Wide (d : DF) : Prop := ∀ l ∈ d.rows, ∀ b, b < 256 → d.of b < l.length
theorem refStep_den (d : DF) (k : Int) (b : Nat) (hb : b < 256) (hw : d.Wide) (H : Heap) : den E R.n_hackleref09_Step [d.E, .int .i64 k, .int .u8 b] H = some (.ret (.int .i64 (d.stepF k b)), H) := by
 have k1 := d.k1
 have hle := d.le
 obtain ⟨o1, o2⟩ := d.one
 unfold EV.one at o1 o2
 refine den_of R.d_hackleref09_Step (by simp) ?_
 unfold Gn.hackleref09_Step Gn.hackleref09_Step_r DF.E
 have hA := d.all
 have hL := dfc_len (of := d.of) (n := d.n) (x1 := d.x1) (x2 := d.x2)
 by_cases h : 0 ≤ k ∧ k < d.rows.length
 ·obtain ⟨h0, hk⟩ := h
  obtain ⟨l, hl⟩ := get_some (l := d.rows) (i := k.toNat) (by omega)
  obtain ⟨y, hy, hv, hat⟩ := d.rowI h0 hl
  have hlw := hw l (List.mem_of_getElem? hl) b hb
  obtain ⟨v, hvv⟩ := get_some hlw
  have hat2 := hv.at hvv
  have hob := d.hof b hb
  have hcell := dfc_of (of := d.of) (n := d.n) (x1 := d.x1) (x2 := d.x2) hb
  have hx1 := dfc_x1 (of := d.of) (n := d.n) (x1 := d.x1) (x2 := d.x2)
  have ho := hv.one.2
  unfold EV.one at ho
  have hs : d.stepF k b = v := by
   unfold DF.stepF DF.nxt
   rw [if_pos ⟨h0, hk⟩]
   simp [List.getD_eq_getElem?_getD, hl, hvv]
  rw [hs]
  clear hs hl hy hvv
  repeat' first | (simp (disch := first | omega | assumption) only [go_sem, ↓reduceIte, simprocAttr, *]) | refine HG_split (fun hb=>?_) fun hb=>?_ | refine HC_split (fun hb=>?_) fun hb=>?_
  all_goals (try simp only [FX] at *)
  all_goals first
   | omega
   | exact finV_drop rfl rfl
   | skip
 ·have hs : d.stepF k b = -1 := by unfold DF.stepF; rw [if_neg h]
  have hx1 := dfc_x1 (of := d.of) (n := d.n) (x1 := d.x1) (x2 := d.x2)
  rw [hs]
  clear hs
  by_cases h0 : 0 ≤ k
  ·repeat' first | (simp (disch := first | omega | assumption) only [go_sem, ↓reduceIte, simprocAttr, *]) | refine HG_split (fun hb=>?_) fun hb=>?_ | refine HC_split (fun hb=>?_) fun hb=>?_
   all_goals (try simp only [FX] at *)
   all_goals first
    | omega
    | exact finV_drop rfl rfl
    | skip
  ·repeat' first | (simp (disch := first | omega | assumption) only [go_sem, ↓reduceIte, simprocAttr, *]) | refine HG_split (fun hb=>?_) fun hb=>?_ | refine HC_split (fun hb=>?_) fun hb=>?_
   all_goals (try simp only [FX] at *)
   all_goals first
    | omega
    | exact finV_drop rfl rfl
    | skip
end
theorem DF.facts (d : DF) : evLen false d.x1 = some d.rows.length ∧ evLen false d.x2 = some d.tags.length ∧ d.rows.length ≤ 9223372036854775807 ∧ d.tags.length ≤ 9223372036854775807 ∧ d.x1.one = true ∧ d.x2.one = true ∧
  (dfc d.of d.n d.x1 d.x2).all EV.one = true ∧ (dfc d.of d.n d.x1 d.x2).length = 259 ∧ ((dfc d.of d.n d.x1 d.x2).drop 257).take 1 = [d.x1] ∧ ((dfc d.of d.n d.x1 d.x2).drop 258).take 1 = [d.x2] ∧
  ((dfc d.of d.n d.x1 d.x2).drop 256).take 1 = [.int .i64 d.n] ∧ (dfc d.of d.n d.x1 d.x2).take 259 = dfc d.of d.n d.x1 d.x2 :=
 ⟨d.k1, d.k2, d.le, d.h2.leI, d.one.1, d.one.2, d.all, dfc_len, dfc_x1, dfc_x2, dfc_n, dfc_take 259 (by omega)⟩
def DF.runF (d : DF) (s : List UInt8) : Int := s.foldl (fun k b => d.stepF k b.toNat) (if d.rows = [] then -1 else 0)
section
variable {E : Env} [R : DfaR E]
theorem step_den (d : DF) (k : Int) (b : Nat) (hb : b < 256) (hw : d.Wide) (H : Heap) : den E R.n_dfa_Dfa_step [d.E, .int .i64 k, .int .u8 b] H = some (.ret (.int .i64 (d.stepF k b)), H) := by
 obtain ⟨k1, k2, hle, hle2, o1, o2, hA, hL, hx1, hx2, hn, htk⟩ := d.facts
 unfold EV.one at o1 o2
 refine den_of R.d_dfa_Dfa_step (by simp) ?_
 unfold Gn.dfa_Dfa_step Gn.dfa_Dfa_step_r DF.E
 have hwi := fun H => within_den (R := R) k 0 ((d.rows.length : Int) - 1) H
 clear k2 hle2 hx2 hn htk
 by_cases h : 0 ≤ k ∧ k < d.rows.length
 ·obtain ⟨h0, hk⟩ := h
  obtain ⟨l, hl⟩ := get_some (l := d.rows) (i := k.toNat) (by omega)
  obtain ⟨y, hy, hv, hat⟩ := d.rowI h0 hl
  have hlw := hw l (List.mem_of_getElem? hl) b hb
  obtain ⟨v, hvv⟩ := get_some hlw
  have hat2 := hv.at hvv
  have hob := d.hof b hb
  have hcell := dfc_of (of := d.of) (n := d.n) (x1 := d.x1) (x2 := d.x2) hb
  have ho := hv.one.2
  unfold EV.one at ho
  have hs : d.stepF k b = v := by
   unfold DF.stepF DF.nxt
   rw [if_pos ⟨h0, hk⟩]
   simp [List.getD_eq_getElem?_getD, hl, hvv]
  have e1 : decide (0 ≤ k) = true := decide_eq_true h0
  have e2 : decide (k ≤ (d.rows.length : Int) - 1) = true := decide_eq_true (by omega)
  rw [e1, e2] at hwi
  simp only [Bool.and_self] at hwi
  rw [hs]
  clear hs hl hy hvv e1 e2
  repeat' first | (simp (disch := first | omega | assumption) only [go_sem, ↓reduceIte, simprocAttr, *]) | refine HG_split (fun hb=>?_) fun hb=>?_ | refine HC_split (fun hb=>?_) fun hb=>?_
  all_goals (try simp only [FX] at *)
  all_goals first
   | omega
   | exact finV_drop rfl rfl
   | skip
 ·have hs : d.stepF k b = -1 := by unfold DF.stepF; rw [if_neg h]
  have e1 : (decide (0 ≤ k) && decide (k ≤ (d.rows.length : Int) - 1)) = false := by
   rw [Bool.and_eq_false_iff]
   by_cases h0 : 0 ≤ k
   ·exact .inr (decide_eq_false (by omega))
   ·exact .inl (decide_eq_false h0)
  rw [e1] at hwi
  rw [hs]
  clear hs e1
  repeat' first | (simp (disch := first | omega | assumption) only [go_sem, ↓reduceIte, simprocAttr, *]) | refine HG_split (fun hb=>?_) fun hb=>?_ | refine HC_split (fun hb=>?_) fun hb=>?_
  all_goals (try simp only [FX] at *)
  all_goals first
   | omega
   | exact finV_drop rfl rfl
   | skip
end
theorem idxI_any (p : Int → Bool) : ∀ (l : List Int) (i : Int), 0 ≤ i → decide (idxI p l i ≥ 0) = l.any p
 | [], i, _ => by simp [idxI]
 | v :: l, i, h => by
  unfold idxI
  rw [List.any_cons]
  cases hp : p v with
  | true => simp [h]
  | false => simpa using idxI_any p l (i + 1) (by omega)
section
variable {E : Env} [R : DfaR E]
theorem indexFunc_denV (f : EV) (p : Int → Bool) (y : EV) (l : List Int) (hy : IntsV y l) (H : Heap) (hf : AsksA E f p l H) : den E R.n_slices_IndexFunc_int_int [y, f] H = some (.ret (.int .i64 (idxI p l 0)), H) := by
 have hlen := hy.lenI
 have hle := hy.leI
 refine den_of R.d_slices_IndexFunc_int_int (by simp) ?_
 unfold Gn.slices_IndexFunc_int_int Gn.slices_IndexFunc_int_int_r
 simp (disch := omega) only [go_sem, ↓reduceIte, simprocAttr, *]
 refine while_of (ι := Nat) (fun i => i ≤ l.length ∧ idxI p l 0 = idxI p (l.drop i) i) (fun i => l.length - i) (fun i => [(0, y), (1, f), (7, .int .i64 l.length), (8, .int .i64 i)]) (fun _ => H) 0 ⟨by omega, rfl⟩ ?_ rfl ?_
 ·simp (disch := omega) only [go_sem, ↓reduceIte, simprocAttr, Sl]
 ·rintro i t ⟨hi, hr⟩ ht K hK
  simp (disch := omega) only [go_sem, ↓reduceIte, simprocAttr, Sl] at ht
  by_cases hlt : i < l.length
  ·obtain ⟨v, hv⟩ := get_some hlt
   have hg := hy.at hv
   have hc := hf v (List.mem_of_getElem? hv)
   rw [drop_get hv] at hr
   simp only [idxI] at hr
   have go : p v = false → _ := fun h s' H' => hK (i + 1) s' H' ⟨by omega, by rw [hr, if_neg (by simp [h])]; rfl⟩ (by omega)
   cases hp : p v with
   | true =>
    rw [hp] at hc hr
    rw [if_pos rfl] at hr
    rw [hr]
    clear go hK hf hr
    repeat' first | (simp (disch := first | omega | assumption) only [go_sem, ↓reduceIte, simprocAttr, *]) | refine HG_split (fun hb=>?_) fun hb=>?_ | refine HC_split (fun hb=>?_) fun hb=>?_
    all_goals (try simp only [FX] at *)
    all_goals first | omega | exact finV_same rfl rfl
   | false =>
    rw [hp] at hc
    replace go := go hp
    clear hK hf hr
    repeat' first | (simp (disch := first | omega | assumption) only [go_sem, ↓reduceIte, simprocAttr, *]) | refine HG_split (fun hb=>?_) fun hb=>?_ | refine HC_split (fun hb=>?_) fun hb=>?_
    all_goals (try simp only [FX] at *)
    all_goals first
     | omega
     | (refine go _ _ ?_ rfl; simp (disch := omega) only [go_sem, ↓reduceIte, simprocAttr, Sl, ht, and_self, cast_succ])
  ·have : i = l.length := by omega
   subst this
   have he : idxI p l 0 = -1 := by rw [hr]; simp [idxI]
   rw [he]
   clear hK hf hr
   repeat' first | (simp (disch := first | omega | assumption) only [go_sem, ↓reduceIte, simprocAttr, *]) | refine HG_split (fun hb=>?_) fun hb=>?_ | refine HC_split (fun hb=>?_) fun hb=>?_
   all_goals (try simp only [FX] at *)
   all_goals first | omega | exact finV_same rfl rfl
theorem containsFunc_den (f : EV) (p : Int → Bool) (y : EV) (l : List Int) (hy : IntsV y l) (H : Heap) (hf : AsksA E f p l H) : den E R.n_slices_ContainsFunc_int_int [y, f] H = some (.ret (.bool (l.any p)), H) := by
 have h1 := indexFunc_denV f p y l hy H hf
 have h2 := idxI_any p l 0 (by omega)
 refine den_of R.d_slices_ContainsFunc_int_int (by simp) ?_
 unfold Gn.slices_ContainsFunc_int_int Gn.slices_ContainsFunc_int_int_r
 rw [← h2]
 clear hf hy h2
 repeat' first | (simp (disch := first | omega | assumption) only [go_sem, ↓reduceIte, simprocAttr, *]) | refine HG_split (fun hb=>?_) fun hb=>?_ | refine HC_split (fun hb=>?_) fun hb=>?_
 all_goals (try simp only [FX] at *)
 all_goals first | omega | exact finV_same rfl rfl
end
def rowB (N : Nat) (n : Int) (l : List Int) (t : Int) : Bool := decide ((l.length : Int) = n) && (decide (-1 ≤ t) && decide (t ≤ 39)) && !(l.any fun x => !(decide (-1 ≤ x) && decide (x ≤ (N : Int) - 1)))
def rowsB (N : Nat) (n : Int) : List (List Int) → List Int → Bool
 | l :: ls, t :: ts => rowB N n l t && rowsB N n ls ts
 | _, _ => true
theorem rowsB_cons {N : Nat} {n : Int} {l : List Int} {ls : List (List Int)} {t : Int} {ts : List Int} : rowsB N n (l :: ls) (t :: ts) = (rowB N n l t && rowsB N n ls ts) := rfl
def DF.may (d : DF) : Bool := mayC d.of d.n && decide (d.rows.length ≤ 600) && decide (d.tags.length = d.rows.length) && rowsB d.rows.length d.n d.rows d.tags
def ClsDen (E : Env) (f : FuncId) : Prop := ∀ (of : Nat → Nat) (n : Int) (H : Heap), (∀ b, b < 256 → of b < 256) → den E f [classesE of n] H = some (.ret (.bool (mayC of n)), H)
section
variable {E : Env} [R : DfaR E]
theorem may_c1_den (v k : Int) (j : Nat) (H : Heap) (hj : H[j]? = some (some (.row 1 [.int .i64 k]))) (hk : 0 ≤ k ∧ k ≤ 9223372036854775807) :
  den E R.n_dfa_May_c1 [.int .i64 v, .ptr j 1 0 0] H = some (.ret (.bool (!(decide (-1 ≤ v) && decide (v ≤ k - 1)))), H) := by
 have hw := within_den (R := R) v (-1) (k - 1) H
 refine den_of R.d_dfa_May_c1 (by simp) ?_
 unfold Gn.dfa_May_c1 Gn.dfa_May_c1_r
 repeat' first | (simp (disch := first | omega | assumption) only [go_sem, ↓reduceIte, simprocAttr, *]) | refine HG_split (fun hb=>?_) fun hb=>?_ | refine HC_split (fun hb=>?_) fun hb=>?_
 all_goals (try simp only [FX] at *)
 all_goals first | omega | exact finV_same rfl rfl
theorem dfaMay_den (hC : ClsDen E R.n_class_May) (d : DF) (H : Heap) : den E R.n_dfa_May [d.E] H = some (.ret (.bool d.may), H) := by
 obtain ⟨k1, k2, hle, hle2, o1, o2, hA, hL, hx1, hx2, hn, htk⟩ := d.facts
 unfold EV.one at o1 o2
 have hc := fun H => hC d.of d.n H d.hof
 unfold classesE at hc
 rw [← dfc_cls (x1 := d.x1) (x2 := d.x2)] at hc
 clear hC
 refine den_of R.d_dfa_May (by simp) ?_
 unfold Gn.dfa_May Gn.dfa_May_r DF.E
 cases hm : mayC d.of d.n with
 | false =>
  have hs : d.may = false := by unfold DF.may; rw [hm]; rfl
  rw [hm] at hc
  rw [hs]
  clear hs hm
  repeat' first | (simp (disch := first | omega | assumption) only [go_sem, ↓reduceIte, simprocAttr, *]) | refine HG_split (fun hb=>?_) fun hb=>?_ | refine HC_split (fun hb=>?_) fun hb=>?_
  all_goals (try simp only [FX] at *)
  all_goals first | omega | exact finV_drop rfl rfl
 | true =>
 rw [hm] at hc
 by_cases h6 : d.rows.length ≤ 600
 ·by_cases ht : d.tags.length = d.rows.length
  ·have hs : d.may = rowsB d.rows.length d.n d.rows d.tags := by unfold DF.may; rw [hm, decide_eq_true h6, decide_eq_true ht]; rfl
   rw [hs]
   rw [ht] at k2 hle2
   clear hs hm
   repeat' first | (simp (disch := first | omega | assumption) only [go_sem, ↓reduceIte, simprocAttr, *]) | refine HG_split (fun hb=>?_) fun hb=>?_ | refine HC_split (fun hb=>?_) fun hb=>?_
   all_goals (try simp only [FX] at *)
   all_goals first | omega | skip
   ·exact absurd trivial (by assumption)
   refine while_of (ι := Nat) (fun i => i ≤ d.rows.length ∧ rowsB d.rows.length d.n d.rows d.tags = rowsB d.rows.length d.n (d.rows.drop i) (d.tags.drop i)) (fun i => d.rows.length - i) (fun i => [(1, .ptr H.length 259 0 0), (3, .ptr (H.length + 1) 1 0 0), (25, d.x1), (26, .int .i64 d.rows.length), (27, .int .i64 i)])
    (fun _ => H ++ [some (.row 259 [.agg (dfc d.of d.n d.x1 d.x2)]), some (.row 1 [.int .i64 d.rows.length])]) 0 ⟨by omega, rfl⟩ ?_ (by first | rfl | simp) ?_
   ·simp (disch := omega) only [go_sem, ↓reduceIte, simprocAttr, Sl]
   ·rintro i t ⟨hi, hr⟩ ht2 K hK
    simp (disch := omega) only [go_sem, ↓reduceIte, simprocAttr, Sl] at ht2
    by_cases hlt : i < d.rows.length
    ·obtain ⟨l, hl⟩ := get_some hlt
     obtain ⟨v, hv⟩ := get_some (l := d.tags) (i := i) (by omega)
     obtain ⟨y, hy, hyv, hat⟩ := d.row hl
     have hat2 := d.h2.at hv
     have hyl := hyv.lenI
     have hyle := hyv.leI
     have hyo := hyv.one.2
     unfold EV.one at hyo
     have hw := fun H => within_den (R := R) v (-1) 39 H
     have hcf := containsFunc_den (R := R) (.func (.func R.n_dfa_May_c1) [] [.ptr (H.length + 1) 1 0 0]) (fun x => !(decide (-1 ≤ x) && decide (x ≤ (d.rows.length : Int) - 1))) y l hyv (H ++ [some (.row 259 [.agg (dfc d.of d.n d.x1 d.x2)]), some (.row 1 [.int .i64 d.rows.length])]) (fun x _ => by
      have := may_c1_den (R := R) x d.rows.length (H.length + 1) (H ++ [some (.row 259 [.agg (dfc d.of d.n d.x1 d.x2)]), some (.row 1 [.int .i64 d.rows.length])]) (by simp) (by omega)
      simpa [callD] using this)
     rw [drop_get hl, drop_get hv] at hr
     rw [rowsB_cons] at hr
     unfold rowB at hr
     by_cases h1 : (l.length : Int) = d.n
     ·cases h2 : (decide (-1 ≤ v) && decide (v ≤ 39)) with
      | false =>
       rw [h2] at hw
       rw [show rowsB d.rows.length d.n d.rows d.tags = false by rw [hr, h2]; simp]
       clear hK hr h2 hc
       repeat' first | (simp (disch := first | omega | assumption) only [go_sem, ↓reduceIte, simprocAttr, *]) | refine HG_split (fun hb=>?_) fun hb=>?_ | refine HC_split (fun hb=>?_) fun hb=>?_
       all_goals (try simp only [FX] at *)
       all_goals first | omega | exact finV_drop rfl rfl
      | true =>
       rw [h2] at hw
       cases h3 : l.any fun x => !(decide (-1 ≤ x) && decide (x ≤ (d.rows.length : Int) - 1)) with
       | true =>
        rw [h3] at hcf
        rw [show rowsB d.rows.length d.n d.rows d.tags = false by rw [hr, h3]; simp]
        clear hK hr h2 h3 hc
        repeat' first | (simp (disch := first | omega | assumption) only [go_sem, ↓reduceIte, simprocAttr, *]) | refine HG_split (fun hb=>?_) fun hb=>?_ | refine HC_split (fun hb=>?_) fun hb=>?_
        all_goals (try simp only [FX] at *)
        all_goals first | omega | exact finV_drop rfl rfl
       | false =>
        rw [h3] at hcf
        have hk := hK (i + 1)
        have hr2 : rowsB d.rows.length d.n d.rows d.tags = rowsB d.rows.length d.n (d.rows.drop (i + 1)) (d.tags.drop (i + 1)) := by rw [hr, h2, h3, decide_eq_true h1]; rfl
        clear hK h2 h3 hc hr
        repeat' first | (simp (disch := first | omega | assumption) only [go_sem, ↓reduceIte, simprocAttr, *]) | refine HG_split (fun hb=>?_) fun hb=>?_ | refine HC_split (fun hb=>?_) fun hb=>?_
        all_goals (try simp only [FX] at *)
        all_goals first
         | omega
         | exact absurd trivial (by assumption)
         | skip
        refine hk _ _ ⟨by omega, hr2⟩ (by omega) ?_ rfl
        simp (disch := omega) only [go_sem, ↓reduceIte, simprocAttr, Sl, ht2, and_self, cast_succ]
     ·rw [show rowsB d.rows.length d.n d.rows d.tags = false by rw [hr, decide_eq_false h1]; simp]
      clear hK hr hc hcf hw
      repeat' first | (simp (disch := first | omega | assumption) only [go_sem, ↓reduceIte, simprocAttr, *]) | refine HG_split (fun hb=>?_) fun hb=>?_ | refine HC_split (fun hb=>?_) fun hb=>?_
      all_goals (try simp only [FX] at *)
      all_goals first | omega | exact finV_drop rfl rfl
    ·have : i = d.rows.length := by omega
     subst this
     have he : rowsB d.rows.length d.n d.rows d.tags = true := by rw [hr, List.drop_length]; rfl
     rw [he]
     clear hK hr hc
     repeat' first | (simp (disch := first | omega | assumption) only [go_sem, ↓reduceIte, simprocAttr, *]) | refine HG_split (fun hb=>?_) fun hb=>?_ | refine HC_split (fun hb=>?_) fun hb=>?_
     all_goals (try simp only [FX] at *)
     all_goals first | omega | exact finV_drop rfl rfl
  ·have hs : d.may = false := by unfold DF.may; rw [hm, decide_eq_false ht]; simp
   rw [hs]
   clear hs hm
   repeat' first | (simp (disch := first | omega | assumption) only [go_sem, ↓reduceIte, simprocAttr, *]) | refine HG_split (fun hb=>?_) fun hb=>?_ | refine HC_split (fun hb=>?_) fun hb=>?_
   all_goals (try simp only [FX] at *)
   all_goals first | omega | exact finV_drop rfl rfl
 ·have hs : d.may = false := by unfold DF.may; rw [hm, decide_eq_false h6]; simp
  rw [hs]
  clear hs hm
  repeat' first | (simp (disch := first | omega | assumption) only [go_sem, ↓reduceIte, simprocAttr, *]) | refine HG_split (fun hb=>?_) fun hb=>?_ | refine HC_split (fun hb=>?_) fun hb=>?_
  all_goals (try simp only [FX] at *)
  all_goals first | omega | exact finV_drop rfl rfl
end
section
variable {E : Env} [R : DfaR E]
theorem refDMay_den (hC : ClsDen E R.n_hackleref02_May) (d : DF) (H : Heap) : den E R.n_hackleref09_May [d.E] H = some (.ret (.bool d.may), H) := by
 obtain ⟨k1, k2, hle, hle2, o1, o2, hA, hL, hx1, hx2, hn, htk⟩ := d.facts
 unfold EV.one at o1 o2
 have hc := fun H => hC d.of d.n H d.hof
 unfold classesE at hc
 rw [← dfc_cls (x1 := d.x1) (x2 := d.x2)] at hc
 clear hC
 refine den_of R.d_hackleref09_May (by simp) ?_
 unfold Gn.hackleref09_May Gn.hackleref09_May_r DF.E
 cases hm : mayC d.of d.n with
 | false =>
  have hs : d.may = false := by unfold DF.may; rw [hm]; rfl
  rw [hm] at hc
  rw [hs]
  clear hs hm
  repeat' first | (simp (disch := first | omega | assumption) only [go_sem, ↓reduceIte, simprocAttr, *]) | refine HG_split (fun hb=>?_) fun hb=>?_ | refine HC_split (fun hb=>?_) fun hb=>?_
  all_goals (try simp only [FX] at *)
  all_goals first | omega | exact finV_drop rfl rfl
 | true =>
 rw [hm] at hc
 by_cases h6 : d.rows.length ≤ 600
 ·by_cases ht : d.tags.length = d.rows.length
  ·have hs : d.may = rowsB d.rows.length d.n d.rows d.tags := by unfold DF.may; rw [hm, decide_eq_true h6, decide_eq_true ht]; rfl
   rw [hs]
   rw [ht] at k2 hle2
   clear hs hm
   repeat' first | (simp (disch := first | omega | assumption) only [go_sem, ↓reduceIte, simprocAttr, *]) | refine HG_split (fun hb=>?_) fun hb=>?_ | refine HC_split (fun hb=>?_) fun hb=>?_
   all_goals (try simp only [FX] at *)
   all_goals first | omega | skip
   ·exact absurd trivial (by assumption)
   refine while_of (ι := Nat) (fun i => i ≤ d.rows.length ∧ rowsB d.rows.length d.n d.rows d.tags = rowsB d.rows.length d.n (d.rows.drop i) (d.tags.drop i)) (fun i => d.rows.length - i) (fun i => [(1, .ptr H.length 259 0 0), (3, .int .i64 i)])
    (fun _ => H ++ [some (.row 259 [.agg (dfc d.of d.n d.x1 d.x2)])]) 0 ⟨by omega, rfl⟩ ?_ (by first | rfl | simp) ?_
   ·simp (disch := omega) only [go_sem, ↓reduceIte, simprocAttr, Sl]
   ·rintro i t ⟨hi, hr⟩ ht2 K hK
    simp (disch := omega) only [go_sem, ↓reduceIte, simprocAttr, Sl] at ht2
    by_cases hlt : i < d.rows.length
    ·obtain ⟨l, hl⟩ := get_some hlt
     obtain ⟨v, hv⟩ := get_some (l := d.tags) (i := i) (by omega)
     obtain ⟨y, hy, hyv, hat⟩ := d.row hl
     have hat2 := d.h2.at hv
     have hyl := hyv.lenI
     have hyle := hyv.leI
     have hyo := hyv.one.2
     unfold EV.one at hyo
     rw [drop_get hl, drop_get hv] at hr
     rw [rowsB_cons] at hr
     unfold rowB at hr
     by_cases h1 : (l.length : Int) = d.n ∧ (-1 ≤ v ∧ v ≤ 39)
     ·obtain ⟨h1, h2, h3⟩ := h1
      have hk := hK (i + 1)
      rw [decide_eq_true h1, decide_eq_true h2, decide_eq_true h3] at hr
      simp only [Bool.true_and] at hr
      clear hK hc
      repeat' first | (simp (disch := first | omega | assumption) only [go_sem, ↓reduceIte, simprocAttr, *]) | refine HG_split (fun hb=>?_) fun hb=>?_ | refine HC_split (fun hb=>?_) fun hb=>?_
      all_goals (try simp only [FX] at *)
      all_goals first | omega | skip
      all_goals first | exact absurd trivial (by assumption) | skip
      refine while_of (ι := Nat) (fun j => j ≤ l.length ∧ (l.any fun x => !(decide (-1 ≤ x) && decide (x ≤ (d.rows.length : Int) - 1))) = ((l.drop j).any fun x => !(decide (-1 ≤ x) && decide (x ≤ (d.rows.length : Int) - 1)))) (fun j => l.length - j) (fun j => [(1, .ptr H.length 259 0 0), (3, .int .i64 i), (4, .int .i64 j)])
       (fun _ => H ++ [some (.row 259 [.agg (dfc d.of d.n d.x1 d.x2)])]) 0 ⟨by omega, rfl⟩ ?_ (by first | rfl | simp) ?_
      ·simp (disch := omega) only [go_sem, ↓reduceIte, simprocAttr, Sl, ht2]
      ·rintro j t3 ⟨hj, hjr⟩ ht3 K2 hK2
       simp (disch := omega) only [go_sem, ↓reduceIte, simprocAttr, Sl] at ht3
       by_cases hjl : j < l.length
       ·obtain ⟨x, hx⟩ := get_some hjl
        have hat3 := hyv.at hx
        rw [drop_get hx, List.any_cons] at hjr
        by_cases h4 : -1 ≤ x ∧ x < d.rows.length
        ·obtain ⟨h4, h5⟩ := h4
         have hk2 := hK2 (j + 1)
         rw [decide_eq_true h4, decide_eq_true (show x ≤ (d.rows.length : Int) - 1 by omega)] at hjr
         simp only [Bool.and_self, Bool.not_true, Bool.false_or] at hjr
         clear hK2 hk hr
         repeat' first | (simp (disch := first | omega | assumption) only [go_sem, ↓reduceIte, simprocAttr, *]) | refine HG_split (fun hb=>?_) fun hb=>?_ | refine HC_split (fun hb=>?_) fun hb=>?_
         all_goals (try simp only [FX] at *)
         all_goals first
          | omega
          | exact absurd trivial (by assumption)
          | skip
         refine hk2 _ _ ⟨by omega, hjr⟩ (by omega) ?_ rfl
         simp (disch := omega) only [go_sem, ↓reduceIte, simprocAttr, Sl, ht2, ht3, and_self, cast_succ]
        ·rw [show rowsB d.rows.length d.n d.rows d.tags = false by
          rw [hr, hjr]
          have : (decide (-1 ≤ x) && decide (x ≤ (d.rows.length : Int) - 1)) = false := by
           rw [Bool.and_eq_false_iff, decide_eq_false_iff_not, decide_eq_false_iff_not]
           omega
          rw [this]; rfl]
         clear hK2 hk hr hjr
         by_cases h5 : x < -1
         ·repeat' first | (simp (disch := first | omega | assumption) only [go_sem, ↓reduceIte, simprocAttr, *]) | refine HG_split (fun hb=>?_) fun hb=>?_ | refine HC_split (fun hb=>?_) fun hb=>?_
          all_goals (try simp only [FX] at *)
          all_goals first | omega | exact finV_drop rfl rfl | exact absurd trivial (by assumption)
         ·repeat' first | (simp (disch := first | omega | assumption) only [go_sem, ↓reduceIte, simprocAttr, *]) | refine HG_split (fun hb=>?_) fun hb=>?_ | refine HC_split (fun hb=>?_) fun hb=>?_
          all_goals (try simp only [FX] at *)
          all_goals first | omega | exact finV_drop rfl rfl | exact absurd trivial (by assumption)
       ·have : j = l.length := by omega
        subst this
        have hr2 : rowsB d.rows.length d.n d.rows d.tags = rowsB d.rows.length d.n (d.rows.drop (i + 1)) (d.tags.drop (i + 1)) := by rw [hr, hjr, List.drop_length]; rfl
        clear hK2 hr hjr
        repeat' first | (simp (disch := first | omega | assumption) only [go_sem, ↓reduceIte, simprocAttr, *]) | refine HG_split (fun hb=>?_) fun hb=>?_ | refine HC_split (fun hb=>?_) fun hb=>?_
        all_goals (try simp only [FX] at *)
        all_goals first
         | omega
         | exact absurd trivial (by assumption)
         | skip
        refine hk _ _ ⟨by omega, hr2⟩ (by omega) ?_ rfl
        simp (disch := omega) only [go_sem, ↓reduceIte, simprocAttr, Sl, ht2, ht3, and_self, cast_succ]
     ·rw [show rowsB d.rows.length d.n d.rows d.tags = false by
       rw [hr]
       have : (decide ((l.length : Int) = d.n) && (decide (-1 ≤ v) && decide (v ≤ 39))) = false := by
        rw [Bool.and_eq_false_iff, Bool.and_eq_false_iff, decide_eq_false_iff_not, decide_eq_false_iff_not, decide_eq_false_iff_not]
        omega
       rw [this]; rfl]
      clear hK hr hc
      by_cases h2 : (l.length : Int) = d.n
      ·by_cases h3 : v < -1
       ·repeat' first | (simp (disch := first | omega | assumption) only [go_sem, ↓reduceIte, simprocAttr, *]) | refine HG_split (fun hb=>?_) fun hb=>?_ | refine HC_split (fun hb=>?_) fun hb=>?_
        all_goals (try simp only [FX] at *)
        all_goals first | omega | exact finV_drop rfl rfl | exact absurd trivial (by assumption)
       ·repeat' first | (simp (disch := first | omega | assumption) only [go_sem, ↓reduceIte, simprocAttr, *]) | refine HG_split (fun hb=>?_) fun hb=>?_ | refine HC_split (fun hb=>?_) fun hb=>?_
        all_goals (try simp only [FX] at *)
        all_goals first | omega | exact finV_drop rfl rfl | exact absurd trivial (by assumption)
      ·repeat' first | (simp (disch := first | omega | assumption) only [go_sem, ↓reduceIte, simprocAttr, *]) | refine HG_split (fun hb=>?_) fun hb=>?_ | refine HC_split (fun hb=>?_) fun hb=>?_
       all_goals (try simp only [FX] at *)
       all_goals first | omega | exact finV_drop rfl rfl | exact absurd trivial (by assumption)
    ·have : i = d.rows.length := by omega
     subst this
     have he : rowsB d.rows.length d.n d.rows d.tags = true := by rw [hr, List.drop_length]; rfl
     rw [he]
     clear hK hr hc
     repeat' first | (simp (disch := first | omega | assumption) only [go_sem, ↓reduceIte, simprocAttr, *]) | refine HG_split (fun hb=>?_) fun hb=>?_ | refine HC_split (fun hb=>?_) fun hb=>?_
     all_goals (try simp only [FX] at *)
     all_goals first | omega | exact finV_drop rfl rfl
  ·have hs : d.may = false := by unfold DF.may; rw [hm, decide_eq_false ht]; simp
   rw [hs]
   clear hs hm
   repeat' first | (simp (disch := first | omega | assumption) only [go_sem, ↓reduceIte, simprocAttr, *]) | refine HG_split (fun hb=>?_) fun hb=>?_ | refine HC_split (fun hb=>?_) fun hb=>?_
   all_goals (try simp only [FX] at *)
   all_goals first | omega | exact finV_drop rfl rfl
 ·have hs : d.may = false := by unfold DF.may; rw [hm, decide_eq_false h6]; simp
  rw [hs]
  clear hs hm
  repeat' first | (simp (disch := first | omega | assumption) only [go_sem, ↓reduceIte, simprocAttr, *]) | refine HG_split (fun hb=>?_) fun hb=>?_ | refine HC_split (fun hb=>?_) fun hb=>?_
  all_goals (try simp only [FX] at *)
  all_goals first | omega | exact finV_drop rfl rfl
end
theorem rowsB_all {N : Nat} {n : Int} : ∀ {ls : List (List Int)} {ts : List Int}, rowsB N n ls ts = true → ∀ (i : Nat) (l : List Int) (t : Int), ls[i]? = some l → ts[i]? = some t → rowB N n l t = true
 | [], _, _, i, l, t, h, _ => by simp at h
 | _ :: _, [], _, i, l, t, _, h => by simp at h
 | l0 :: ls, t0 :: ts, h, i, l, t, hl, ht => by
  rw [rowsB_cons, Bool.and_eq_true] at h
  cases i with
  | zero =>
   simp only [List.getElem?_cons_zero, Option.some.injEq] at hl ht
   subst hl ht
   exact h.1
  | succ i =>
   simp only [List.getElem?_cons_succ] at hl ht
   exact rowsB_all h.2 i l t hl ht
structure DF.Good (d : DF) : Prop where
 wide : d.Wide
 le : d.rows.length ≤ 600
 tl : d.tags.length = d.rows.length
 cls : ∀ b, b < 256 → (d.of b : Int) < d.n
 len : ∀ l ∈ d.rows, (l.length : Int) = d.n
 rng : ∀ l ∈ d.rows, ∀ x ∈ l, -1 ≤ x ∧ x < d.rows.length
 tag : ∀ t ∈ d.tags, -1 ≤ t ∧ t ≤ 39
 mayC : mayC d.of d.n = true
theorem mayC_lt {of : Nat → Nat} {n : Int} (h : Abs.mayC of n = true) : ∀ b, b < 256 → (of b : Int) < n := by
 intro b hb
 unfold Abs.mayC at h
 cases hm : mayN of 256 with
 | none => rw [hm] at h; simp at h
 | some m =>
  rw [hm] at h
  obtain ⟨h1, h2⟩ := (may_iff of 256 m).1 hm
  have := canon_lt h1 hb
  simp only [beq_iff_eq] at h
  omega
theorem DF.good {d : DF} (h : d.may = true) : d.Good := by
 unfold DF.may at h
 simp only [Bool.and_eq_true, decide_eq_true_eq] at h
 obtain ⟨⟨⟨h1, h2⟩, h3⟩, h4⟩ := h
 have hrow : ∀ l ∈ d.rows, ((l.length : Int) = d.n) ∧ ∀ x ∈ l, -1 ≤ x ∧ x < d.rows.length := by
  intro l hl
  obtain ⟨i, hi, e⟩ := List.mem_iff_getElem.1 hl
  obtain ⟨t, ht⟩ := get_some (l := d.tags) (i := i) (by omega)
  have := rowsB_all h4 i l t (by rw [List.getElem?_eq_getElem hi, e]) ht
  unfold rowB at this
  simp only [Bool.and_eq_true, decide_eq_true_eq, Bool.not_eq_true', List.any_eq_false] at this
  refine ⟨this.1.1, fun x hx => ?_⟩
  have := this.2 x hx
  rw [Bool.not_eq_false, Bool.and_eq_true, decide_eq_true_eq, decide_eq_true_eq] at this
  omega
 have hc := mayC_lt h1
 refine ⟨fun l hl b hb => ?_, h2, h3, hc, fun l hl => (hrow l hl).1, fun l hl => (hrow l hl).2, fun t ht => ?_, h1⟩
 ·have := hc b hb
  have := (hrow l hl).1
  omega
 ·obtain ⟨i, hi, e⟩ := List.mem_iff_getElem.1 ht
  obtain ⟨l, hl⟩ := get_some (l := d.rows) (i := i) (by omega)
  have := rowsB_all h4 i l t hl (by rw [List.getElem?_eq_getElem hi, e])
  unfold rowB at this
  simp only [Bool.and_eq_true, decide_eq_true_eq] at this
  exact this.1.2
theorem stepF_rng {d : DF} (g : d.Good) (k : Int) (b : Nat) (hb : b < 256) : -1 ≤ d.stepF k b ∧ d.stepF k b < d.rows.length := by
 unfold DF.stepF
 split
 ·rename_i h
  obtain ⟨l, hl⟩ := get_some (l := d.rows) (i := k.toNat) (by omega)
  have hm := List.mem_of_getElem? hl
  obtain ⟨v, hv⟩ := get_some (g.wide l hm b hb)
  have : d.nxt k b = v := by unfold DF.nxt; simp [List.getD_eq_getElem?_getD, hl, hv]
  rw [this]
  exact g.rng l hm v (List.mem_of_getElem? hv)
 ·omega
theorem runF_rng {d : DF} (g : d.Good) (s : List UInt8) : ∀ k : Int, (-1 ≤ k ∧ k < d.rows.length) → -1 ≤ s.foldl (fun k b => d.stepF k b.toNat) k ∧ s.foldl (fun k b => d.stepF k b.toNat) k < d.rows.length := by
 induction s with
 | nil => intro k h; exact h
 | cons b s ih => intro k h; exact ih _ (stepF_rng g k b.toNat b.toNat_lt)
theorem runF_in {d : DF} (g : d.Good) (s : List UInt8) : -1 ≤ d.runF s ∧ d.runF s < d.rows.length := by
 unfold DF.runF
 refine runF_rng g s _ ?_
 split
 ·omega
 ·rename_i h
  have := List.length_pos_iff.2 h
  omega
def DF.tagF (d : DF) (s : List UInt8) : Int := if d.runF s < 0 then -1 else d.tags.getD (d.runF s).toNat 0
def RunSt (d : DF) (s : List UInt8) (q : List (Nat × EV)) (n : Nat) (t : Slots) : Prop := ∃ k0, d.runF s = s.foldl (fun k b => d.stepF k b.toNat) k0 ∧ Sl t (q ++ [(n, .int .i64 k0)])
section
variable {E : Env} [R : DfaR E]
theorem refDRun_den (d : DF) (g : d.Wide) (s : List UInt8) (hs : s.length ≤ 9223372036854775807) (H : Heap) : den E R.n_hackleref09_Run [d.E, .str s] H = some (.ret (.int .i64 (d.runF s)), H) := by
 obtain ⟨k1, k2, hle, hle2, o1, o2, hA, hL, hx1, hx2, hn, htk⟩ := d.facts
 unfold EV.one at o1 o2
 have hst := fun k b hb H => refStep_den (R := R) d k b hb g H
 unfold DF.E at hst
 refine den_of R.d_hackleref09_Run (by simp) ?_
 unfold Gn.hackleref09_Run Gn.hackleref09_Run_r DF.E
 let HH : Heap := H ++ [some (.row 259 [.agg (dfc d.of d.n d.x1 d.x2)])]
 refine Hd_cut2 (fun t H' => Sl t [(1, .str s), (2, .ptr H.length 259 0 0)] ∧ H' = H ++ [some (.row 259 [.agg (dfc d.of d.n d.x1 d.x2)])]) ?_ ?_
 ·repeat' first | (simp (disch := first | omega | assumption) only [go_sem, ↓reduceIte, simprocAttr, Sl, *]) | refine HG_split (fun hb=>?_) fun hb=>?_ | refine HC_split (fun hb=>?_) fun hb=>?_
 rintro t _ ⟨ht, rfl⟩
 simp (disch := omega) only [go_sem, ↓reduceIte, simprocAttr, Sl] at ht
 refine Hd_cut2 (fun t H' => Sl t [(1, .str s), (2, .ptr H.length 259 0 0), (5, .int .i64 0)] ∧ H' = H ++ [some (.row 259 [.agg (dfc d.of d.n d.x1 d.x2)])]) ?_ ?_
 ·repeat' first | (simp (disch := first | omega | assumption) only [go_sem, ↓reduceIte, simprocAttr, Sl, *]) | refine HG_split (fun hb=>?_) fun hb=>?_ | refine HC_split (fun hb=>?_) fun hb=>?_
 rintro t2 _ ⟨ht2, rfl⟩
 simp (disch := omega) only [go_sem, ↓reduceIte, simprocAttr, Sl] at ht2
 clear ht t
 refine Hd_cut2 (fun t H' => RunSt d s [(1, .str s), (2, .ptr H.length 259 0 0)] 5 t ∧ H' = H ++ [some (.row 259 [.agg (dfc d.of d.n d.x1 d.x2)])]) ?_ ?_
 ·by_cases h0 : d.rows = []
  ·have e : d.runF s = s.foldl (fun k b => d.stepF k b.toNat) (-1) := by unfold DF.runF; rw [if_pos h0]
   rw [h0] at k1
   clear hst
   repeat' first | (simp (disch := first | omega | assumption) only [go_sem, ↓reduceIte, simprocAttr, *]) | refine HG_split (fun hb=>?_) fun hb=>?_ | refine HC_split (fun hb=>?_) fun hb=>?_
   refine ⟨_, e, ?_⟩
   simp (disch := omega) only [go_sem, ↓reduceIte, simprocAttr, Sl, ht2, and_self, List.cons_append, List.nil_append]
  ·have e : d.runF s = s.foldl (fun k b => d.stepF k b.toNat) 0 := by unfold DF.runF; rw [if_neg h0]
   have h1 := List.length_pos_iff.2 h0
   clear hst
   repeat' first | (simp (disch := first | omega | assumption) only [go_sem, ↓reduceIte, simprocAttr, *]) | refine HG_split (fun hb=>?_) fun hb=>?_ | refine HC_split (fun hb=>?_) fun hb=>?_
   all_goals (try simp only [FX] at *)
   all_goals first | omega | skip
   refine ⟨_, e, ?_⟩
   simp (disch := omega) only [go_sem, ↓reduceIte, simprocAttr, Sl, ht2, and_self, List.cons_append, List.nil_append]
 rintro t3 _ ⟨⟨k0, hk0, ht3⟩, rfl⟩
 simp only [List.cons_append, List.nil_append] at ht3
 simp (disch := omega) only [go_sem, ↓reduceIte, simprocAttr, Sl] at ht3
 clear ht2 t2 HH
 repeat' first | (simp (disch := first | omega | assumption) only [go_sem, ↓reduceIte, simprocAttr, *]) | refine HG_split (fun hb=>?_) fun hb=>?_ | refine HC_split (fun hb=>?_) fun hb=>?_
 refine while_of (ι := Nat × Int) (fun i => i.1 ≤ s.length ∧ d.runF s = (s.drop i.1).foldl (fun k b => d.stepF k b.toNat) i.2) (fun i => s.length - i.1) (fun i => [(1, .str s), (2, .ptr H.length 259 0 0), (5, .int .i64 i.2), (6, .int .i64 i.1)])
  (fun _ => H ++ [some (.row 259 [.agg (dfc d.of d.n d.x1 d.x2)])]) (0, k0) ⟨by omega, hk0⟩ ?_ rfl ?_
 ·simp (disch := omega) only [go_sem, ↓reduceIte, simprocAttr, Sl, ht3]
 ·rintro ⟨i, k⟩ t ⟨hi, hr⟩ ht K hK
  simp only at hi hr
  simp (disch := omega) only [go_sem, ↓reduceIte, simprocAttr, Sl] at ht
  by_cases hlt : i < s.length
  ·obtain ⟨b, hb⟩ := get_some hlt
   rw [drop_get hb, List.foldl_cons] at hr
   have hk := hK (i + 1, d.stepF k b.toNat)
   have hs1 := fun H => hst k b.toNat b.toNat_lt H
   clear hst hK hk0
   repeat' first | (simp (disch := first | omega | assumption) only [go_sem, ↓reduceIte, simprocAttr, *]) | refine HG_split (fun hb=>?_) fun hb=>?_ | refine HC_split (fun hb=>?_) fun hb=>?_
   all_goals (try simp only [FX] at *)
   all_goals first | omega | skip
   refine hk _ _ ⟨by omega, hr⟩ (by omega) ?_ rfl
   simp (disch := omega) only [go_sem, ↓reduceIte, simprocAttr, Sl, ht, and_self, cast_succ]
  ·have : i = s.length := by omega
   subst this
   rw [List.drop_length] at hr
   simp only [List.foldl_nil] at hr
   rw [hr]
   clear hst hK hk0 hr
   repeat' first | (simp (disch := first | omega | assumption) only [go_sem, ↓reduceIte, simprocAttr, *]) | refine HG_split (fun hb=>?_) fun hb=>?_ | refine HC_split (fun hb=>?_) fun hb=>?_
   all_goals (try simp only [FX] at *)
   all_goals first | omega | skip
   exact finV_drop rfl rfl
end
section
variable {E : Env} [R : DfaR E]
theorem dStep_den (hC : ClsDen E R.n_class_May) (d : DF) (k : Int) (b : Nat) (hb : b < 256) (H : Heap) : den E R.n_dfa_Step [d.E, .int .i64 k, .int .u8 b] H = some (.ret (.int .i64 (if d.may then d.stepF k b else -1)), H) := by
 obtain ⟨k1, k2, hle, hle2, o1, o2, hA, hL, hx1, hx2, hn, htk⟩ := d.facts
 unfold EV.one at o1 o2
 have hm := fun H => dfaMay_den (R := R) hC d H
 cases hd : d.may with
 | false =>
  rw [hd] at hm
  rw [if_neg (by simp)]
  refine den_of R.d_dfa_Step (by simp) ?_
  unfold Gn.dfa_Step Gn.dfa_Step_r
  unfold DF.E at hm ⊢
  repeat' first | (simp (disch := first | omega | assumption) only [go_sem, ↓reduceIte, simprocAttr, *]) | refine HG_split (fun hb=>?_) fun hb=>?_ | refine HC_split (fun hb=>?_) fun hb=>?_
  all_goals (try simp only [FX] at *)
  all_goals first | omega | exact finV_drop rfl rfl
 | true =>
  rw [hd] at hm
  have hs := fun H => step_den (R := R) d k b hb (DF.good hd).wide H
  rw [if_pos rfl]
  refine den_of R.d_dfa_Step (by simp) ?_
  unfold Gn.dfa_Step Gn.dfa_Step_r
  unfold DF.E at hm hs ⊢
  repeat' first | (simp (disch := first | omega | assumption) only [go_sem, ↓reduceIte, simprocAttr, *]) | refine HG_split (fun hb=>?_) fun hb=>?_ | refine HC_split (fun hb=>?_) fun hb=>?_
  all_goals (try simp only [FX] at *)
  all_goals first | omega | exact finV_drop rfl rfl
theorem dRun_den (hC : ClsDen E R.n_class_May) (d : DF) (s : List UInt8) (hs : s.length ≤ 9223372036854775807) (H : Heap) : den E R.n_dfa_Run [d.E, .str s] H = some (.ret (.int .i64 (if d.may then d.runF s else -1)), H) := by
 obtain ⟨k1, k2, hle, hle2, o1, o2, hA, hL, hx1, hx2, hn, htk⟩ := d.facts
 unfold EV.one at o1 o2
 have hm := fun H => dfaMay_den (R := R) hC d H
 cases hd : d.may with
 | false =>
  rw [hd] at hm
  rw [if_neg (by simp)]
  refine den_of R.d_dfa_Run (by simp) ?_
  unfold Gn.dfa_Run Gn.dfa_Run_r
  unfold DF.E at hm ⊢
  repeat' first | (simp (disch := first | omega | assumption) only [go_sem, ↓reduceIte, simprocAttr, *]) | refine HG_split (fun hb=>?_) fun hb=>?_ | refine HC_split (fun hb=>?_) fun hb=>?_
  all_goals (try simp only [FX] at *)
  all_goals first | omega | exact finV_drop rfl rfl
 | true =>
  rw [hd] at hm
  have g := DF.good hd
  have hst := fun k b hb H => step_den (R := R) d k b hb g.wide H
  rw [if_pos rfl]
  refine den_of R.d_dfa_Run (by simp) ?_
  unfold Gn.dfa_Run Gn.dfa_Run_r
  unfold DF.E at hm hst ⊢
  by_cases h0 : d.rows = []
  ·have hr : ∀ s : List UInt8, s.foldl (fun k b => d.stepF k b.toNat) (-1) = -1 := by
    intro s
    induction s with
    | nil => rfl
    | cons b s ih => rw [List.foldl_cons, show d.stepF (-1) b.toNat = -1 by unfold DF.stepF; rw [if_neg (by omega)]]; exact ih
   have e : d.runF s = -1 := by unfold DF.runF; rw [if_pos h0]; exact hr s
   rw [e]
   rw [h0] at k1
   clear hst e hr
   repeat' first | (simp (disch := first | omega | assumption) only [go_sem, ↓reduceIte, simprocAttr, *]) | refine HG_split (fun hb=>?_) fun hb=>?_ | refine HC_split (fun hb=>?_) fun hb=>?_
   all_goals (try simp only [FX] at *)
   all_goals first | omega | exact finV_drop rfl rfl
  ·have e : d.runF s = s.foldl (fun k b => d.stepF k b.toNat) 0 := by unfold DF.runF; rw [if_neg h0]
   have h1 := List.length_pos_iff.2 h0
   repeat' first | (simp (disch := first | omega | assumption) only [go_sem, ↓reduceIte, simprocAttr, *]) | refine HG_split (fun hb=>?_) fun hb=>?_ | refine HC_split (fun hb=>?_) fun hb=>?_
   all_goals (try simp only [FX] at *)
   all_goals first | omega | skip
   refine while_of (ι := Nat × Int) (fun i => i.1 ≤ s.length ∧ d.runF s = (s.drop i.1).foldl (fun k b => d.stepF k b.toNat) i.2) (fun i => s.length - i.1) (fun i => [(1, .str s), (2, .ptr H.length 259 0 0), (5, .int .i64 i.2), (17, .int .i64 s.length), (18, .int .i64 i.1)])
    (fun _ => H ++ [some (.row 259 [.agg (dfc d.of d.n d.x1 d.x2)])]) (0, 0) ⟨by omega, e⟩ ?_ rfl ?_
   ·simp (disch := omega) only [go_sem, ↓reduceIte, simprocAttr, Sl]
   ·rintro ⟨i, k⟩ t ⟨hi, hr⟩ ht K hK
    simp only at hi hr
    simp (disch := omega) only [go_sem, ↓reduceIte, simprocAttr, Sl] at ht
    by_cases hlt : i < s.length
    ·obtain ⟨b, hb⟩ := get_some hlt
     rw [drop_get hb, List.foldl_cons] at hr
     have hk := hK (i + 1, d.stepF k b.toNat)
     have hs1 := fun H => hst k b.toNat b.toNat_lt H
     clear hst hK e hm
     repeat' first | (simp (disch := first | omega | assumption) only [go_sem, ↓reduceIte, simprocAttr, *]) | refine HG_split (fun hb=>?_) fun hb=>?_ | refine HC_split (fun hb=>?_) fun hb=>?_
     all_goals (try simp only [FX] at *)
     all_goals first | omega | skip
     refine hk _ _ ⟨by omega, hr⟩ (by omega) ?_ rfl
     simp (disch := omega) only [go_sem, ↓reduceIte, simprocAttr, Sl, ht, and_self, cast_succ]
    ·have : i = s.length := by omega
     subst this
     rw [List.drop_length] at hr
     simp only [List.foldl_nil] at hr
     rw [hr]
     clear hst hK hr e hm
     repeat' first | (simp (disch := first | omega | assumption) only [go_sem, ↓reduceIte, simprocAttr, *]) | refine HG_split (fun hb=>?_) fun hb=>?_ | refine HC_split (fun hb=>?_) fun hb=>?_
     all_goals (try simp only [FX] at *)
     all_goals first | omega | skip
     exact finV_drop rfl rfl
theorem dTag_den (hC : ClsDen E R.n_class_May) (d : DF) (s : List UInt8) (hs : s.length ≤ 9223372036854775807) (H : Heap) : den E R.n_dfa_Tag [d.E, .str s] H = some (.ret (.int .i64 (if d.may then d.tagF s else -1)), H) := by
 obtain ⟨k1, k2, hle, hle2, o1, o2, hA, hL, hx1, hx2, hn, htk⟩ := d.facts
 unfold EV.one at o1 o2
 have hr := fun H => dRun_den (R := R) hC d s hs H
 cases hd : d.may with
 | false =>
  rw [hd] at hr
  simp only [Bool.false_eq_true, if_false] at hr ⊢
  refine den_of R.d_dfa_Tag (by simp) ?_
  unfold Gn.dfa_Tag Gn.dfa_Tag_r
  unfold DF.E at hr ⊢
  repeat' first | (simp (disch := first | omega | assumption) only [go_sem, ↓reduceIte, simprocAttr, *]) | refine HG_split (fun hb=>?_) fun hb=>?_ | refine HC_split (fun hb=>?_) fun hb=>?_
  all_goals (try simp only [FX] at *)
  all_goals first | omega | exact finV_drop rfl rfl
 | true =>
  rw [hd] at hr
  have g := DF.good hd
  obtain ⟨r1, r2⟩ := runF_in g s
  simp only [if_true] at hr ⊢
  refine den_of R.d_dfa_Tag (by simp) ?_
  unfold Gn.dfa_Tag Gn.dfa_Tag_r
  unfold DF.E at hr ⊢
  generalize hq : d.runF s = q at hr r1 r2
  by_cases hlt : q < 0
  ·have e : d.tagF s = -1 := by unfold DF.tagF; rw [hq, if_pos hlt]
   rw [e]
   repeat' first | (simp (disch := first | omega | assumption) only [go_sem, ↓reduceIte, simprocAttr, *]) | refine HG_split (fun hb=>?_) fun hb=>?_ | refine HC_split (fun hb=>?_) fun hb=>?_
   all_goals (try simp only [FX] at *)
   all_goals first | omega | exact finV_drop rfl rfl
  ·obtain ⟨v, hv⟩ := get_some (l := d.tags) (i := q.toNat) (by rw [g.tl]; omega)
   have e : d.tagF s = v := by unfold DF.tagF; rw [hq, if_neg hlt]; simp [List.getD_eq_getElem?_getD, hv]
   have hat := d.h2.elemI (k := q) (e := .int .i64 v) (by omega) (intsE_get hv)
   rw [e]
   repeat' first | (simp (disch := first | omega | assumption) only [go_sem, ↓reduceIte, simprocAttr, *]) | refine HG_split (fun hb=>?_) fun hb=>?_ | refine HC_split (fun hb=>?_) fun hb=>?_
   all_goals (try simp only [FX] at *)
   all_goals first | omega | exact finV_drop rfl rfl
theorem refDTag_den (d : DF) (g : d.Good) (s : List UInt8) (hs : s.length ≤ 9223372036854775807) (H : Heap) : den E R.n_hackleref09_Tag [d.E, .str s] H = some (.ret (.int .i64 (d.tagF s)), H) := by
 obtain ⟨k1, k2, hle, hle2, o1, o2, hA, hL, hx1, hx2, hn, htk⟩ := d.facts
 unfold EV.one at o1 o2
 have hr := fun H => refDRun_den (R := R) d g.wide s hs H
 refine den_of R.d_hackleref09_Tag (by simp) ?_
 unfold Gn.hackleref09_Tag Gn.hackleref09_Tag_r
 obtain ⟨r1, r2⟩ := runF_in g s
 unfold DF.E at hr ⊢
 generalize hq : d.runF s = q at hr r1 r2
 by_cases hlt : q < 0
 ·have e : d.tagF s = -1 := by unfold DF.tagF; rw [hq, if_pos hlt]
  rw [e]
  repeat' first | (simp (disch := first | omega | assumption) only [go_sem, ↓reduceIte, simprocAttr, *]) | refine HG_split (fun hb=>?_) fun hb=>?_ | refine HC_split (fun hb=>?_) fun hb=>?_
  all_goals (try simp only [FX] at *)
  all_goals first | omega | exact finV_drop rfl rfl
 ·obtain ⟨v, hv⟩ := get_some (l := d.tags) (i := q.toNat) (by rw [g.tl]; omega)
  have e : d.tagF s = v := by unfold DF.tagF; rw [hq, if_neg hlt]; simp [List.getD_eq_getElem?_getD, hv]
  have hat := d.h2.elemI (k := q) (e := .int .i64 v) (by omega) (intsE_get hv)
  rw [e]
  repeat' first | (simp (disch := first | omega | assumption) only [go_sem, ↓reduceIte, simprocAttr, *]) | refine HG_split (fun hb=>?_) fun hb=>?_ | refine HC_split (fun hb=>?_) fun hb=>?_
  all_goals (try simp only [FX] at *)
  all_goals first | omega | exact finV_drop rfl rfl
end
def DF.great (d : DF) : Bool := decide (40 < d.rows.length ∧ d.rows.length ≤ 600 ∨ 650 < d.rows.length ∨ 700 < d.tags.length) || d.rows.any fun l => decide (300 < l.length)
theorem dfc_flat {of : Nat → Nat} {n : Int} {x1 x2 : EV} : List.take 259 ((tab 256 fun i => EV.int .u8 ((of i : Nat) : Int)) ++ [EV.int .i64 n, x1, x2]) = dfc of n x1 x2 := by
 unfold dfc
 rw [List.take_of_length_le (by simp [tab_len]), List.append_assoc]
 rfl
theorem DF.ok (d : DF) {n : Nat} : (EV.agg (dfc d.of d.n d.x1 d.x2)).ok n = true := by
 have h1 := d.h1.ok n
 have h2 := d.h2.ok n
 simp [dfc, EV.ok, okL_app, okL_tab_int, okL, h1, h2]
section
variable {E : Env} [R : DfaR E]
theorem great_den (d : DF) (H : Heap) : den E R.n_hacklelaw09_Great [d.E] H = some (.ret (.bool d.great), H) := by
 obtain ⟨k1, k2, hle, hle2, o1, o2, hA, hL, hx1, hx2, hn, htk⟩ := d.facts
 unfold EV.one at o1 o2
 by_cases h1 : 40 < d.rows.length ∧ d.rows.length ≤ 600 ∨ 650 < d.rows.length ∨ 700 < d.tags.length
 ·have e : d.great = true := by unfold DF.great; rw [decide_eq_true h1]; rfl
  rw [e]
  refine den_of R.d_hacklelaw09_Great (by simp) ?_
  unfold Gn.hacklelaw09_Great Gn.hacklelaw09_Great_r DF.E
  clear e
  rcases h1 with ⟨h1, h2⟩ | h1 | h1
  ·repeat' first | (simp (disch := first | omega | assumption) only [go_sem, ↓reduceIte, simprocAttr, *]) | refine HG_split (fun hb=>?_) fun hb=>?_ | refine HC_split (fun hb=>?_) fun hb=>?_
   all_goals (try simp only [FX] at *)
   all_goals first | omega | exact finV_drop rfl rfl
  ·repeat' first | (simp (disch := first | omega | assumption) only [go_sem, ↓reduceIte, simprocAttr, *]) | refine HG_split (fun hb=>?_) fun hb=>?_ | refine HC_split (fun hb=>?_) fun hb=>?_
   all_goals (try simp only [FX] at *)
   all_goals first | omega | exact finV_drop rfl rfl
  ·by_cases h2 : 40 < d.rows.length ∧ d.rows.length ≤ 600
   ·obtain ⟨h2, h3⟩ := h2
    repeat' first | (simp (disch := first | omega | assumption) only [go_sem, ↓reduceIte, simprocAttr, *]) | refine HG_split (fun hb=>?_) fun hb=>?_ | refine HC_split (fun hb=>?_) fun hb=>?_
    all_goals (try simp only [FX] at *)
    all_goals first | omega | exact finV_drop rfl rfl
   ·by_cases h3 : 650 < d.rows.length
    ·repeat' first | (simp (disch := first | omega | assumption) only [go_sem, ↓reduceIte, simprocAttr, *]) | refine HG_split (fun hb=>?_) fun hb=>?_ | refine HC_split (fun hb=>?_) fun hb=>?_
     all_goals (try simp only [FX] at *)
     all_goals first | omega | exact finV_drop rfl rfl
    ·by_cases h4 : 40 < d.rows.length
     ·repeat' first | (simp (disch := first | omega | assumption) only [go_sem, ↓reduceIte, simprocAttr, *]) | refine HG_split (fun hb=>?_) fun hb=>?_ | refine HC_split (fun hb=>?_) fun hb=>?_
      all_goals (try simp only [FX] at *)
      all_goals first | omega | exact finV_drop rfl rfl
     ·repeat' first | (simp (disch := first | omega | assumption) only [go_sem, ↓reduceIte, simprocAttr, *]) | refine HG_split (fun hb=>?_) fun hb=>?_ | refine HC_split (fun hb=>?_) fun hb=>?_
      all_goals (try simp only [FX] at *)
      all_goals first | omega | exact finV_drop rfl rfl
 ·have e : d.great = d.rows.any fun l => decide (300 < l.length) := by unfold DF.great; rw [decide_eq_false h1]; rfl
  rw [e]
  have h2 : ¬ (40 < d.rows.length ∧ d.rows.length ≤ 600) := fun h => h1 (.inl h)
  have h3 : d.rows.length ≤ 650 := by omega
  have h4 : d.tags.length ≤ 700 := by omega
  refine den_of R.d_hacklelaw09_Great (by simp) ?_
  unfold Gn.hacklelaw09_Great Gn.hacklelaw09_Great_r DF.E
  clear e h1
  refine Hd_cut2 (fun t H' => Sl t [(1, .ptr H.length 259 0 0)] ∧ H' = H ++ [some (.row 259 [.agg (dfc d.of d.n d.x1 d.x2)])]) ?_ ?_
  ·repeat' first | (simp (disch := first | omega | assumption) only [go_sem, ↓reduceIte, simprocAttr, Sl, *]) | refine HG_split (fun hb=>?_) fun hb=>?_ | refine HC_split (fun hb=>?_) fun hb=>?_
  rintro t _ ⟨ht, rfl⟩
  simp (disch := omega) only [go_sem, ↓reduceIte, simprocAttr, Sl] at ht
  refine Hd_cut2 (fun t H' => Sl t [(1, .ptr H.length 259 0 0)] ∧ H' = H ++ [some (.row 259 [.agg (dfc d.of d.n d.x1 d.x2)])]) ?_ ?_
  ·by_cases h5 : 40 < d.rows.length
   ·repeat' first | (simp (disch := first | omega | assumption) only [go_sem, ↓reduceIte, simprocAttr, Sl, *]) | refine HG_split (fun hb=>?_) fun hb=>?_ | refine HC_split (fun hb=>?_) fun hb=>?_
    all_goals (try simp only [FX] at *)
    all_goals first | omega | skip
    all_goals simp [ht]
   ·repeat' first | (simp (disch := first | omega | assumption) only [go_sem, ↓reduceIte, simprocAttr, Sl, *]) | refine HG_split (fun hb=>?_) fun hb=>?_ | refine HC_split (fun hb=>?_) fun hb=>?_
    all_goals (try simp only [FX] at *)
    all_goals first | omega | skip
    all_goals simp [ht]
  rintro t2 _ ⟨ht2, rfl⟩
  simp (disch := omega) only [go_sem, ↓reduceIte, simprocAttr, Sl] at ht2
  clear ht t
  repeat' first | (simp (disch := first | omega | assumption) only [go_sem, ↓reduceIte, simprocAttr, *]) | refine HG_split (fun hb=>?_) fun hb=>?_ | refine HC_split (fun hb=>?_) fun hb=>?_
  refine while_of (ι := Nat) (fun i => i ≤ d.rows.length ∧ (d.rows.any fun l => decide (300 < l.length)) = ((d.rows.drop i).any fun l => decide (300 < l.length))) (fun i => d.rows.length - i) (fun i => [(1, .ptr H.length 259 0 0), (3, .int .i64 i)])
   (fun _ => H ++ [some (.row 259 [.agg (dfc d.of d.n d.x1 d.x2)])]) 0 ⟨by omega, rfl⟩ ?_ (by first | rfl | simp) ?_
  ·simp (disch := omega) only [go_sem, ↓reduceIte, simprocAttr, Sl, ht2]
  ·rintro i t ⟨hi, hr⟩ ht K hK
   simp (disch := omega) only [go_sem, ↓reduceIte, simprocAttr, Sl] at ht
   by_cases hlt : i < d.rows.length
   ·obtain ⟨l, hl⟩ := get_some hlt
    obtain ⟨y, hy, hyv, hat⟩ := d.row hl
    have hyl := hyv.lenI
    have hyle := hyv.leI
    have hyo := hyv.one.2
    unfold EV.one at hyo
    rw [drop_get hl, List.any_cons] at hr
    by_cases h5 : 300 < l.length
    ·rw [decide_eq_true h5, Bool.true_or] at hr
     rw [hr]
     clear hK hr
     repeat' first | (simp (disch := first | omega | assumption) only [go_sem, ↓reduceIte, simprocAttr, *]) | refine HG_split (fun hb=>?_) fun hb=>?_ | refine HC_split (fun hb=>?_) fun hb=>?_
     all_goals (try simp only [FX] at *)
     all_goals first | omega | exact finV_drop rfl rfl
    ·rw [decide_eq_false h5, Bool.false_or] at hr
     have hk := hK (i + 1)
     clear hK
     repeat' first | (simp (disch := first | omega | assumption) only [go_sem, ↓reduceIte, simprocAttr, *]) | refine HG_split (fun hb=>?_) fun hb=>?_ | refine HC_split (fun hb=>?_) fun hb=>?_
     all_goals (try simp only [FX] at *)
     all_goals first | omega | skip
     refine hk _ _ ⟨by omega, hr⟩ (by omega) ?_ rfl
     simp (disch := omega) only [go_sem, ↓reduceIte, simprocAttr, Sl, ht, and_self, cast_succ]
   ·have : i = d.rows.length := by omega
    subst this
    rw [List.drop_length] at hr
    rw [hr]
    clear hK hr
    repeat' first | (simp (disch := first | omega | assumption) only [go_sem, ↓reduceIte, simprocAttr, *]) | refine HG_split (fun hb=>?_) fun hb=>?_ | refine HC_split (fun hb=>?_) fun hb=>?_
    all_goals (try simp only [FX] at *)
    all_goals first | omega | exact finV_drop rfl rfl
theorem of_den (d : DF) (H : Heap) : den E R.n_hacklelaw09_Of [d.E] H = some (.ret d.E, H) := by
 obtain ⟨k1, k2, hle, hle2, o1, o2, hA, hL, hx1, hx2, hn, htk⟩ := d.facts
 unfold EV.one at o1 o2
 have h256 : (dfc d.of d.n d.x1 d.x2).take 256 = tab 256 (fun i => .int .u8 ((d.of i : Nat) : Int)) := by
  unfold dfc
  rw [List.append_assoc, tab_take_self]
 have c1 := d.h1.one.1
 have c2 := d.h2.one.1
 unfold EV.cells at c1 c2
 have h257 : List.take 257 ((tab 256 fun i => EV.int .u8 ((d.of i : Nat) : Int)) ++ [EV.int .i64 d.n, EV.nilsl, EV.nilsl]) = (tab 256 fun i => EV.int .u8 ((d.of i : Nat) : Int)) ++ [EV.int .i64 d.n] := by
  rw [List.take_append, List.take_of_length_le (by rw [tab_len]; omega), tab_len]; rfl
 have h258 : List.take 258 ((tab 256 fun i => EV.int .u8 ((d.of i : Nat) : Int)) ++ [EV.int .i64 d.n, d.x1, EV.nilsl]) = (tab 256 fun i => EV.int .u8 ((d.of i : Nat) : Int)) ++ [EV.int .i64 d.n, d.x1] := by
  rw [List.take_append, List.take_of_length_le (by rw [tab_len]; omega), tab_len]; rfl
 have hone : (tab 256 (fun i => EV.int .u8 ((d.of i : Nat) : Int))).all EV.one = true := by
  rw [← h256]
  exact List.all_eq_true.2 fun x hx => List.all_eq_true.1 hA x (List.mem_of_mem_take hx)
 refine den_of R.d_hacklelaw09_Of (by simp) ?_
 unfold Gn.hacklelaw09_Of Gn.hacklelaw09_Of_r DF.E
 repeat' first | (simp (disch := first | omega | assumption) only [go_sem, ↓reduceIte, simprocAttr, *]) | refine HG_split (fun hb=>?_) fun hb=>?_ | refine HC_split (fun hb=>?_) fun hb=>?_
 all_goals (try simp only [FX] at *)
 all_goals first | omega | skip
 rw [dfc_flat]
 exact finV_drop d.ok rfl
theorem plain_den (d : DF) (H : Heap) : den E R.n_hacklelaw09_Plain [d.E] H = some (.ret d.E, H) := by
 obtain ⟨k1, k2, hle, hle2, o1, o2, hA, hL, hx1, hx2, hn, htk⟩ := d.facts
 unfold EV.one at o1 o2
 have h256 : (dfc d.of d.n d.x1 d.x2).take 256 = tab 256 (fun i => .int .u8 ((d.of i : Nat) : Int)) := by
  unfold dfc
  rw [List.append_assoc, tab_take_self]
 have c1 := d.h1.one.1
 have c2 := d.h2.one.1
 unfold EV.cells at c1 c2
 have h257 : List.take 257 ((tab 256 fun i => EV.int .u8 ((d.of i : Nat) : Int)) ++ [EV.int .i64 d.n, EV.nilsl, EV.nilsl]) = (tab 256 fun i => EV.int .u8 ((d.of i : Nat) : Int)) ++ [EV.int .i64 d.n] := by
  rw [List.take_append, List.take_of_length_le (by rw [tab_len]; omega), tab_len]; rfl
 have h258 : List.take 258 ((tab 256 fun i => EV.int .u8 ((d.of i : Nat) : Int)) ++ [EV.int .i64 d.n, d.x1, EV.nilsl]) = (tab 256 fun i => EV.int .u8 ((d.of i : Nat) : Int)) ++ [EV.int .i64 d.n, d.x1] := by
  rw [List.take_append, List.take_of_length_le (by rw [tab_len]; omega), tab_len]; rfl
 have hone : (tab 256 (fun i => EV.int .u8 ((d.of i : Nat) : Int))).all EV.one = true := by
  rw [← h256]
  exact List.all_eq_true.2 fun x hx => List.all_eq_true.1 hA x (List.mem_of_mem_take hx)
 have hfl := dfc_flat (of := d.of) (n := d.n) (x1 := d.x1) (x2 := d.x2)
 refine den_of R.d_hacklelaw09_Plain (by simp) ?_
 unfold Gn.hacklelaw09_Plain Gn.hacklelaw09_Plain_r DF.E
 repeat' first | (simp (disch := first | omega | assumption) only [go_sem, ↓reduceIte, simprocAttr, *]) | refine HG_split (fun hb=>?_) fun hb=>?_ | refine HC_split (fun hb=>?_) fun hb=>?_
 all_goals (try simp only [FX] at *)
 all_goals first | omega | skip
 exact finV_drop d.ok rfl
end
theorem fits_repL {k : SK} {ks : List SK} {xs : List EV} : ∀ {n : Nat} {l : List EV}, l.length = n → (∀ x ∈ l, fit k x = true) → fits (List.replicate n k ++ ks) (l ++ xs) = fits ks xs
 | 0, [], _, _ => rfl
 | 0, x :: l, h, _ => by simp at h
 | n + 1, [], h, _ => by simp at h
 | n + 1, x :: l, h, hl => by
  rw [List.replicate_succ, List.cons_append, List.cons_append]
  simp only [fits]
  rw [hl x (by simp), Bool.true_and]
  exact fits_repL (by simpa using h) fun y hy => hl y (by simp [hy])
theorem eqL_self : ∀ {l : List EV}, (∀ x ∈ l, sceq x x = true) → eqL l l = true
 | [], _ => rfl
 | x :: l, h => by simp only [eqL]; rw [h x (by simp), eqL_self fun y hy => h y (by simp [hy])]; rfl
theorem cls_mem {of : Nat → Nat} {n : Int} {x : EV} (h : x ∈ (tab 256 fun i => EV.int .u8 ((of i : Nat) : Int))) : ∃ i, i < 256 ∧ x = .int .u8 (of i) := by
 obtain ⟨i, hi, e⟩ := List.mem_iff_getElem.1 h
 rw [tab_len] at hi
 have := tab_get (f := fun i => EV.int .u8 ((of i : Nat) : Int)) hi
 rw [List.getElem?_eq_getElem (by rw [tab_len]; exact hi), e] at this
 exact ⟨i, hi, Option.some.inj this⟩
theorem dfc_fits {of : Nat → Nat} {n : Int} {x1 x2 : EV} : fits (List.replicate 256 (.i .u8) ++ [.i .i64]) ((dfc of n x1 x2).take 257) = true := by
 rw [dfc_cls, fits_repL tab_len]
 ·rfl
 ·intro x hx
  obtain ⟨i, hi, rfl⟩ := cls_mem (n := 0) hx
  rfl
theorem dfc_eq {of : Nat → Nat} {n : Int} {x1 x2 y1 y2 : EV} : eqL ((dfc of n x1 x2).take 257) ((dfc of n y1 y2).take 257) = true := by
 rw [dfc_cls, dfc_cls]
 refine eqL_self fun x hx => ?_
 rw [List.mem_append] at hx
 rcases hx with hx | hx
 ·obtain ⟨i, hi, rfl⟩ := cls_mem (n := 0) hx
  simp [sceq]
 ·simp only [List.mem_cons, List.not_mem_nil, or_false] at hx
  subst hx
  simp [sceq]
section
variable {E : Env} [R : DfaR E]
theorem dInts_den (x y : EV) (a : List Int) (hx : IntsV x a) (hy : IntsV y a) (H : Heap) : den E R.n_hackleref08_Ints [x, y] H = some (.ret (.bool true), H) := by
 have lx := hx.lenI
 have ly := hy.lenI
 have xle := hx.leI
 refine den_of R.d_hackleref08_Ints (by simp) ?_
 unfold Gn.hackleref08_Ints Gn.hackleref08_Ints_r
 have hll2 : ((a.length : Int) != (a.length : Int)) = false := by simp
 simp (disch := omega) only [go_sem, ↓reduceIte, simprocAttr, lx, ly, hll2]
 refine while_of (ι := Nat) (fun i => i ≤ a.length) (fun i => a.length - i) (fun i => [(0, x), (1, y), (5, .int .i64 i)]) (fun _ => H) 0 (by omega) ?_ rfl ?_
 ·simp (disch := omega) only [go_sem, ↓reduceIte, simprocAttr, Sl]
 ·rintro i t hi ht K hK
  simp (disch := omega) only [go_sem, ↓reduceIte, simprocAttr, Sl] at ht
  by_cases hlt : i < a.length
  ·obtain ⟨v, hv⟩ := get_some hlt
   have h1 := hx.at hv
   have h2 := hy.at hv
   have hk := hK (i + 1)
   have hne : (v != v) = false := by simp
   clear hK
   repeat' first | (simp (disch := first | omega | assumption) only [go_sem, ↓reduceIte, simprocAttr, *]) | refine HG_split (fun hb=>?_) fun hb=>?_ | refine HC_split (fun hb=>?_) fun hb=>?_
   all_goals (try simp only [FX] at *)
   all_goals first | omega | exact absurd trivial (by assumption) | skip
   refine hk _ _ (by omega) (by omega) ?_ rfl
   simp (disch := omega) only [go_sem, ↓reduceIte, simprocAttr, Sl, ht, and_self, cast_succ]
  ·have hie : i = a.length := by omega
   clear hK
   repeat' first | (simp (disch := first | omega | assumption) only [go_sem, ↓reduceIte, simprocAttr, *]) | refine HG_split (fun hb=>?_) fun hb=>?_ | refine HC_split (fun hb=>?_) fun hb=>?_
   all_goals (try simp only [FX] at *)
   all_goals first | omega | exact finV_same rfl rfl
theorem equal_den (x y : EV) (a : List Int) (hx : IntsV x a) (hy : IntsV y a) (H : Heap) : den E R.n_slices_Equal_int_int [x, y] H = some (.ret (.bool true), H) := by
 have lx := hx.lenI
 have ly := hy.lenI
 have xle := hx.leI
 refine den_of R.d_slices_Equal_int_int (by simp) ?_
 unfold Gn.slices_Equal_int_int Gn.slices_Equal_int_int_r
 have hll2 : ((a.length : Int) != (a.length : Int)) = false := by simp
 simp (disch := omega) only [go_sem, ↓reduceIte, simprocAttr, lx, ly, hll2]
 refine while_of (ι := Nat) (fun i => i ≤ a.length) (fun i => a.length - i) (fun i => [(0, x), (1, y), (12, .int .i64 a.length), (13, .int .i64 i)]) (fun _ => H) 0 (by omega) ?_ rfl ?_
 ·simp (disch := omega) only [go_sem, ↓reduceIte, simprocAttr, Sl]
 ·rintro i t hi ht K hK
  simp (disch := omega) only [go_sem, ↓reduceIte, simprocAttr, Sl] at ht
  by_cases hlt : i < a.length
  ·obtain ⟨v, hv⟩ := get_some hlt
   have h1 := hx.at hv
   have h2 := hy.at hv
   have hk := hK (i + 1)
   have hne : (v != v) = false := by simp
   clear hK
   repeat' first | (simp (disch := first | omega | assumption) only [go_sem, ↓reduceIte, simprocAttr, *]) | refine HG_split (fun hb=>?_) fun hb=>?_ | refine HC_split (fun hb=>?_) fun hb=>?_
   all_goals (try simp only [FX] at *)
   all_goals first | omega | exact absurd trivial (by assumption) | skip
   refine hk _ _ (by omega) (by omega) ?_ rfl
   simp (disch := omega) only [go_sem, ↓reduceIte, simprocAttr, Sl, ht, and_self, cast_succ]
  ·have hie : i = a.length := by omega
   clear hK
   repeat' first | (simp (disch := first | omega | assumption) only [go_sem, ↓reduceIte, simprocAttr, *]) | refine HG_split (fun hb=>?_) fun hb=>?_ | refine HC_split (fun hb=>?_) fun hb=>?_
   all_goals (try simp only [FX] at *)
   all_goals first | omega | exact finV_same rfl rfl
theorem equalFunc_den (a b : DF) (h : a.rows = b.rows) (H : Heap) : den E R.n_slices_EqualFunc_int_int_int_int [a.x1, b.x1, .func (.func R.n_slices_Equal_int_int) [] []] H = some (.ret (.bool true), H) := by
 have lx := a.k1
 have ly := b.k1
 rw [← h] at ly
 have xle := a.le
 refine den_of R.d_slices_EqualFunc_int_int_int_int (by simp) ?_
 unfold Gn.slices_EqualFunc_int_int_int_int Gn.slices_EqualFunc_int_int_int_int_r
 have hll2 : ((a.rows.length : Int) != (a.rows.length : Int)) = false := by simp
 simp (disch := omega) only [go_sem, ↓reduceIte, simprocAttr, lx, ly, hll2]
 refine while_of (ι := Nat) (fun i => i ≤ a.rows.length) (fun i => a.rows.length - i) (fun i => [(0, a.x1), (1, b.x1), (2, .func (.func R.n_slices_Equal_int_int) [] []), (15, a.x1), (16, .int .i64 a.rows.length), (17, .int .i64 i)]) (fun _ => H) 0 (by omega) ?_ rfl ?_
 ·simp (disch := omega) only [go_sem, ↓reduceIte, simprocAttr, Sl]
 ·rintro i t hi ht K hK
  simp (disch := omega) only [go_sem, ↓reduceIte, simprocAttr, Sl] at ht
  by_cases hlt : i < a.rows.length
  ·obtain ⟨l, hl⟩ := get_some hlt
   obtain ⟨y, hy, hyv, hat⟩ := a.row hl
   obtain ⟨z, hz, hzv, hat2⟩ := b.row (h ▸ hl)
   have ho1 := hyv.one.2
   have ho2 := hzv.one.2
   unfold EV.one at ho1 ho2
   have hk := hK (i + 1)
   have heq := equal_den (R := R) y z l hyv hzv H
   clear hK h
   repeat' first | (simp (disch := first | omega | assumption) only [go_sem, ↓reduceIte, simprocAttr, *]) | refine HG_split (fun hb=>?_) fun hb=>?_ | refine HC_split (fun hb=>?_) fun hb=>?_
   all_goals (try simp only [FX] at *)
   all_goals first | omega | exact absurd trivial (by assumption) | skip
   refine hk _ _ (by omega) (by omega) ?_ rfl
   simp (disch := omega) only [go_sem, ↓reduceIte, simprocAttr, Sl, ht, and_self, cast_succ]
  ·have hie : i = a.rows.length := by omega
   clear hK
   repeat' first | (simp (disch := first | omega | assumption) only [go_sem, ↓reduceIte, simprocAttr, *]) | refine HG_split (fun hb=>?_) fun hb=>?_ | refine HC_split (fun hb=>?_) fun hb=>?_
   all_goals (try simp only [FX] at *)
   all_goals first | omega | exact finV_same rfl rfl
structure Like (a b : DF) : Prop where
 of : a.of = b.of
 n : a.n = b.n
 rows : a.rows = b.rows
 tags : a.tags = b.tags
theorem dSame_den (a b : DF) (h : Like a b) (H : Heap) : den E R.n_dfa_Same [a.E, b.E] H = some (.ret (.bool true), H) := by
 obtain ⟨k1, k2, hle, hle2, o1, o2, hA, hL, hx1, hx2, hn, htk⟩ := a.facts
 obtain ⟨j1, j2, ile, ile2, p1, p2, iA, iL, ix1, ix2, ien, itk⟩ := b.facts
 unfold EV.one at o1 o2 p1 p2
 have f1 := dfc_fits (of := a.of) (n := a.n) (x1 := a.x1) (x2 := a.x2)
 have f2 := dfc_fits (of := b.of) (n := b.n) (x1 := b.x1) (x2 := b.x2)
 have f3 : eqL ((dfc a.of a.n a.x1 a.x2).take 257) ((dfc b.of b.n b.x1 b.x2).take 257) = true := by rw [h.of, h.n]; exact dfc_eq
 have e1 := fun H => equal_den (R := R) a.x2 b.x2 a.tags a.h2 (h.tags ▸ b.h2) H
 have e2 := fun H => equalFunc_den (R := R) a b h.rows H
 refine den_of R.d_dfa_Same (by simp) ?_
 unfold Gn.dfa_Same Gn.dfa_Same_r DF.E
 generalize (List.replicate 256 (SK.i .u8) ++ [SK.i .i64]) = ks at f1 f2 ⊢
 repeat' first | (simp (disch := first | omega | assumption) only [go_sem, ↓reduceIte, simprocAttr, *]) | refine HG_split (fun hb=>?_) fun hb=>?_ | refine HC_split (fun hb=>?_) fun hb=>?_
 all_goals (try simp only [FX] at *)
 all_goals first | omega | exact finV_drop rfl rfl
theorem refDSame_den (a b : DF) (h : Like a b) (H : Heap) : den E R.n_hackleref09_Same [a.E, b.E] H = some (.ret (.bool true), H) := by
 obtain ⟨k1, k2, hle, hle2, o1, o2, hA, hL, hx1, hx2, hn, htk⟩ := a.facts
 obtain ⟨j1, j2, ile, ile2, p1, p2, iA, iL, ix1, ix2, ien, itk⟩ := b.facts
 unfold EV.one at o1 o2 p1 p2
 have f1 := dfc_fits (of := a.of) (n := a.n) (x1 := a.x1) (x2 := a.x2)
 have f2 := dfc_fits (of := b.of) (n := b.n) (x1 := b.x1) (x2 := b.x2)
 have f3 : eqL ((dfc a.of a.n a.x1 a.x2).take 257) ((dfc b.of b.n b.x1 b.x2).take 257) = true := by rw [h.of, h.n]; exact dfc_eq
 have e1 := fun H => dInts_den (R := R) a.x2 b.x2 a.tags a.h2 (h.tags ▸ b.h2) H
 rw [← h.rows] at j1 ile
 refine den_of R.d_hackleref09_Same (by simp) ?_
 unfold Gn.hackleref09_Same Gn.hackleref09_Same_r DF.E
 generalize (List.replicate 256 (SK.i .u8) ++ [SK.i .i64]) = ks at f1 f2 ⊢
 repeat' first | (simp (disch := first | omega | assumption) only [go_sem, ↓reduceIte, simprocAttr, *]) | refine HG_split (fun hb=>?_) fun hb=>?_ | refine HC_split (fun hb=>?_) fun hb=>?_
 all_goals (try simp only [FX] at *)
 all_goals first | omega | exact absurd trivial (by assumption) | skip
 refine while_of (ι := Nat) (fun i => i ≤ a.rows.length) (fun i => a.rows.length - i) (fun i => [(2, .ptr H.length 259 0 0), (3, .ptr (H.length + 1) 259 0 0), (5, .int .i64 i)])
  (fun _ => H ++ [some (.row 259 [.agg (dfc a.of a.n a.x1 a.x2)]), some (.row 259 [.agg (dfc b.of b.n b.x1 b.x2)])]) 0 (by omega) ?_ (by first | rfl | simp) ?_
 ·simp (disch := omega) only [go_sem, ↓reduceIte, simprocAttr, Sl]
 ·rintro i t hi ht K hK
  simp (disch := omega) only [go_sem, ↓reduceIte, simprocAttr, Sl] at ht
  by_cases hlt : i < a.rows.length
  ·obtain ⟨l, hl⟩ := get_some hlt
   obtain ⟨y, hy, hyv, hat⟩ := a.row hl
   obtain ⟨z, hz, hzv, hat2⟩ := b.row (h.rows ▸ hl)
   have ho1 := hyv.one.2
   have ho2 := hzv.one.2
   unfold EV.one at ho1 ho2
   have hk := hK (i + 1)
   have heq := fun H => dInts_den (R := R) y z l hyv hzv H
   clear hK e1 f1 f2 f3
   repeat' first | (simp (disch := first | omega | assumption) only [go_sem, ↓reduceIte, simprocAttr, *]) | refine HG_split (fun hb=>?_) fun hb=>?_ | refine HC_split (fun hb=>?_) fun hb=>?_
   all_goals (try simp only [FX] at *)
   all_goals first | omega | exact absurd trivial (by assumption) | skip
   refine hk _ _ (by omega) (by omega) ?_ rfl
   simp (disch := omega) only [go_sem, ↓reduceIte, simprocAttr, Sl, ht, and_self, cast_succ]
  ·have hie : i = a.rows.length := by omega
   clear hK e1 f1 f2 f3
   repeat' first | (simp (disch := first | omega | assumption) only [go_sem, ↓reduceIte, simprocAttr, *]) | refine HG_split (fun hb=>?_) fun hb=>?_ | refine HC_split (fun hb=>?_) fun hb=>?_
   all_goals (try simp only [FX] at *)
   all_goals first | omega | exact finV_drop rfl rfl
end
inductive DF.Lv (d : DF) : Nat → Prop
 | tag {i : Nat} {t : Int} : d.tags[i]? = some t → 0 ≤ t → DF.Lv d i
 | step {i : Nat} {l : List Int} {x : Int} : d.rows[i]? = some l → x ∈ l → 0 ≤ x → DF.Lv d x.toNat → DF.Lv d i
noncomputable def DF.liveL (d : DF) : List Bool := (List.range d.rows.length).map fun i => @decide (d.Lv i) (Classical.propDecidable _)
theorem liveL_len (d : DF) : d.liveL.length = d.rows.length := by simp [DF.liveL]
def seesP (M : List Bool) (x : Int) : Bool := decide (0 ≤ x) && M.getD x.toNat false
def seesB (M : List Bool) (l : List Int) : Bool := l.any (seesP M)
structure LI (d : DF) (M : List Bool) : Prop where
 len : M.length = d.rows.length
 snd : ∀ j : Nat, M[j]? = some true → d.Lv j
 tag : ∀ (j : Nat) (t : Int), d.tags[j]? = some t → 0 ≤ t → M[j]? = some true
theorem seesB_true {d : DF} {M : List Bool} (h : ∀ j : Nat, M[j]? = some true → d.Lv j) {l : List Int} {j : Nat} (hl : d.rows[j]? = some l) (hs : seesB M l = true) : d.Lv j := by
 unfold seesB at hs
 rw [List.any_eq_true] at hs
 obtain ⟨x, hx, hp⟩ := hs
 unfold seesP at hp
 simp only [Bool.and_eq_true, decide_eq_true_eq] at hp
 refine .step hl hx hp.1 (h _ ?_)
 have := hp.2
 rw [List.getD_eq_getElem?_getD] at this
 cases hq : M[x.toNat]? with
 | none => rw [hq] at this; simp at this
 | some b => rw [hq] at this; simp only [Option.getD_some] at this; rw [this]
theorem live_closed {d : DF} (g : d.Good) {M : List Bool} (h : LI d M) (hc : ∀ (j : Nat) (l : List Int), d.rows[j]? = some l → M[j]? = some true ∨ seesB M l = false) : M = d.liveL := by
 have all : ∀ j, d.Lv j → j < d.rows.length → M[j]? = some true := by
  intro j hj
  induction hj with
  | tag ht h0 => exact fun _ => h.tag _ _ ht h0
  | step hl hx h0 _ ih =>
   intro _
   have hr := g.rng _ (List.mem_of_getElem? hl) _ hx
   rcases hc _ _ hl with h1 | h1
   ·exact h1
   ·unfold seesB at h1
    rw [List.any_eq_false] at h1
    refine absurd ?_ (h1 _ hx)
    unfold seesP
    rw [decide_eq_true h0, List.getD_eq_getElem?_getD, ih (by omega)]
    rfl
 refine List.ext_getElem? fun j => ?_
 by_cases hj : j < d.rows.length
 ·obtain ⟨b, hb⟩ := get_some (l := M) (i := j) (by rw [h.len]; exact hj)
  rw [hb]
  unfold DF.liveL
  rw [List.getElem?_map, List.getElem?_range hj]
  simp only [Option.map_some, Option.some.injEq]
  cases b with
  | true => exact (@decide_eq_true _ (Classical.propDecidable _) (h.snd j hb)).symm
  | false =>
   refine (@decide_eq_false _ (Classical.propDecidable _) fun hl => ?_).symm
   rw [all j hl hj] at hb
   simp at hb
 ·rw [List.getElem?_eq_none (by rw [h.len]; omega), List.getElem?_eq_none (by rw [liveL_len]; omega)]
def cntX : List Bool → Nat
 | [] => 0
 | b :: M => (if b then 0 else 1) + cntX M
theorem cntX_set : ∀ {M : List Bool} {i : Nat}, M[i]? = some false → cntX (M.set i true) < cntX M
 | [], i, h => by simp at h
 | b :: M, 0, h => by simp at h; subst h; simp [cntX]
 | b :: M, i + 1, h => by
  simp only [List.getElem?_cons_succ] at h
  have := cntX_set h
  simp only [List.set_cons_succ, cntX]
  omega
theorem get_set_true {M : List Bool} {i j : Nat} (h : M[j]? = some true) : (M.set i true)[j]? = some true := by
 rw [List.getElem?_set]
 split
 ·split
  ·rfl
  ·rename_i h1 h2
   subst h1
   rw [List.getElem?_eq_none (by omega)] at h
   simp at h
 ·exact h
section
variable {E : Env} [R : DfaR E]
theorem live_c1_den (M : List Bool) (v : Int) (b j : Nat) (hv : -1 ≤ v ∧ v < M.length) (hM : M.length ≤ 100000) (H : Heap) (hj : H[j]? = some (some (.row 1 [.own b 1 0 M.length]))) (hb : H[b]? = some (some (.row 1 (boolsE M)))) :
  den E R.n_dfa_Dfa_live_c1 [.int .i64 v, .ptr j 1 0 0] H = some (.ret (.bool (seesP M v)), H) := by
 refine den_of R.d_dfa_Dfa_live_c1 (by simp) ?_
 unfold Gn.dfa_Dfa_live_c1 Gn.dfa_Dfa_live_c1_r
 have hbl := boolsE_len M
 by_cases h0 : 0 ≤ v
 ·obtain ⟨w, hw⟩ := get_some (l := M) (i := v.toNat) (by omega)
  have hg := boolsE_get hw
  have hs : seesP M v = w := by unfold seesP; rw [decide_eq_true h0, List.getD_eq_getElem?_getD, hw]; rfl
  rw [hs]
  clear hs hw
  repeat' first | (simp (disch := first | omega | assumption) only [go_sem, ↓reduceIte, simprocAttr, *]) | refine HG_split (fun hb=>?_) fun hb=>?_ | refine HC_split (fun hb=>?_) fun hb=>?_
  all_goals (try simp only [FX] at *)
  all_goals first | omega | exact finV_same rfl rfl
 ·have hs : seesP M v = false := by unfold seesP; rw [decide_eq_false h0]; rfl
  rw [hs]
  clear hs
  repeat' first | (simp (disch := first | omega | assumption) only [go_sem, ↓reduceIte, simprocAttr, *]) | refine HG_split (fun hb=>?_) fun hb=>?_ | refine HC_split (fun hb=>?_) fun hb=>?_
  all_goals (try simp only [FX] at *)
  all_goals first | omega | exact finV_same rfl rfl
end
structure TI (d : DF) (M : List Bool) (i : Nat) : Prop where
 len : M.length = d.rows.length
 snd : ∀ j : Nat, M[j]? = some true → d.Lv j
 tag : ∀ (j : Nat) (t : Int), j < i → d.tags[j]? = some t → 0 ≤ t → M[j]? = some true
theorem TI.set {d : DF} {M : List Bool} {i : Nat} (h : TI d M i) {t : Int} (ht : d.tags[i]? = some t) (hi : i < d.rows.length) : TI d (M.set i (decide (t ≥ 0))) (i + 1) := by
 refine ⟨by rw [List.length_set]; exact h.len, fun j hj => ?_, fun j t' hj ht' h0 => ?_⟩
 ·rw [List.getElem?_set] at hj
  split at hj
  ·rename_i e
   subst e
   split at hj
   ·simp only [Option.some.injEq, decide_eq_true_eq] at hj
    exact .tag ht hj
   ·simp at hj
  ·exact h.snd j hj
 ·rw [List.getElem?_set]
  split
  ·rename_i e
   subst e
   rw [ht] at ht'
   obtain rfl := Option.some.inj ht'
   rw [if_pos (by rw [h.len]; exact hi), decide_eq_true h0]
  ·exact h.tag j t' (by omega) ht' h0
theorem LI.set {d : DF} {M : List Bool} (h : LI d M) {j : Nat} (hj : d.Lv j) : LI d (M.set j true) := by
 refine ⟨by rw [List.length_set]; exact h.len, fun k hk => ?_, fun k t ht h0 => get_set_true (h.tag k t ht h0)⟩
 rw [List.getElem?_set] at hk
 split at hk
 ·rename_i e
  subst e
  exact hj
 ·exact h.snd k hk
theorem okL_bools (n : Nat) : ∀ M : List Bool, okL n (boolsE M) = true
 | [] => rfl
 | b :: M => by
  have := okL_bools n M
  unfold boolsE at this ⊢
  simp [okL, EV.ok, this]
section
variable {E : Env} [R : DfaR E]
set_option maxHeartbeats 4000000 in
theorem live_den (d : DF) (g : d.Good) (H : Heap) : den E R.n_dfa_Dfa_live [d.E] H = some (.ret (.imm 1 (boolsE d.liveL)), H) := by
 obtain ⟨k1, k2, hle, hle2, o1, o2, hA, hL, hx1, hx2, hn, htk⟩ := d.facts
 unfold EV.one at o1 o2
 have g6 := g.le
 rw [g.tl] at k2 hle2
 have hmk' : evMake 1 1 (.bool false) (.int .i64 d.rows.length) (.int .i64 d.rows.length) (H ++ [some (.row 259 [.agg (dfc d.of d.n d.x1 d.x2)])]) = some (.own (H.length + 1) 1 0 d.rows.length, H ++ [some (.row 259 [.agg (dfc d.of d.n d.x1 d.x2)]), some (.row 1 (boolsE (falses d.rows.length)))]) := by
  unfold evMake
  simp only
  rw [if_pos ⟨by omega, by omega, by omega, by omega⟩, Int.toNat_natCast, boolsE_falses]
  simp
 refine den_of R.d_dfa_Dfa_live (by simp) ?_
 unfold Gn.dfa_Dfa_live Gn.dfa_Dfa_live_r DF.E
 refine Hd_cut2 (fun t H' => Sl t [(1, .ptr H.length 259 0 0)] ∧ H' = H ++ [some (.row 259 [.agg (dfc d.of d.n d.x1 d.x2)])]) ?_ ?_
 ·clear hmk'
  repeat' first | (simp (disch := first | omega | assumption) only [go_sem, ↓reduceIte, simprocAttr, Sl, *]) | refine HG_split (fun hb=>?_) fun hb=>?_ | refine HC_split (fun hb=>?_) fun hb=>?_
 rintro t _ ⟨ht, rfl⟩
 simp (disch := omega) only [go_sem, ↓reduceIte, simprocAttr, Sl] at ht
 refine Hd_cut2 (fun t H' => Sl t [(1, .ptr H.length 259 0 0), (3, .ptr (H.length + 2) 1 0 0)] ∧ H' = H ++ [some (.row 259 [.agg (dfc d.of d.n d.x1 d.x2)]), some (.row 1 (boolsE (falses d.rows.length))), some (.row 1 [.own (H.length + 1) 1 0 d.rows.length])]) ?_ ?_
 ·repeat' first | (simp (disch := first | omega | assumption) only [go_sem, ↓reduceIte, simprocAttr, Sl, *]) | refine HG_split (fun hb=>?_) fun hb=>?_ | refine HC_split (fun hb=>?_) fun hb=>?_
  all_goals (try simp only [FX] at *)
  all_goals first | omega | skip
 rintro t2 _ ⟨ht2, rfl⟩
 simp (disch := omega) only [go_sem, ↓reduceIte, simprocAttr, Sl] at ht2
 clear ht t hmk'
 have cut : ∀ (c : EC) (t : Slots) (G : Heap) (Q : QT), (∃ M, TI d M d.rows.length ∧ Sl t [(1, .ptr H.length 259 0 0), (3, .ptr (H.length + 2) 1 0 0)] ∧ G = H ++ [some (.row 259 [.agg (dfc d.of d.n d.x1 d.x2)]), some (.row 1 (boolsE M)), some (.row 1 [.own (H.length + 1) 1 0 d.rows.length])]) → (∀ (M : List Bool) (t : Slots), LI d M → Sl t [(1, .ptr H.length 259 0 0), (3, .ptr (H.length + 2) 1 0 0)] → @Hd E ⟨c⟩ ⟨t⟩ ⟨H ++ [some (.row 259 [.agg (dfc d.of d.n d.x1 d.x2)]), some (.row 1 (boolsE M)), some (.row 1 [.own (H.length + 1) 1 0 d.rows.length])]⟩ ⟨Q⟩) → @Hd E ⟨c⟩ ⟨t⟩ ⟨G⟩ ⟨Q⟩ := by
  rintro c t G Q ⟨M, hM, ht, rfl⟩ h
  exact h M t ⟨hM.len, hM.snd, fun j u hu h0 => hM.tag j u (by have := (List.getElem?_eq_some_iff.1 hu).1; have := g.tl; omega) hu h0⟩ ht
 refine Hd_cut2 (fun t H' => ∃ M, TI d M d.rows.length ∧ Sl t [(1, .ptr H.length 259 0 0), (3, .ptr (H.length + 2) 1 0 0)] ∧ H' = H ++ [some (.row 259 [.agg (dfc d.of d.n d.x1 d.x2)]), some (.row 1 (boolsE M)), some (.row 1 [.own (H.length + 1) 1 0 d.rows.length])]) ?_ ?_
 ·repeat' first | (simp (disch := first | omega | assumption) only [go_sem, ↓reduceIte, simprocAttr, *]) | refine HG_split (fun hb=>?_) fun hb=>?_ | refine HC_split (fun hb=>?_) fun hb=>?_
  refine while_of (ι := Nat × List Bool) (fun i => i.1 ≤ d.rows.length ∧ TI d i.2 i.1) (fun i => d.rows.length - i.1) (fun i => [(1, .ptr H.length 259 0 0), (3, .ptr (H.length + 2) 1 0 0), (13, d.x2), (14, .int .i64 d.rows.length), (15, .int .i64 i.1)])
   (fun i => H ++ [some (.row 259 [.agg (dfc d.of d.n d.x1 d.x2)]), some (.row 1 (boolsE i.2)), some (.row 1 [.own (H.length + 1) 1 0 d.rows.length])]) (0, falses d.rows.length) ⟨by omega, by simp [falses], fun j hj => by simp [falses, List.getElem?_replicate] at hj, fun j t hj => absurd hj (Nat.not_lt_zero j)⟩ ?_ (by first | rfl | simp) ?_
  ·simp (disch := omega) only [go_sem, ↓reduceIte, simprocAttr, Sl, ht2]
  ·rintro ⟨i, M⟩ t ⟨hi, hM⟩ ht K hK
   simp only at hi hM
   simp (disch := omega) only [go_sem, ↓reduceIte, simprocAttr, Sl] at ht
   have hbl := boolsE_len M
   have hml := hM.len
   by_cases hlt : i < d.rows.length
   ·obtain ⟨v, hv⟩ := get_some (l := d.tags) (i := i) (by rw [g.tl]; exact hlt)
    have hat := d.h2.at hv
    obtain ⟨w, hw⟩ := get_some (l := M) (i := i) (by rw [hml]; exact hlt)
    have hg := boolsE_get hw
    have hst := boolsE_set M i (decide (v ≥ 0))
    have hk := hK (i + 1, M.set i (decide (v ≥ 0)))
    have hT := hM.set hv hlt
    clear hK cut
    show @Hd E ⟨_⟩ ⟨t⟩ ⟨H ++ [some (.row 259 [.agg (dfc d.of d.n d.x1 d.x2)]), some (.row 1 (boolsE M)), some (.row 1 [.own (H.length + 1) 1 0 d.rows.length])]⟩ ⟨_⟩
    repeat' first | (simp (disch := first | omega | assumption) only [go_sem, ↓reduceIte, simprocAttr, *]) | refine HG_split (fun hb=>?_) fun hb=>?_ | refine HC_split (fun hb=>?_) fun hb=>?_
    all_goals (try simp only [FX] at *)
    all_goals first | omega | skip
    refine hk _ _ ⟨by omega, hT⟩ (by omega) ?_ rfl
    simp (disch := omega) only [go_sem, ↓reduceIte, simprocAttr, Sl, ht, and_self, cast_succ]
   ·have hie : i = d.rows.length := by omega
    subst hie
    clear hK cut
    show @Hd E ⟨_⟩ ⟨t⟩ ⟨H ++ [some (.row 259 [.agg (dfc d.of d.n d.x1 d.x2)]), some (.row 1 (boolsE M)), some (.row 1 [.own (H.length + 1) 1 0 d.rows.length])]⟩ ⟨_⟩
    repeat' first | (simp (disch := first | omega | assumption) only [go_sem, ↓reduceIte, simprocAttr, *]) | refine HG_split (fun hb=>?_) fun hb=>?_ | refine HC_split (fun hb=>?_) fun hb=>?_
    all_goals (try simp only [FX] at *)
    all_goals first | omega | skip
    refine ⟨M, hM, ?_, rfl⟩
    simp (disch := omega) only [go_sem, ↓reduceIte, simprocAttr, Sl, ht, and_self, cast_succ]
 intro t G ht
 refine cut _ t G _ ht ?_
 clear cut ht t G ht2 t2
 intro M t hM ht
 simp (disch := omega) only [go_sem, ↓reduceIte, simprocAttr, Sl] at ht
 repeat' first | (simp (disch := first | omega | assumption) only [go_sem, ↓reduceIte, simprocAttr, *]) | refine HG_split (fun hb=>?_) fun hb=>?_ | refine HC_split (fun hb=>?_) fun hb=>?_
 refine while_of (ι := List Bool) (fun M => LI d M) (fun M => cntX M) (fun M => [(1, .ptr H.length 259 0 0), (3, .ptr (H.length + 2) 1 0 0)]) (fun M => H ++ [some (.row 259 [.agg (dfc d.of d.n d.x1 d.x2)]), some (.row 1 (boolsE M)), some (.row 1 [.own (H.length + 1) 1 0 d.rows.length])]) M hM ?_ (by first | rfl | simp) ?_
 ·simp (disch := omega) only [go_sem, ↓reduceIte, simprocAttr, Sl, ht]
 clear hM ht t M
 intro M t hM ht K hK
 simp (disch := omega) only [go_sem, ↓reduceIte, simprocAttr, Sl] at ht
 show @Hd E ⟨_⟩ ⟨t⟩ ⟨H ++ [some (.row 259 [.agg (dfc d.of d.n d.x1 d.x2)]), some (.row 1 (boolsE M)), some (.row 1 [.own (H.length + 1) 1 0 d.rows.length])]⟩ ⟨_⟩
 repeat' first | (simp (disch := first | omega | assumption) only [go_sem, ↓reduceIte, simprocAttr, *]) | refine HG_split (fun hb=>?_) fun hb=>?_ | refine HC_split (fun hb=>?_) fun hb=>?_
 refine while_of (ι := Nat) (fun i => i ≤ d.rows.length ∧ ∀ (j : Nat) (l : List Int), j < i → d.rows[j]? = some l → M[j]? = some true ∨ seesB M l = false) (fun i => d.rows.length - i) (fun i => [(1, .ptr H.length 259 0 0), (3, .ptr (H.length + 2) 1 0 0), (27, d.x1), (28, .int .i64 d.rows.length), (29, .int .i64 i)])
  (fun i => H ++ [some (.row 259 [.agg (dfc d.of d.n d.x1 d.x2)]), some (.row 1 (boolsE M)), some (.row 1 [.own (H.length + 1) 1 0 d.rows.length])]) 0 ⟨by omega, fun j l hj => absurd hj (Nat.not_lt_zero j)⟩ ?_ (by first | rfl | simp) ?_
 ·simp (disch := omega) only [go_sem, ↓reduceIte, simprocAttr, Sl, ht]
 rintro i t2 ⟨hi, hc⟩ ht2 K2 hK2
 simp (disch := omega) only [go_sem, ↓reduceIte, simprocAttr, Sl] at ht2
 have hbl := boolsE_len M
 have hml := hM.len
 by_cases hlt : i < d.rows.length
 ·obtain ⟨l, hl⟩ := get_some hlt
  obtain ⟨y, hy, hyv, hat⟩ := d.row hl
  have hyo := hyv.one.2
  unfold EV.one at hyo
  obtain ⟨w, hw⟩ := get_some (l := M) (i := i) (by rw [hml]; exact hlt)
  have hg := boolsE_get hw
  have hcf := containsFunc_den (R := R) (.func (.func R.n_dfa_Dfa_live_c1) [] [.ptr (H.length + 2) 1 0 0]) (seesP M) y l hyv (H ++ [some (.row 259 [.agg (dfc d.of d.n d.x1 d.x2)]), some (.row 1 (boolsE M)), some (.row 1 [.own (H.length + 1) 1 0 d.rows.length])]) (fun x hx => by
   have hr := g.rng l (List.mem_of_getElem? hl) x hx
   have := live_c1_den (R := R) M x (H.length + 1) (H.length + 2) (by rw [hml]; exact hr) (by omega) (H ++ [some (.row 259 [.agg (dfc d.of d.n d.x1 d.x2)]), some (.row 1 (boolsE M)), some (.row 1 [.own (H.length + 1) 1 0 d.rows.length])]) (by simp [hml]) (by simp)
   simpa [callD] using this)
  have hk2 := hK2 (i + 1)
  cases w with
  | true =>
   have hn : ∀ (j : Nat) (l : List Int), j < i + 1 → d.rows[j]? = some l → M[j]? = some true ∨ seesB M l = false := fun j l' hj hl' => by
    by_cases e : j = i
    ·subst e; exact .inl hw
    ·exact hc j l' (by omega) hl'
   clear hK hK2 hcf hc
   repeat' first | (simp (disch := first | omega | assumption) only [go_sem, ↓reduceIte, simprocAttr, *]) | refine HG_split (fun hb=>?_) fun hb=>?_ | refine HC_split (fun hb=>?_) fun hb=>?_
   all_goals (try simp only [FX] at *)
   all_goals first | omega | skip
   refine hk2 _ _ ⟨by omega, hn⟩ (by omega) ?_ rfl
   simp (disch := omega) only [go_sem, ↓reduceIte, simprocAttr, Sl, ht2, and_self, cast_succ]
  | false =>
   cases hs : seesB M l with
   | false =>
    have hn : ∀ (j : Nat) (l : List Int), j < i + 1 → d.rows[j]? = some l → M[j]? = some true ∨ seesB M l = false := fun j l' hj hl' => by
     by_cases e : j = i
     ·subst e
      rw [hl] at hl'
      obtain rfl := Option.some.inj hl'
      exact .inr hs
     ·exact hc j l' (by omega) hl'
    rw [show l.any (seesP M) = false from hs] at hcf
    clear hK hK2 hc
    repeat' first | (simp (disch := first | omega | assumption) only [go_sem, ↓reduceIte, simprocAttr, *]) | refine HG_split (fun hb=>?_) fun hb=>?_ | refine HC_split (fun hb=>?_) fun hb=>?_
    all_goals (try simp only [FX] at *)
    all_goals first | omega | skip
    refine hk2 _ _ ⟨by omega, hn⟩ (by omega) ?_ rfl
    simp (disch := omega) only [go_sem, ↓reduceIte, simprocAttr, Sl, ht2, and_self, cast_succ]
   | true =>
    rw [show l.any (seesP M) = true from hs] at hcf
    have hlv := seesB_true hM.snd hl hs
    have hk := hK (M.set i true)
    have hst := boolsE_set M i true
    have hcnt := cntX_set hw
    have hM2 := hM.set hlv
    clear hK hK2 hc hk2
    repeat' first | (simp (disch := first | omega | assumption) only [go_sem, ↓reduceIte, simprocAttr, *]) | refine HG_split (fun hb=>?_) fun hb=>?_ | refine HC_split (fun hb=>?_) fun hb=>?_
    all_goals (try simp only [FX] at *)
    all_goals first | omega | skip
    refine hk _ _ hM2 hcnt ?_ rfl
    simp (disch := omega) only [go_sem, ↓reduceIte, simprocAttr, Sl, ht2, and_self, cast_succ]
 ·have hie : i = d.rows.length := by omega
  have hfin := live_closed g hM fun j l hl => hc j l (by have := (List.getElem?_eq_some_iff.1 hl).1; omega) hl
  rw [← hfin]
  clear hK hK2 hc hfin
  repeat' first | (simp (disch := first | omega | assumption) only [go_sem, ↓reduceIte, simprocAttr, *]) | refine HG_split (fun hb=>?_) fun hb=>?_ | refine HC_split (fun hb=>?_) fun hb=>?_
  all_goals (try simp only [FX] at *)
  all_goals first | omega | skip
  refine finV_fz rfl (fz_own (n := 7) (es := boolsE M) (by omega) (by simp) (by omega) (okL_bools _ M)) ?_
  simp [hbl, hml]
  exact List.take_of_length_le (by omega)
end
structure PI (d : DF) (M0 M : List Bool) (i : Nat) : Prop where
 len : M.length = d.rows.length
 snd : ∀ j : Nat, M[j]? = some true → d.Lv j
 mono : ∀ j : Nat, M0[j]? = some true → M[j]? = some true
 tag : ∀ (j : Nat) (t : Int), j < i → d.tags[j]? = some t → 0 ≤ t → M[j]? = some true
 row : ∀ (j : Nat) (l : List Int), j < i → d.rows[j]? = some l → seesB M0 l = true → M[j]? = some true
structure RI (d : DF) (M0 M : List Bool) (i c : Nat) (l : List Int) : Prop where
 pi : PI d M0 M i
 tag : ∀ t : Int, d.tags[i]? = some t → 0 ≤ t → M[i]? = some true
 row : seesB M0 (l.take c) = true → M[i]? = some true
theorem get_set_or {M : List Bool} {i j : Nat} {w v : Bool} (hw : M[i]? = some w) (h : M[j]? = some true) : (M.set i (w || v))[j]? = some true := by
 rw [List.getElem?_set]
 split
 ·rename_i e
  subst e
  rw [hw] at h
  obtain rfl := Option.some.inj h
  rw [if_pos (List.getElem?_eq_some_iff.1 hw).1]; rfl
 ·exact h
theorem PI.set {d : DF} {M0 M : List Bool} {i k : Nat} {w v : Bool} (h : PI d M0 M k) (hw : M[i]? = some w) (hv : v = true → d.Lv i) : PI d M0 (M.set i (w || v)) k := by
 refine ⟨by rw [List.length_set]; exact h.len, fun j hj => ?_, fun j hj => get_set_or hw (h.mono j hj), fun j t hji ht h0 => get_set_or hw (h.tag j t hji ht h0), fun j l hji hl hs => get_set_or hw (h.row j l hji hl hs)⟩
 rw [List.getElem?_set] at hj
 split at hj
 ·rename_i e
  subst e
  split at hj
  ·simp only [Option.some.injEq, Bool.or_eq_true] at hj
   rcases hj with hj | hj
   ·subst hj; exact h.snd _ hw
   ·exact hv hj
  ·simp at hj
 ·exact h.snd j hj
theorem PI.enter {d : DF} {M0 M : List Bool} {i : Nat} (l : List Int) (h : PI d M0 M i) {w : Bool} (hw : M[i]? = some w) {t : Int} (ht : d.tags[i]? = some t) : RI d M0 (M.set i (w || decide (t ≥ 0))) i 0 l := by
 have hi := (List.getElem?_eq_some_iff.1 hw).1
 refine ⟨h.set hw fun hv => .tag ht (by simpa using hv), fun t' ht' h0 => ?_, fun hs => by simp [seesB] at hs⟩
 rw [ht] at ht'
 obtain rfl := Option.some.inj ht'
 rw [List.getElem?_set_self hi, decide_eq_true h0, Bool.or_true]
theorem seesP_mono {M0 M : List Bool} (h : ∀ j : Nat, M0[j]? = some true → M[j]? = some true) {x : Int} (hs : seesP M0 x = true) : seesP M x = true := by
 unfold seesP at hs ⊢
 simp only [Bool.and_eq_true, decide_eq_true_eq] at hs ⊢
 refine ⟨hs.1, ?_⟩
 have := hs.2
 rw [List.getD_eq_getElem?_getD] at this ⊢
 cases hq : M0[x.toNat]? with
 | none => rw [hq] at this; simp at this
 | some b =>
  rw [hq] at this
  simp only [Option.getD_some] at this
  subst this
  rw [h _ hq]; rfl
theorem seesP_lv {d : DF} {M : List Bool} (h : ∀ j : Nat, M[j]? = some true → d.Lv j) {l : List Int} {j : Nat} (hl : d.rows[j]? = some l) {x : Int} (hx : x ∈ l) (hs : seesP M x = true) : d.Lv j :=
 seesB_true h hl (List.any_eq_true.2 ⟨x, hx, hs⟩)
theorem RI.next {d : DF} {M0 M : List Bool} {i c : Nat} {l : List Int} (h : RI d M0 M i c l) (hl : d.rows[i]? = some l) {w : Bool} (hw : M[i]? = some w) {x : Int} (hx : l[c]? = some x) : RI d M0 (M.set i (w || seesP M x)) i (c + 1) l := by
 have hi := (List.getElem?_eq_some_iff.1 hw).1
 refine ⟨h.pi.set hw fun hv => seesP_lv h.pi.snd hl (List.mem_of_getElem? hx) hv, fun t ht h0 => get_set_or hw (h.tag t ht h0), fun hs => ?_⟩
 rw [List.take_add_one, hx] at hs
 unfold seesB at hs
 rw [List.any_append, Bool.or_eq_true] at hs
 rcases hs with hs | hs
 ·exact get_set_or hw (h.row hs)
 ·simp only [Option.toList_some, List.any_cons, List.any_nil, Bool.or_false] at hs
  rw [List.getElem?_set_self hi, seesP_mono h.pi.mono hs, Bool.or_true]
theorem RI.leave {d : DF} {M0 M : List Bool} {i : Nat} {l : List Int} (h : RI d M0 M i l.length l) (hl : d.rows[i]? = some l) : PI d M0 M (i + 1) := by
 refine ⟨h.pi.len, h.pi.snd, h.pi.mono, fun j t hj ht h0 => ?_, fun j l' hj hl' hs => ?_⟩
 ·by_cases e : j = i
  ·subst e; exact h.tag t ht h0
  ·exact h.pi.tag j t (by omega) ht h0
 ·by_cases e : j = i
  ·subst e
   rw [hl] at hl'
   obtain rfl := Option.some.inj hl'
   exact h.row (by rw [List.take_length]; exact hs)
  ·exact h.pi.row j l' (by omega) hl' hs
theorem cntX_mono : ∀ {M0 M : List Bool}, M.length = M0.length → (∀ j : Nat, M0[j]? = some true → M[j]? = some true) → cntX M ≤ cntX M0 ∧ (cntX M = cntX M0 → M = M0)
 | [], [], _, _ => ⟨Nat.le_refl _, fun _ => rfl⟩
 | [], _ :: _, h, _ => by simp at h
 | _ :: _, [], h, _ => by simp at h
 | b :: M0, c :: M, hl, h => by
  obtain ⟨h1, h2⟩ := cntX_mono (M0 := M0) (M := M) (by simpa using hl) fun j hj => h (j + 1) hj
  have h0 := h 0
  simp only [List.getElem?_cons_zero, Option.some.injEq] at h0
  simp only [cntX]
  cases b <;> cases c
  ·simp only [Bool.false_eq_true, if_false]
   exact ⟨by omega, fun e => by rw [h2 (by omega)]⟩
  ·simp only [Bool.false_eq_true, if_false, if_true]
   exact ⟨by omega, fun e => absurd e (by omega)⟩
  ·simp at h0
  ·simp only [if_true]
   exact ⟨by omega, fun e => by rw [h2 (by omega)]⟩
theorem pass_end {d : DF} (g : d.Good) {M0 M : List Bool} (h0 : M0.length = d.rows.length) (h : PI d M0 M d.rows.length) {n : Nat} (hn : n + cntX M0 ≤ d.rows.length ∨ M0 = d.liveL) : n + 1 + cntX M ≤ d.rows.length ∨ M = d.liveL := by
 obtain ⟨c1, c2⟩ := cntX_mono (h.len.trans h0.symm) h.mono
 by_cases e : M = M0
 ·refine .inr (live_closed g ⟨h.len, h.snd, fun j t ht h0 => h.tag j t (by have := (List.getElem?_eq_some_iff.1 ht).1; have := g.tl; omega) ht h0⟩ fun j l hl => ?_)
  cases hs : seesB M l with
  | false => exact .inr rfl
  | true =>
   rw [e] at hs
   exact .inl (h.row j l (List.getElem?_eq_some_iff.1 hl).1 hl hs)
 ·rcases hn with hn | hn
  ·refine .inl ?_
   have : cntX M ≠ cntX M0 := fun x => e (c2 x)
   omega
  ·refine .inr ?_
   refine List.ext_getElem? fun j => ?_
   by_cases hj : j < d.rows.length
   ·obtain ⟨b, hb⟩ := get_some (l := M) (i := j) (by rw [h.len]; exact hj)
    obtain ⟨b0, hb0⟩ := get_some (l := M0) (i := j) (by rw [h0]; exact hj)
    rw [← hn, hb, hb0]
    cases b0 with
    | true => rw [h.mono j hb0] at hb; exact hb.symm
    | false =>
     cases b with
     | false => rfl
     | true =>
      have hl := h.snd j hb
      rw [hn] at hb0
      unfold DF.liveL at hb0
      rw [List.getElem?_map, List.getElem?_range hj] at hb0
      simp only [Option.map_some, Option.some.injEq] at hb0
      rw [@decide_eq_true _ (Classical.propDecidable _) hl] at hb0
      simp at hb0
   ·rw [List.getElem?_eq_none (by rw [h.len]; omega), List.getElem?_eq_none (by rw [liveL_len]; omega)]
theorem cntX_falses (n : Nat) : cntX (falses n) = n := by
 induction n with
 | zero => rfl
 | succ n ih =>
  unfold falses at ih ⊢
  rw [List.replicate_succ]
  simp only [cntX, ih, Bool.false_eq_true, if_false]
  omega
theorem set_self {α : Type} {M : List α} {i : Nat} {w : α} (h : M[i]? = some w) : M.set i w = M := by
 refine List.ext_getElem? fun j => ?_
 rw [List.getElem?_set]
 split
 ·rename_i e
  subst e
  rw [if_pos (List.getElem?_eq_some_iff.1 h).1, h]
 ·rfl
section
variable {E : Env} [R : DfaR E]
set_option maxHeartbeats 4000000 in
theorem refLive_den (d : DF) (g : d.Good) (H : Heap) : den E R.n_hackleref09_Live [d.E] H = some (.ret (.imm 1 (boolsE d.liveL)), H) := by
 obtain ⟨k1, k2, hle, hle2, o1, o2, hA, hL, hx1, hx2, hn, htk⟩ := d.facts
 unfold EV.one at o1 o2
 have g6 := g.le
 have gtl := g.tl
 rw [g.tl] at k2 hle2
 have hmk' : evMake 1 1 (.bool false) (.int .i64 d.rows.length) (.int .i64 d.rows.length) (H ++ [some (.row 259 [.agg (dfc d.of d.n d.x1 d.x2)])]) = some (.own (H.length + 1) 1 0 d.rows.length, H ++ [some (.row 259 [.agg (dfc d.of d.n d.x1 d.x2)]), some (.row 1 (boolsE (falses d.rows.length)))]) := by
  unfold evMake
  simp only
  rw [if_pos ⟨by omega, by omega, by omega, by omega⟩, Int.toNat_natCast, boolsE_falses]
  simp
 refine den_of R.d_hackleref09_Live (by simp) ?_
 unfold Gn.hackleref09_Live Gn.hackleref09_Live_r DF.E
 refine Hd_cut2 (fun t H' => Sl t [(1, .ptr H.length 259 0 0)] ∧ H' = H ++ [some (.row 259 [.agg (dfc d.of d.n d.x1 d.x2)])]) ?_ ?_
 ·clear hmk'
  repeat' first | (simp (disch := first | omega | assumption) only [go_sem, ↓reduceIte, simprocAttr, Sl, *]) | refine HG_split (fun hb=>?_) fun hb=>?_ | refine HC_split (fun hb=>?_) fun hb=>?_
 rintro t _ ⟨ht, rfl⟩
 simp (disch := omega) only [go_sem, ↓reduceIte, simprocAttr, Sl] at ht
 refine Hd_cut2 (fun t H' => Sl t [(1, .ptr H.length 259 0 0), (3, .own (H.length + 1) 1 0 d.rows.length)] ∧ H' = H ++ [some (.row 259 [.agg (dfc d.of d.n d.x1 d.x2)]), some (.row 1 (boolsE (falses d.rows.length)))]) ?_ ?_
 ·repeat' first | (simp (disch := first | omega | assumption) only [go_sem, ↓reduceIte, simprocAttr, Sl, *]) | refine HG_split (fun hb=>?_) fun hb=>?_ | refine HC_split (fun hb=>?_) fun hb=>?_
  all_goals (try simp only [FX] at *)
  all_goals first | omega | skip
 rintro t2 _ ⟨ht2, rfl⟩
 simp (disch := omega) only [go_sem, ↓reduceIte, simprocAttr, Sl] at ht2
 clear ht t hmk'
 repeat' first | (simp (disch := first | omega | assumption) only [go_sem, ↓reduceIte, simprocAttr, *]) | refine HG_split (fun hb=>?_) fun hb=>?_ | refine HC_split (fun hb=>?_) fun hb=>?_
 refine while_of (ι := Nat × List Bool) (fun n => n.1 ≤ d.rows.length + 1 ∧ n.2.length = d.rows.length ∧ (∀ j : Nat, n.2[j]? = some true → d.Lv j) ∧ (n.1 + cntX n.2 ≤ d.rows.length ∨ n.2 = d.liveL)) (fun n => d.rows.length + 1 - n.1) (fun n => [(1, .ptr H.length 259 0 0), (3, .own (H.length + 1) 1 0 d.rows.length), (4, .int .i64 n.1)])
  (fun n => H ++ [some (.row 259 [.agg (dfc d.of d.n d.x1 d.x2)]), some (.row 1 (boolsE n.2))]) (0, falses d.rows.length) ⟨by omega, by simp [falses], fun j hj => by simp [falses, List.getElem?_replicate] at hj, .inl (by rw [cntX_falses]; omega)⟩ ?_ (by first | rfl | simp) ?_
 ·simp (disch := omega) only [go_sem, ↓reduceIte, simprocAttr, Sl, ht2]
 clear ht2 t2
 rintro ⟨n, M0⟩ t ⟨hnN, h0, hsnd, hcn⟩ ht K hK
 simp only at hnN h0 hsnd hcn
 simp (disch := omega) only [go_sem, ↓reduceIte, simprocAttr, Sl] at ht
 have hbl0 := boolsE_len M0
 show @Hd E ⟨_⟩ ⟨t⟩ ⟨H ++ [some (.row 259 [.agg (dfc d.of d.n d.x1 d.x2)]), some (.row 1 (boolsE M0))]⟩ ⟨_⟩
 by_cases hlast : n ≤ d.rows.length
 ·have hk := fun M => hK (n + 1, M)
  clear hK
  repeat' first | (simp (disch := first | omega | assumption) only [go_sem, ↓reduceIte, simprocAttr, *]) | refine HG_split (fun hb=>?_) fun hb=>?_ | refine HC_split (fun hb=>?_) fun hb=>?_
  all_goals (try simp only [FX] at *)
  all_goals first | omega | skip
  refine while_of (ι := Nat × List Bool) (fun i => i.1 ≤ d.rows.length ∧ PI d M0 i.2 i.1) (fun i => d.rows.length - i.1) (fun i => [(1, .ptr H.length 259 0 0), (3, .own (H.length + 1) 1 0 d.rows.length), (4, .int .i64 n), (5, .int .i64 i.1)])
   (fun i => H ++ [some (.row 259 [.agg (dfc d.of d.n d.x1 d.x2)]), some (.row 1 (boolsE i.2))]) (0, M0) ⟨by omega, h0, hsnd, fun j h => h, fun j t hj => absurd hj (Nat.not_lt_zero j), fun j t hj => absurd hj (Nat.not_lt_zero j)⟩ ?_ (by first | rfl | simp) ?_
  ·simp (disch := omega) only [go_sem, ↓reduceIte, simprocAttr, Sl, ht]
  rintro ⟨i, M⟩ t2 ⟨hi, hM⟩ ht2 K2 hK2
  simp only at hi hM
  simp (disch := omega) only [go_sem, ↓reduceIte, simprocAttr, Sl] at ht2
  have hbl := boolsE_len M
  have hml := hM.len
  show @Hd E ⟨_⟩ ⟨t2⟩ ⟨H ++ [some (.row 259 [.agg (dfc d.of d.n d.x1 d.x2)]), some (.row 1 (boolsE M))]⟩ ⟨_⟩
  by_cases hlt : i < d.rows.length
  ·obtain ⟨l, hl⟩ := get_some hlt
   obtain ⟨y, hy, hyv, hat⟩ := d.row hl
   have hyo := hyv.one.2
   have hyl := hyv.lenI
   have hyle := hyv.leI
   unfold EV.one at hyo
   obtain ⟨v, hv⟩ := get_some (l := d.tags) (i := i) (by omega)
   have hat2 := d.h2.at hv
   obtain ⟨w, hw⟩ := get_some (l := M) (i := i) (by rw [hml]; exact hlt)
   have hg := boolsE_get hw
   have hen := hM.enter l hw hv
   obtain ⟨u, hu⟩ : ∃ u, u = (w || decide (v ≥ 0)) := ⟨_, rfl⟩
   rw [← hu] at hen
   have hst := boolsE_set M i u
   have hk2 := fun M => hK2 (i + 1, M)
   clear hK2 hk
   refine Hd_cut2 (fun t H' => Sl t [(1, .ptr H.length 259 0 0), (3, .own (H.length + 1) 1 0 d.rows.length), (4, .int .i64 n), (5, .int .i64 i)] ∧ H' = H ++ [some (.row 259 [.agg (dfc d.of d.n d.x1 d.x2)]), some (.row 1 (boolsE M))]) ?_ ?_
   ·clear hst hu hk2 hen
    repeat' first | (simp (disch := first | omega | assumption) only [go_sem, ↓reduceIte, simprocAttr, Sl, *]) | refine HG_split (fun hb=>?_) fun hb=>?_ | refine HC_split (fun hb=>?_) fun hb=>?_
    all_goals (try simp only [FX] at *)
    all_goals first | omega | skip
    all_goals simp [ht2]
   rintro t4 _ ⟨ht4, rfl⟩
   simp (disch := omega) only [go_sem, ↓reduceIte, simprocAttr, Sl] at ht4
   rw [Hd_seq, Hd_block]
   refine Hd_cut2 (fun t H' => Sl t [(1, .ptr H.length 259 0 0), (3, .own (H.length + 1) 1 0 d.rows.length), (4, .int .i64 n), (5, .int .i64 i)] ∧ H' = H ++ [some (.row 259 [.agg (dfc d.of d.n d.x1 d.x2)]), some (.row 1 (boolsE (M.set i u)))]) ?_ ?_
   ·cases w with
    | true =>
     obtain rfl : u = true := by simpa using hu
     have hset : M.set i true = M := set_self hw
     have hset2 := set_self hg
     clear hu hk2 hM hen hst hw
     repeat' first | (simp (disch := first | omega | assumption) only [go_sem, ↓reduceIte, simprocAttr, Sl, *]) | refine HG_split (fun hb=>?_) fun hb=>?_ | refine HC_split (fun hb=>?_) fun hb=>?_
     all_goals (try simp only [FX] at *)
     all_goals first | omega | rw [hset2]
    | false =>
     rw [Bool.false_or] at hu
     by_cases hv0 : v ≥ 0
     ·rw [decide_eq_true hv0] at hu
      subst hu
      clear hk2 hM hen hw
      repeat' first | (simp (disch := first | omega | assumption) only [go_sem, ↓reduceIte, simprocAttr, Sl, *]) | refine HG_split (fun hb=>?_) fun hb=>?_ | refine HC_split (fun hb=>?_) fun hb=>?_
      all_goals (try simp only [FX] at *)
      all_goals first | omega | skip
     ·rw [decide_eq_false hv0] at hu
      subst hu
      have hset := set_self hw
      have hset2 := set_self hg
      clear hk2 hM hen hw hst
      repeat' first | (simp (disch := first | omega | assumption) only [go_sem, ↓reduceIte, simprocAttr, Sl, *]) | refine HG_split (fun hb=>?_) fun hb=>?_ | refine HC_split (fun hb=>?_) fun hb=>?_
      all_goals (try simp only [FX] at *)
      all_goals first | omega | rw [hset2]
   rintro t3 _ ⟨ht3, rfl⟩
   simp (disch := omega) only [go_sem, ↓reduceIte, simprocAttr, Sl] at ht3
   clear hst hu hg hbl hml hM ht2 t2 hw ht4 t4
   repeat' first | (simp (disch := first | omega | assumption) only [go_sem, ↓reduceIte, simprocAttr, *]) | refine HG_split (fun hb=>?_) fun hb=>?_ | refine HC_split (fun hb=>?_) fun hb=>?_
   refine while_of (ι := Nat × List Bool) (fun c => c.1 ≤ l.length ∧ RI d M0 c.2 i c.1 l) (fun c => l.length - c.1) (fun c => [(1, .ptr H.length 259 0 0), (3, .own (H.length + 1) 1 0 d.rows.length), (4, .int .i64 n), (5, .int .i64 i), (6, .int .i64 c.1)])
    (fun c => H ++ [some (.row 259 [.agg (dfc d.of d.n d.x1 d.x2)]), some (.row 1 (boolsE c.2))]) (0, M.set i u) ⟨by omega, hen⟩ ?_ (by first | rfl | simp) ?_
   ·simp (disch := omega) only [go_sem, ↓reduceIte, simprocAttr, Sl, ht3]
   clear hen ht3 t3
   rintro ⟨c, M⟩ t2 ⟨hc, hM⟩ ht2 K2 hK2
   simp only at hc hM
   simp (disch := omega) only [go_sem, ↓reduceIte, simprocAttr, Sl] at ht2
   have hbl := boolsE_len M
   have hml := hM.pi.len
   show @Hd E ⟨_⟩ ⟨t2⟩ ⟨H ++ [some (.row 259 [.agg (dfc d.of d.n d.x1 d.x2)]), some (.row 1 (boolsE M))]⟩ ⟨_⟩
   by_cases hcl : c < l.length
   ·obtain ⟨x, hx⟩ := get_some hcl
    have hxr := g.rng l (List.mem_of_getElem? hl) x (List.mem_of_getElem? hx)
    have hat3 := hyv.at hx
    obtain ⟨w, hw⟩ := get_some (l := M) (i := i) (by rw [hml]; exact hlt)
    have hg := boolsE_get hw
    have hne := hM.next hl hw hx
    obtain ⟨u, hu⟩ : ∃ u, u = (w || seesP M x) := ⟨_, rfl⟩
    rw [← hu] at hne
    have hst := boolsE_set M i u
    have hk3 := hK2 (c + 1, M.set i u)
    clear hK2 hk2
    cases w with
    | true =>
     obtain rfl : u = true := by simpa using hu
     rw [set_self hw] at hne hk3
     have hset2 := set_self hg
     clear hu hst hw
     repeat' first | (simp (disch := first | omega | assumption) only [go_sem, ↓reduceIte, simprocAttr, *]) | refine HG_split (fun hb=>?_) fun hb=>?_ | refine HC_split (fun hb=>?_) fun hb=>?_
     all_goals (try simp only [FX] at *)
     all_goals first | omega | skip
     refine hk3 _ _ ⟨by omega, hne⟩ (by omega) ?_ rfl
     simp (disch := omega) only [go_sem, ↓reduceIte, simprocAttr, Sl, ht2, and_self, cast_succ]
    | false =>
     rw [Bool.false_or] at hu
     clear hw
     by_cases hx0 : 0 ≤ x
     ·obtain ⟨z, hz⟩ := get_some (l := M) (i := x.toNat) (by rw [hml]; omega)
      have hg2 := boolsE_get hz
      obtain rfl : u = z := by rw [hu]; unfold seesP; rw [decide_eq_true hx0, List.getD_eq_getElem?_getD, hz]; rfl
      clear hu hz
      repeat' first | (simp (disch := first | omega | assumption) only [go_sem, ↓reduceIte, simprocAttr, *]) | refine HG_split (fun hb=>?_) fun hb=>?_ | refine HC_split (fun hb=>?_) fun hb=>?_
      all_goals (try simp only [FX] at *)
      all_goals first | omega | skip
      refine hk3 _ _ ⟨by omega, hne⟩ (by omega) ?_ rfl
      simp (disch := omega) only [go_sem, ↓reduceIte, simprocAttr, Sl, ht2, and_self, cast_succ]
     ·obtain rfl : u = false := by rw [hu]; unfold seesP; rw [decide_eq_false hx0]; rfl
      clear hu
      repeat' first | (simp (disch := first | omega | assumption) only [go_sem, ↓reduceIte, simprocAttr, *]) | refine HG_split (fun hb=>?_) fun hb=>?_ | refine HC_split (fun hb=>?_) fun hb=>?_
      all_goals (try simp only [FX] at *)
      all_goals first | omega | skip
      refine hk3 _ _ ⟨by omega, hne⟩ (by omega) ?_ rfl
      simp (disch := omega) only [go_sem, ↓reduceIte, simprocAttr, Sl, ht2, and_self, cast_succ]
   ·have hce : c = l.length := by omega
    subst hce
    have hlv := hM.leave hl
    have hk3 := hk2 M
    clear hK2 hk2
    repeat' first | (simp (disch := first | omega | assumption) only [go_sem, ↓reduceIte, simprocAttr, *]) | refine HG_split (fun hb=>?_) fun hb=>?_ | refine HC_split (fun hb=>?_) fun hb=>?_
    all_goals (try simp only [FX] at *)
    all_goals first | omega | skip
    refine hk3 _ _ ⟨by omega, hlv⟩ (by omega) ?_ rfl
    simp (disch := omega) only [go_sem, ↓reduceIte, simprocAttr, Sl, ht2, and_self, cast_succ]
  ·have hie : i = d.rows.length := by omega
   subst hie
   have hpe := pass_end g h0 hM hcn
   have hk3 := hk M
   clear hK2 hk
   repeat' first | (simp (disch := first | omega | assumption) only [go_sem, ↓reduceIte, simprocAttr, *]) | refine HG_split (fun hb=>?_) fun hb=>?_ | refine HC_split (fun hb=>?_) fun hb=>?_
   all_goals (try simp only [FX] at *)
   all_goals first | omega | skip
   refine hk3 _ _ ⟨by omega, hml, hM.snd, hpe⟩ (by omega) ?_ rfl
   simp (disch := omega) only [go_sem, ↓reduceIte, simprocAttr, Sl, ht2, and_self, cast_succ]
 ·have hne : n = d.rows.length + 1 := by omega
  have hfin : M0 = d.liveL := by
   rcases hcn with h | h
   ·omega
   ·exact h
  rw [← hfin]
  subst hne
  clear hK hcn hfin
  repeat' first | (simp (disch := first | omega | assumption) only [go_sem, ↓reduceIte, simprocAttr, *]) | refine HG_split (fun hb=>?_) fun hb=>?_ | refine HC_split (fun hb=>?_) fun hb=>?_
  all_goals (try simp only [FX] at *)
  all_goals first | omega | skip
  refine finV_fz rfl (fz_own (n := 7) (es := boolsE M0) (by omega) (by simp) (by omega) (okL_bools _ M0)) ?_
  simp [hbl0, h0]
  exact List.take_of_length_le (by omega)
end
def stepT (L : List Bool) (p : List Int × List Int) (x : Int) : List Int × List Int :=
 if seesP L x = true then (if x ∈ p.1 then p.1 else p.1 ++ [x], p.2 ++ [(p.1.idxOf x : Int)]) else (p.1, p.2 ++ [-1])
def rowT (L : List Bool) (q l : List Int) : List Int × List Int := l.foldl (stepT L) (q, [])
structure BS where
 (q : List Int)
 (rows : List (List Int))
 (tags : List Int)
noncomputable def DF.bfs (d : DF) : Nat → BS
 | 0 => ⟨[0], [], []⟩
 | i + 1 =>
  match (d.bfs i).q[i]? with
  | none => d.bfs i
  | some x => ⟨(rowT d.liveL (d.bfs i).q (d.rows.getD x.toNat [])).1, (d.bfs i).rows ++ [(rowT d.liveL (d.bfs i).q (d.rows.getD x.toNat [])).2], (d.bfs i).tags ++ [d.tags.getD x.toNat 0]⟩
theorem bfs_next {d : DF} {i : Nat} {x : Int} (h : (d.bfs i).q[i]? = some x) : d.bfs (i + 1) = ⟨(rowT d.liveL (d.bfs i).q (d.rows.getD x.toNat [])).1, (d.bfs i).rows ++ [(rowT d.liveL (d.bfs i).q (d.rows.getD x.toNat [])).2], (d.bfs i).tags ++ [d.tags.getD x.toNat 0]⟩ := by
 show (match (d.bfs i).q[i]? with
  | none => d.bfs i
  | some x => _) = _
 rw [h]
theorem bfs_stop {d : DF} {i : Nat} (h : (d.bfs i).q.length = i) : ∀ k, d.bfs (i + k) = d.bfs i
 | 0 => rfl
 | k + 1 => by
  have ih := bfs_stop h k
  show (match (d.bfs (i + k)).q[i + k]? with
   | none => d.bfs (i + k)
   | some x => _) = _
  rw [ih, List.getElem?_eq_none (by omega)]
structure QI (N : Nat) (q : List Int) : Prop where
 nd : q.Nodup
 rng : ∀ x ∈ q, 0 ≤ x ∧ x < N
theorem nodup_le : ∀ (N : Nat) (q : List Int), q.Nodup → (∀ x ∈ q, 0 ≤ x ∧ x < N) → q.length ≤ N
 | 0, [], _, _ => Nat.le_refl _
 | 0, x :: q, _, h => by have := h x (by simp); omega
 | N + 1, q, hn, h => by
  have h1 := nodup_le N (q.erase (N : Int)) (hn.erase _) fun x hx => by
   obtain ⟨e, hm⟩ := hn.mem_erase_iff.1 hx
   have := h x hm
   omega
  have h2 := List.length_erase (a := (N : Int)) (l := q)
  split at h2 <;> omega
theorem QI.le {N : Nat} {q : List Int} (h : QI N q) : q.length ≤ N := nodup_le N q h.nd h.rng
theorem QI.add {N : Nat} {q : List Int} (h : QI N q) {x : Int} (hx : 0 ≤ x ∧ x < N) : QI N (if x ∈ q then q else q ++ [x]) := by
 split
 ·exact h
 ·rename_i hn
  refine ⟨List.nodup_append.2 ⟨h.nd, by simp, fun a ha b hb => by simp at hb; subst hb; intro e; subst e; exact hn ha⟩, fun y hy => ?_⟩
  rcases List.mem_append.1 hy with hy | hy
  ·exact h.rng y hy
  ·simp at hy; subst hy; exact hx
theorem seesP_live {d : DF} (g : d.Good) {x : Int} (h : seesP d.liveL x = true) : 0 ≤ x ∧ x < d.rows.length := by
 unfold seesP at h
 simp only [Bool.and_eq_true, decide_eq_true_eq] at h
 refine ⟨h.1, ?_⟩
 have h2 := h.2
 rw [List.getD_eq_getElem?_getD] at h2
 cases hq : d.liveL[x.toNat]? with
 | none => rw [hq] at h2; simp at h2
 | some b =>
  have := (List.getElem?_eq_some_iff.1 hq).1
  rw [liveL_len] at this
  omega
theorem stepT_qi {d : DF} (g : d.Good) {p : List Int × List Int} (h : QI d.rows.length p.1) (x : Int) : QI d.rows.length (stepT d.liveL p x).1 := by
 unfold stepT
 split
 ·rename_i hs
  exact h.add (seesP_live g hs)
 ·exact h
theorem fold_qi {d : DF} (g : d.Good) : ∀ (l : List Int) {p : List Int × List Int}, QI d.rows.length p.1 → QI d.rows.length (l.foldl (stepT d.liveL) p).1
 | [], _, h => h
 | x :: l, _, h => fold_qi g l (stepT_qi g h x)
theorem stepT_len (L : List Bool) (p : List Int × List Int) (x : Int) : (stepT L p x).2.length = p.2.length + 1 ∧ p.1.length ≤ (stepT L p x).1.length := by
 unfold stepT
 split
 ·refine ⟨by simp, ?_⟩
  simp only
  split
  ·exact Nat.le_refl _
  ·simp
 ·exact ⟨by simp, Nat.le_refl _⟩
theorem fold_len (L : List Bool) : ∀ (l : List Int) (p : List Int × List Int), (l.foldl (stepT L) p).2.length = p.2.length + l.length ∧ p.1.length ≤ (l.foldl (stepT L) p).1.length
 | [], p => ⟨rfl, Nat.le_refl _⟩
 | x :: l, p => by
  have h1 := fold_len L l (stepT L p x)
  have h2 := stepT_len L p x
  rw [List.foldl_cons]
  simp only [List.length_cons]
  omega
structure BI (d : DF) (i : Nat) : Prop where
 qi : QI d.rows.length (d.bfs i).q
 le : i ≤ (d.bfs i).q.length
 rl : (d.bfs i).rows.length = i
 tl : (d.bfs i).tags.length = i
theorem BI.zero {d : DF} (h : 0 < d.rows.length) : BI d 0 := ⟨⟨by simp [DF.bfs], fun x hx => by simp [DF.bfs] at hx; subst hx; omega⟩, by simp, by simp [DF.bfs], by simp [DF.bfs]⟩
theorem BI.next {d : DF} (g : d.Good) {i : Nat} (h : BI d i) {x : Int} (hx : (d.bfs i).q[i]? = some x) : BI d (i + 1) := by
 have hlt := (List.getElem?_eq_some_iff.1 hx).1
 have h2 := (fold_len d.liveL (d.rows.getD x.toNat []) ((d.bfs i).q, [])).2
 refine ⟨?_, ?_, ?_, ?_⟩ <;> rw [bfs_next hx]
 ·exact fold_qi g _ h.qi
 ·have : (d.bfs i).q.length ≤ (rowT d.liveL (d.bfs i).q (d.rows.getD x.toNat [])).1.length := h2
  simp only
  omega
 ·simp [h.rl]
 ·simp [h.tl]
theorem BI.last {d : DF} {i : Nat} (h : BI d i) (he : i = (d.bfs i).q.length) : d.bfs d.rows.length = d.bfs i := by
 have h1 := h.qi.le
 have := bfs_stop he.symm (d.rows.length - i)
 rwa [Nat.add_sub_cancel' (by omega)] at this
theorem dfc_put1 {of : Nat → Nat} {n : Int} {x1 x2 v : EV} : (dfc of n x1 x2).take 257 ++ (v :: (dfc of n x1 x2).drop 258) = dfc of n v x2 := by
 rw [dfc_cls]
 unfold dfc
 rw [List.drop_append, List.drop_of_length_le (by simp [tab_len])]
 simp [tab_len]
theorem dfc_put2 {of : Nat → Nat} {n : Int} {x1 x2 v : EV} : (dfc of n x1 x2).take 258 ++ (v :: (dfc of n x1 x2).drop 259) = dfc of n x1 v := by
 have h1 : (dfc of n x1 x2).take 258 = tab 256 (fun i => .int .u8 ((of i : Nat) : Int)) ++ [.int .i64 n] ++ [x1] := by
  unfold dfc
  rw [List.take_append, List.take_of_length_le (by simp [tab_len])]
  simp [tab_len]
 have h2 : (dfc of n x1 x2).drop 259 = [] := List.drop_of_length_le (by rw [dfc_len]; omega)
 rw [h1, h2]
 unfold dfc
 simp
def nameOf (q : List Int) (x : Nat) : Int := if (x : Int) ∈ q then (q.idxOf (x : Int) : Int) else -1
def namesL (N : Nat) (q : List Int) : List Int := (List.range N).map (nameOf q)
theorem namesL_len (N : Nat) (q : List Int) : (namesL N q).length = N := by simp [namesL]
theorem namesL_get {N : Nat} {q : List Int} {x : Nat} (h : x < N) : (namesL N q)[x]? = some (nameOf q x) := by
 unfold namesL
 rw [List.getElem?_map, List.getElem?_range h]; rfl
theorem namesL_add {N : Nat} {q : List Int} {x : Int} (hx : 0 ≤ x ∧ x < N) (hn : x ∉ q) : (namesL N q).set x.toNat q.length = namesL N (q ++ [x]) := by
 refine List.ext_getElem? fun j => ?_
 rw [List.getElem?_set]
 by_cases hj : j < N
 ·rw [namesL_get hj, namesL_get hj]
  by_cases e : x.toNat = j
  ·rw [if_pos e, if_pos (by rw [namesL_len]; omega)]
   have ej : (j : Int) = x := by omega
   unfold nameOf
   rw [ej, if_pos (by simp), List.idxOf_append, if_neg hn]
   simp
  ·rw [if_neg e]
   have ej : (j : Int) ≠ x := by omega
   unfold nameOf
   by_cases hm : (j : Int) ∈ q
   ·rw [if_pos hm, if_pos (by simp [hm]), List.idxOf_append, if_pos hm]
   ·rw [if_neg hm, if_neg (by simp [hm, ej])]
 ·rw [List.getElem?_eq_none (by rw [namesL_len]; omega)]
  rw [List.getElem?_eq_none (l := namesL N (q ++ [x])) (by rw [namesL_len]; omega)]
  split
  ·rw [if_neg (by rw [namesL_len]; omega)]
  ·rfl
theorem intsE_set (l : List Int) (i : Nat) (v : Int) : (intsE l).set i (.int .i64 v) = intsE (l.set i v) := by unfold intsE; rw [List.map_set]
def partL (ks : List Int) (n : Nat) : List Int := ks ++ List.replicate (n - ks.length) 0
theorem partL_len {ks : List Int} {n : Nat} (h : ks.length ≤ n) : (partL ks n).length = n := by unfold partL; simp; omega
theorem partL_set {ks : List Int} {n : Nat} (h : ks.length < n) (v : Int) : (partL ks n).set ks.length v = partL (ks ++ [v]) n := by
 unfold partL
 obtain ⟨m, hm⟩ : ∃ m, n - ks.length = m + 1 := ⟨n - ks.length - 1, by omega⟩
 have h2 : n - (ks ++ [v]).length = m := by simp; omega
 rw [hm, h2, List.set_append_right _ _ (Nat.le_refl _), Nat.sub_self, List.replicate_succ]
 simp
theorem partL_full {ks : List Int} {n : Nat} (h : ks.length = n) : partL ks n = ks := by unfold partL; simp [h]
def initL (N i : Nat) : List Int := List.replicate i (-1) ++ List.replicate (N - i) 0
theorem initL_len {N i : Nat} (h : i ≤ N) : (initL N i).length = N := by unfold initL; simp; omega
theorem initL_set {N i : Nat} (h : i < N) : (initL N i).set i (-1) = initL N (i + 1) := by
 unfold initL
 obtain ⟨m, hm⟩ : ∃ m, N - i = m + 1 := ⟨N - i - 1, by omega⟩
 have h2 : N - (i + 1) = m := by omega
 rw [hm, h2, List.set_append_right _ _ (by simp), List.length_replicate, Nat.sub_self, List.replicate_succ, List.replicate_succ']
 simp
theorem initL_all (N : Nat) : initL N N = namesL N [] := by
 unfold initL
 rw [Nat.sub_self, List.replicate_zero, List.append_nil]
 refine List.ext_getElem? fun j => ?_
 by_cases hj : j < N
 ·rw [namesL_get hj, List.getElem?_replicate, if_pos hj]
  simp [nameOf]
 ·rw [List.getElem?_eq_none (by simp; omega), List.getElem?_eq_none (by rw [namesL_len]; omega)]
def zeroD : DF := ⟨fun _ => 0, 0, .nilsl, .nilsl, [], [], [], fun b hb => by omega, .nil, rfl, fun i y l h => by simp at h, .nil⟩
theorem slE_ok {n sz : Nat} {es : List EV} (h : okL n es = true) : (slE sz es).ok n = true := by
 unfold slE
 split
 ·rfl
 ·simpa [EV.ok] using h
theorem okL_rows (n : Nat) : ∀ rs : List (List Int), okL n (rs.map fun l => slE 1 (intsE l)) = true
 | [] => rfl
 | l :: rs => by
  rw [List.map_cons]
  simp only [okL]
  rw [slE_ok (okL_ints n l), okL_rows n rs]; rfl
theorem partL_set2 {ks : List Int} {n : Nat} (v w : Int) : (partL (ks ++ [v]) n).set ks.length w = partL (ks ++ [w]) n := by
 unfold partL
 rw [List.set_append_left _ _ (by simp), List.set_append_right _ _ (Nat.le_refl _)]
 simp
structure KH (D i : Nat) (G : Heap) (ow : Nat → Nat) (X1 X2 : EV) (xs : List EV) (rows : List (List Int)) (tags : List Int) : Prop where
 n1 : Hold D G ow 1 1 X1 xs
 n2 : Hold D G ow 2 1 X2 (intsE tags)
 nr : ∀ (j : Nat) (y : EV) (l : List Int), xs[j]? = some y → rows[j]? = some l → Hold D G ow (3 + j) 1 y (intsE l)
 xl : xs.length = i
 rl : rows.length = i
theorem KH.others {D i : Nat} {G G' : Heap} {ow ow' : Nat → Nat} {X1 X2 : EV} {xs : List EV} {rows : List (List Int)} {tags : List Int} (h : KH D i G ow X1 X2 xs rows tags) {id : Nat} (hid : id = 0 ∨ id = 3 + i) (ho : Others D id G ow G' ow') : KH D i G' ow' X1 X2 xs rows tags :=
 ⟨ho 1 _ _ _ (by omega) h.n1, ho 2 _ _ _ (by omega) h.n2, fun j y l hy hl => ho (3 + j) _ _ _ (by have := (List.getElem?_eq_some_iff.1 hy).1; have := h.xl; omega) (h.nr j y l hy hl), h.xl, h.rl⟩
theorem KH.start {D : Nat} {G : Heap} {ow : Nat → Nat} : KH D 0 G ow .nilsl .nilsl [] [] [] := ⟨.inl ⟨rfl, rfl⟩, .inl ⟨rfl, rfl⟩, fun j y l h => by simp at h, rfl, rfl⟩
theorem KH.grow {H : Heap} {m i : Nat} {G : Heap} {ow : Nat → Nat} {X1 X2 : EV} {xs : List EV} {rows : List (List Int)} {tags : List Int} (h : KH (H.length + m) i G ow X1 X2 xs rows tags) (ht : tags.length = i) (hi : i ≤ 100000) {y : EV} {l : List Int} (hy : Hold (H.length + m) G ow (3 + i) 1 y (intsE l)) (t : Int) :
  ∃ X1' X2' G1 G2 ow2, (∀ L : Heap, L.length = m → evAppend 1 24 X1 (.imm 1 [y]) (H ++ (L ++ G)) = some (X1', H ++ (L ++ G1))) ∧ (∀ L : Heap, L.length = m → evAppend 1 8 X2 (.imm 1 [.int .i64 t]) (H ++ (L ++ G1)) = some (X2', H ++ (L ++ G2))) ∧
   KH (H.length + m) (i + 1) G2 ow2 X1' X2' (xs ++ [y]) (rows ++ [l]) (tags ++ [t]) ∧ ∀ sz x es, Hold (H.length + m) G ow 0 sz x es → Hold (H.length + m) G2 ow2 0 sz x es := by
 obtain ⟨X1', G1, ow1, a1, b1, c1⟩ := h.n1.appendL y 24 (by omega) (by rw [hy.one.2]; rfl) (by rw [hy.one.2]; simp [hy.one.1]) (by rw [h.xl]; omega) (by omega)
 obtain ⟨X2', G2, ow2, a2, b2, c2⟩ := (c1 2 _ _ _ (by omega) h.n2).appendL (.int .i64 t) 8 (by omega) rfl rfl (by rw [intsE_len]; omega) (by omega)
 refine ⟨X1', X2', G1, G2, ow2, a1, a2, ⟨c2 1 _ _ _ (by omega) b1, by rw [show intsE (tags ++ [t]) = intsE tags ++ [.int .i64 t] by simp [intsE]]; exact b2, fun j z r hz hr => ?_, by simp [h.xl], by simp [h.rl]⟩, fun sz x es hx => c2 0 _ _ _ (by omega) (c1 0 _ _ _ (by omega) hx)⟩
 refine c2 (3 + j) _ _ _ (by omega) (c1 (3 + j) _ _ _ (by omega) ?_)
 by_cases e : j < i
 ·rw [List.getElem?_append_left (by rw [h.xl]; exact e)] at hz
  rw [List.getElem?_append_left (by rw [h.rl]; exact e)] at hr
  exact h.nr j z r hz hr
 ·have hj : j = i := by
   have := (List.getElem?_eq_some_iff.1 hz).1
   rw [List.length_append, h.xl, List.length_singleton] at this
   omega
  subst hj
  rw [List.getElem?_append_right (by rw [h.xl]; omega), h.xl, Nat.sub_self] at hz
  rw [List.getElem?_append_right (by rw [h.rl]; omega), h.rl, Nat.sub_self] at hr
  simp only [List.getElem?_cons_zero, Option.some.injEq] at hz hr
  subst hz hr
  exact hy
theorem intsE_ne {l : List Int} (h : 0 < l.length) : intsE l ≠ [] := by
 intro e
 have := congrArg List.length e
 rw [intsE_len] at this
 simp only [List.length_nil] at this
 omega
theorem mayC_le {of : Nat → Nat} {n : Int} (h : Abs.mayC of n = true) : n ≤ 256 := by
 unfold Abs.mayC at h
 cases hm : mayN of 256 with
 | none => rw [hm] at h; simp at h
 | some m =>
  rw [hm] at h
  have := mayN_le hm
  simp only [beq_iff_eq] at h
  omega
def rowP (L : List Bool) (q l : List Int) (c : Nat) : List Int × List Int := (l.take c).foldl (stepT L) (q, [])
theorem rowP_next (L : List Bool) (q : List Int) {l : List Int} {c : Nat} {z : Int} (h : l[c]? = some z) : rowP L q l (c + 1) = stepT L (rowP L q l c) z := by
 unfold rowP
 rw [List.take_add_one, h, List.foldl_append]
 rfl
theorem rowP_full (L : List Bool) (q l : List Int) : rowP L q l l.length = rowT L q l := by unfold rowP rowT; rw [List.take_length]
theorem rowP_len (L : List Bool) (q : List Int) {l : List Int} {c : Nat} (h : c ≤ l.length) : (rowP L q l c).2.length = c := by
 unfold rowP
 rw [(fold_len L (l.take c) (q, [])).1]
 simp only [List.length_nil, List.length_take]
 omega
theorem rowP_qi {d : DF} (g : d.Good) {q : List Int} (h : QI d.rows.length q) (l : List Int) (c : Nat) : QI d.rows.length (rowP d.liveL q l c).1 := fold_qi g _ h
theorem seesP_eq {M : List Bool} {z : Int} (h0 : 0 ≤ z) {b : Bool} (h : M[z.toNat]? = some b) : seesP M z = b := by
 unfold seesP
 rw [decide_eq_true h0, List.getD_eq_getElem?_getD, h]
 rfl
theorem mapO_app {α β : Type} {f : α → Option β} : ∀ {a b : List α} {c e : List β}, mapO f a = some c → mapO f b = some e → mapO f (a ++ b) = some (c ++ e)
 | [], b, c, e, h1, h2 => by
  simp only [mapO, Option.some.injEq] at h1
  subst h1
  exact h2
 | x :: a, b, c, e, h1, h2 => by
  simp only [mapO] at h1
  split at h1
  ·rename_i y ys hy hys
   simp only [Option.some.injEq] at h1
   subst h1
   rw [List.cons_append]
   simp only [mapO]
   rw [hy, mapO_app hys h2]
   rfl
  ·simp at h1
theorem mapO_of {α β : Type} {f : α → Option β} : ∀ {xs : List α} {ys : List β}, xs.length = ys.length → (∀ (j : Nat) (x : α) (y : β), xs[j]? = some x → ys[j]? = some y → f x = some y) → mapO f xs = some ys
 | [], [], _, _ => rfl
 | [], _ :: _, h, _ => by simp at h
 | _ :: _, [], h, _ => by simp at h
 | x :: xs, y :: ys, h, hf => by
  simp only [mapO]
  rw [hf 0 x y rfl rfl, mapO_of (by simpa using h) fun j a b ha hb => hf (j + 1) a b ha hb]
theorem fz_out {H P : Heap} {m i : Nat} (hP : P.length = m) {G : Heap} {ow : Nat → Nat} {X1 X2 : EV} {xs : List EV} {rows : List (List Int)} {tags : List Int} {of : Nat → Nat} {n : Int} (h : KH (H.length + m) i G ow X1 X2 xs rows tags) :
  Abs.fz H.length (H ++ (P ++ G)) 8 (.agg (dfc of n X1 X2)) = some (.agg (dfc of n (slE 1 (rows.map fun l => slE 1 (intsE l))) (slE 1 (intsE tags)))) := by
 rw [← List.append_assoc]
 have hPl : (H ++ P).length = H.length + m := by simp [hP]
 have f1 : Abs.fz H.length ((H ++ P) ++ G) 7 X1 = some (slE 1 (rows.map fun l => slE 1 (intsE l))) :=
  h.n1.fz2 (n := 6) (H ++ P) hPl (by omega) (mapO_of (by rw [List.length_map, h.xl, h.rl]) fun j x y hx hy => by
   rw [List.getElem?_map] at hy
   cases hr : rows[j]? with
   | none => rw [hr] at hy; simp at hy
   | some l =>
    rw [hr] at hy
    simp only [Option.map_some, Option.some.injEq] at hy
    subst hy
    exact (h.nr j x l hx hr).fz (n := 5) (H ++ P) hPl (by omega) (okL_ints _ l))
 have f2 : Abs.fz H.length ((H ++ P) ++ G) 7 X2 = some (slE 1 (intsE tags)) := h.n2.fz (n := 6) (H ++ P) hPl (by omega) (okL_ints _ tags)
 unfold Abs.fz
 split
 ·rename_i hok
  have h12 : X1.ok H.length = true ∧ X2.ok H.length = true := by
   simp only [dfc, EV.ok, okL_app, okL, Bool.and_eq_true] at hok
   exact ⟨hok.2.1, hok.2.2.1⟩
  rw [fz_ok h12.1] at f1
  rw [fz_ok h12.2] at f2
  rw [← Option.some.inj f1, ← Option.some.inj f2]
 ·have fi : ∀ (k : IntKind) (z : Int), Abs.fz H.length ((H ++ P) ++ G) 7 (.int k z) = some (.int k z) := fun k z => fz_ok rfl
  simp only
  rw [show mapO (Abs.fz H.length ((H ++ P) ++ G) 7) (dfc of n X1 X2) = some (dfc of n (slE 1 (rows.map fun l => slE 1 (intsE l))) (slE 1 (intsE tags))) from by
   unfold dfc
   refine mapO_app (mapO_app (mapO_same fun x hx => ?_) ?_) ?_
   ·obtain ⟨q, _, rfl⟩ := cls_mem (n := 0) hx
    exact fi _ _
   ·simp only [mapO]
    rw [fi]
   ·simp only [mapO]
    rw [f1, f2]]
  rfl
theorem stepT_get (L : List Bool) {p : List Int × List Int} {i : Nat} {x : Int} (h : p.1[i]? = some x) (z : Int) : (stepT L p z).1[i]? = some x := by
 unfold stepT
 split
 ·simp only
  split
  ·exact h
  ·rw [List.getElem?_append_left (List.getElem?_eq_some_iff.1 h).1]; exact h
 ·exact h
theorem fold_get (L : List Bool) {i : Nat} {x : Int} : ∀ (l : List Int) {p : List Int × List Int}, p.1[i]? = some x → (l.foldl (stepT L) p).1[i]? = some x
 | [], _, h => h
 | z :: l, _, h => fold_get L l (stepT_get L h z)
theorem rowP_get (L : List Bool) {q l : List Int} {i c : Nat} {x : Int} (h : q[i]? = some x) : (rowP L q l c).1[i]? = some x := fold_get L _ h
def kAt (q : List Int) (z : Int) (j : Nat) : Int := if z ∈ q.take j then (q.idxOf z : Int) else -1
theorem kAt_zero (q : List Int) (z : Int) : kAt q z 0 = -1 := by simp [kAt]
theorem kAt_hit {q : List Int} {z : Int} {j : Nat} (hn : q.Nodup) (h : q[j]? = some z) : kAt q z (j + 1) = (j : Int) := by
 obtain ⟨hj, e⟩ := List.getElem?_eq_some_iff.1 h
 unfold kAt
 rw [if_pos (by rw [List.take_add_one, h]; simp)]
 have := List.Nodup.idxOf_getElem hn j hj
 rw [e] at this
 rw [this]
theorem kAt_miss {q : List Int} {z w : Int} {j : Nat} (h : q[j]? = some w) (hw : w ≠ z) : kAt q z (j + 1) = kAt q z j := by
 unfold kAt
 rw [List.take_add_one, h]
 have : (z ∈ q.take j ++ (some w).toList) ↔ z ∈ q.take j := by simp [Ne.symm hw]
 simp only [this]
theorem kAt_all (q : List Int) (z : Int) : kAt q z q.length = if z ∈ q then (q.idxOf z : Int) else -1 := by unfold kAt; rw [List.take_length]
noncomputable def DF.trimE (d : DF) : EV :=
 if d.liveL[0]? = some true then .agg (dfc d.of d.n (slE 1 ((d.bfs d.rows.length).rows.map fun l => slE 1 (intsE l))) (slE 1 (intsE (d.bfs d.rows.length).tags))) else .agg (dfc d.of d.n .nilsl .nilsl)
section
variable {E : Env} [R : DfaR E]
theorem dTrim_no (hC : ClsDen E R.n_class_May) (d : DF) (hm : d.may = false) (H : Heap) : den E R.n_dfa_Trim [d.E] H = some (.ret (.agg (dfc (fun _ => 0) 0 .nilsl .nilsl)), H) := by
 obtain ⟨k1, k2, hle, hle2, o1, o2, hA, hL, hx1, hx2, hn, htk⟩ := d.facts
 unfold EV.one at o1 o2
 have hmay := fun H => dfaMay_den (R := R) hC d H
 rw [hm] at hmay
 have hfl := dfc_flat (of := fun _ => 0) (n := 0) (x1 := .nilsl) (x2 := .nilsl)
 refine den_of R.d_dfa_Trim (by simp) ?_
 unfold Gn.dfa_Trim Gn.dfa_Trim_r
 unfold DF.E at hmay ⊢
 repeat' first | (simp (disch := first | omega | assumption) only [go_sem, ↓reduceIte, simprocAttr, *]) | refine HG_split (fun hb=>?_) fun hb=>?_ | refine HC_split (fun hb=>?_) fun hb=>?_
 all_goals (try simp only [FX] at *)
 all_goals first | omega | skip
 rw [show List.take 259 ((tab 256 fun _ => EV.int .u8 0) ++ [EV.int .i64 0, EV.nilsl, EV.nilsl]) = dfc (fun _ => 0) 0 .nilsl .nilsl from hfl]
 exact finV_drop zeroD.ok rfl
set_option maxHeartbeats 4000000 in
theorem dTrim_den (hC : ClsDen E R.n_class_May) (d : DF) (hm : d.may = true) (H : Heap) : den E R.n_dfa_Trim [d.E] H = some (.ret d.trimE, H) := by
 have g := DF.good hm
 obtain ⟨k1, k2, hle, hle2, o1, o2, hA, hL, hx1, hx2, hn, htk⟩ := d.facts
 unfold EV.one at o1 o2
 have g6 := g.le
 have gtl := g.tl
 rw [g.tl] at k2 hle2
 have hmay := fun H => dfaMay_den (R := R) hC d H
 rw [hm] at hmay
 have hlive := fun H => live_den (R := R) d g H
 have h257 : List.take 257 ((tab 256 fun i => EV.int .u8 ((d.of i : Nat) : Int)) ++ [EV.int .i64 d.n, EV.nilsl, EV.nilsl]) = (tab 256 fun i => EV.int .u8 ((d.of i : Nat) : Int)) ++ [EV.int .i64 d.n] := by
  rw [List.take_append, List.take_of_length_le (by rw [tab_len]; omega), tab_len]; rfl
 refine den_of R.d_dfa_Trim (by simp) ?_
 unfold Gn.dfa_Trim Gn.dfa_Trim_r
 unfold DF.E at hmay hlive ⊢
 refine Hd_cut2 (fun t H' => Sl t [(1, .ptr H.length 259 0 0), (2, .ptr (H.length + 1) 259 0 0)] ∧ H' = H ++ [some (.row 259 [.agg (dfc d.of d.n d.x1 d.x2)]), some (.row 259 [.agg ((tab 256 fun _ => EV.int .u8 0) ++ [EV.int .i64 0, EV.nilsl, EV.nilsl])])]) ?_ ?_
 ·repeat' first | (simp (disch := first | omega | assumption) only [go_sem, ↓reduceIte, simprocAttr, Sl, *]) | refine HG_split (fun hb=>?_) fun hb=>?_ | refine HC_split (fun hb=>?_) fun hb=>?_
 rintro t _ ⟨ht, rfl⟩
 simp (disch := omega) only [go_sem, ↓reduceIte, simprocAttr, Sl] at ht
 refine Hd_cut2 (fun t H' => Sl t [(1, .ptr H.length 259 0 0), (2, .ptr (H.length + 1) 259 0 0)] ∧ H' = H ++ [some (.row 259 [.agg (dfc d.of d.n d.x1 d.x2)]), some (.row 259 [.agg ((tab 256 fun _ => EV.int .u8 0) ++ [EV.int .i64 0, EV.nilsl, EV.nilsl])])]) ?_ ?_
 ·repeat' first | (simp (disch := first | omega | assumption) only [go_sem, ↓reduceIte, simprocAttr, Sl, *]) | refine HG_split (fun hb=>?_) fun hb=>?_ | refine HC_split (fun hb=>?_) fun hb=>?_
  all_goals simp [ht]
 rintro t2 _ ⟨ht2, rfl⟩
 simp (disch := omega) only [go_sem, ↓reduceIte, simprocAttr, Sl] at ht2
 clear ht t hmay
 have hc1 : (List.take 257 (dfc d.of d.n d.x1 d.x2)).all EV.one = true := List.all_eq_true.2 fun x hx => List.all_eq_true.1 hA x (List.mem_of_mem_take hx)
 have hc2 : (List.take 257 (dfc d.of d.n d.x1 d.x2)).length = 257 := by rw [List.length_take, hL]; rfl
 have hc3 : List.take 257 (dfc d.of d.n d.x1 d.x2) ++ [EV.nilsl, EV.nilsl] = dfc d.of d.n .nilsl .nilsl := by rw [dfc_cls]; rfl
 have hLn := dfc_len (of := d.of) (n := d.n) (x1 := .nilsl) (x2 := .nilsl)
 have hAn : (dfc d.of d.n .nilsl .nilsl).all EV.one = true := DF.all ⟨d.of, d.n, .nilsl, .nilsl, [], [], [], d.hof, .nil, rfl, fun i y l h => by simp at h, .nil⟩
 have hOn : ∀ n, (EV.agg (dfc d.of d.n .nilsl .nilsl)).ok n = true := fun n => DF.ok ⟨d.of, d.n, .nilsl, .nilsl, [], [], [], d.hof, .nil, rfl, fun i y l h => by simp at h, .nil⟩
 have htn : (dfc d.of d.n .nilsl .nilsl).take 259 = dfc d.of d.n .nilsl .nilsl := dfc_take 259 (by omega)
 refine Hd_cut2 (fun t H' => Sl t [(1, .ptr H.length 259 0 0), (2, .ptr (H.length + 1) 259 0 0), (3, .ptr (H.length + 2) 259 0 0)] ∧ H' = H ++ [some (.row 259 [.agg (dfc d.of d.n d.x1 d.x2)]), some (.row 259 [.agg ((tab 256 fun _ => EV.int .u8 0) ++ [EV.int .i64 0, EV.nilsl, EV.nilsl])]), some (.row 259 [.agg (dfc d.of d.n .nilsl .nilsl)])]) ?_ ?_
 ·repeat' first | (simp (disch := first | omega | assumption) only [go_sem, ↓reduceIte, simprocAttr, Sl, *]) | refine HG_split (fun hb=>?_) fun hb=>?_ | refine HC_split (fun hb=>?_) fun hb=>?_
 rintro t _ ⟨ht, rfl⟩
 simp (disch := omega) only [go_sem, ↓reduceIte, simprocAttr, Sl] at ht
 clear ht2 t2 hc1 hc2 hc3
 refine Hd_cut2 (fun t H' => Sl t [(1, .ptr H.length 259 0 0), (2, .ptr (H.length + 1) 259 0 0), (3, .ptr (H.length + 2) 259 0 0), (4, .imm 1 (boolsE d.liveL))] ∧ H' = H ++ [some (.row 259 [.agg (dfc d.of d.n d.x1 d.x2)]), some (.row 259 [.agg ((tab 256 fun _ => EV.int .u8 0) ++ [EV.int .i64 0, EV.nilsl, EV.nilsl])]), some (.row 259 [.agg (dfc d.of d.n .nilsl .nilsl)])]) ?_ ?_
 ·repeat' first | (simp (disch := first | omega | assumption) only [go_sem, ↓reduceIte, simprocAttr, Sl, *]) | refine HG_split (fun hb=>?_) fun hb=>?_ | refine HC_split (fun hb=>?_) fun hb=>?_
 rintro t2 _ ⟨ht2, rfl⟩
 simp (disch := omega) only [go_sem, ↓reduceIte, simprocAttr, Sl] at ht2
 clear ht t hlive
 have hll := liveL_len d
 have hbl := boolsE_len d.liveL
 have hlv : evLen false (.imm 1 (boolsE d.liveL)) = some d.rows.length := by show some (boolsE d.liveL).length = _; rw [hbl, hll]
 cases h0 : d.liveL[0]? with
 | none =>
  have hr0 : d.rows.length = 0 := by
   rw [List.getElem?_eq_none_iff] at h0
   omega
  have e : d.trimE = .agg (dfc d.of d.n .nilsl .nilsl) := by unfold DF.trimE; rw [h0]; simp
  rw [e]
  rw [hr0] at hlv
  clear e h0
  repeat' first | (simp (disch := first | omega | assumption) only [go_sem, ↓reduceIte, simprocAttr, *]) | refine HG_split (fun hb=>?_) fun hb=>?_ | refine HC_split (fun hb=>?_) fun hb=>?_
  all_goals (try simp only [FX] at *)
  all_goals first | omega | exact finV_drop (hOn _) rfl
 | some v =>
 have hN : 0 < d.rows.length := by
  have := (List.getElem?_eq_some_iff.1 h0).1
  omega
 have hg0 := boolsE_get h0
 have hel : evElem 1 0 (.imm 1 (boolsE d.liveL)) = some (.iptr [.bool v] 0) := by
  simp [evElem, hg0, EV.cells]
 cases v with
 | false =>
  have e : d.trimE = .agg (dfc d.of d.n .nilsl .nilsl) := by unfold DF.trimE; rw [h0]; simp
  rw [e]
  clear e h0 hg0
  repeat' first | (simp (disch := first | omega | assumption) only [go_sem, ↓reduceIte, simprocAttr, *]) | refine HG_split (fun hb=>?_) fun hb=>?_ | refine HC_split (fun hb=>?_) fun hb=>?_
  all_goals (try simp only [FX] at *)
  all_goals first | omega | exact finV_drop (hOn _) rfl
 | true =>
 have e : d.trimE = .agg (dfc d.of d.n (slE 1 ((d.bfs d.rows.length).rows.map fun l => slE 1 (intsE l))) (slE 1 (intsE (d.bfs d.rows.length).tags))) := by unfold DF.trimE; rw [h0]; simp
 rw [e]
 clear e
 refine Hd_cut2 (fun t H' => Sl t [(1, .ptr H.length 259 0 0), (2, .ptr (H.length + 1) 259 0 0), (3, .ptr (H.length + 2) 259 0 0), (4, .imm 1 (boolsE d.liveL))] ∧ H' = H ++ [some (.row 259 [.agg (dfc d.of d.n d.x1 d.x2)]), some (.row 259 [.agg ((tab 256 fun _ => EV.int .u8 0) ++ [EV.int .i64 0, EV.nilsl, EV.nilsl])]), some (.row 259 [.agg (dfc d.of d.n .nilsl .nilsl)])]) ?_ ?_
 ·repeat' first | (simp (disch := first | omega | assumption) only [go_sem, ↓reduceIte, simprocAttr, Sl, *]) | refine HG_split (fun hb=>?_) fun hb=>?_ | refine HC_split (fun hb=>?_) fun hb=>?_
  all_goals (try simp only [FX] at *)
  all_goals first | omega | skip
  all_goals simp [ht2]
 rintro t _ ⟨ht, rfl⟩
 simp (disch := omega) only [go_sem, ↓reduceIte, simprocAttr, Sl] at ht
 clear ht2 t2 hg0 h0 hel
 have hmk' : evMake 1 8 (.int .i64 0) (.int .i64 d.rows.length) (.int .i64 d.rows.length) (H ++ [some (.row 259 [.agg (dfc d.of d.n d.x1 d.x2)]), some (.row 259 [.agg ((tab 256 fun _ => EV.int .u8 0) ++ [EV.int .i64 0, EV.nilsl, EV.nilsl])]), some (.row 259 [.agg (dfc d.of d.n .nilsl .nilsl)])]) = some (.own (H.length + 3) 1 0 d.rows.length, H ++ [some (.row 259 [.agg (dfc d.of d.n d.x1 d.x2)]), some (.row 259 [.agg ((tab 256 fun _ => EV.int .u8 0) ++ [EV.int .i64 0, EV.nilsl, EV.nilsl])]), some (.row 259 [.agg (dfc d.of d.n .nilsl .nilsl)]), some (.row 1 (intsE (initL d.rows.length 0)))]) := by
  unfold evMake
  simp only
  rw [if_pos ⟨by omega, by omega, by omega, by omega⟩, Int.toNat_natCast]
  simp [initL, intsE]
 refine Hd_cut2 (fun t H' => Sl t [(1, .ptr H.length 259 0 0), (2, .ptr (H.length + 1) 259 0 0), (3, .ptr (H.length + 2) 259 0 0), (4, .imm 1 (boolsE d.liveL)), (5, .own (H.length + 3) 1 0 d.rows.length)] ∧ H' = H ++ [some (.row 259 [.agg (dfc d.of d.n d.x1 d.x2)]), some (.row 259 [.agg ((tab 256 fun _ => EV.int .u8 0) ++ [EV.int .i64 0, EV.nilsl, EV.nilsl])]), some (.row 259 [.agg (dfc d.of d.n .nilsl .nilsl)]), some (.row 1 (intsE (initL d.rows.length 0)))]) ?_ ?_
 ·repeat' first | (simp (disch := first | omega | assumption) only [go_sem, ↓reduceIte, simprocAttr, Sl, *]) | refine HG_split (fun hb=>?_) fun hb=>?_ | refine HC_split (fun hb=>?_) fun hb=>?_
 rintro t2 _ ⟨ht2, rfl⟩
 simp (disch := omega) only [go_sem, ↓reduceIte, simprocAttr, Sl] at ht2
 clear ht t hmk'
 refine Hd_cut2 (fun t H' => Sl t [(1, .ptr H.length 259 0 0), (2, .ptr (H.length + 1) 259 0 0), (3, .ptr (H.length + 2) 259 0 0), (4, .imm 1 (boolsE d.liveL)), (5, .own (H.length + 3) 1 0 d.rows.length)] ∧ H' = H ++ [some (.row 259 [.agg (dfc d.of d.n d.x1 d.x2)]), some (.row 259 [.agg ((tab 256 fun _ => EV.int .u8 0) ++ [EV.int .i64 0, EV.nilsl, EV.nilsl])]), some (.row 259 [.agg (dfc d.of d.n .nilsl .nilsl)]), some (.row 1 (intsE (namesL d.rows.length [])))]) ?_ ?_
 ·repeat' first | (simp (disch := first | omega | assumption) only [go_sem, ↓reduceIte, simprocAttr, *]) | refine HG_split (fun hb=>?_) fun hb=>?_ | refine HC_split (fun hb=>?_) fun hb=>?_
  refine while_of (ι := Nat) (fun i => i ≤ d.rows.length) (fun i => d.rows.length - i) (fun i => [(1, .ptr H.length 259 0 0), (2, .ptr (H.length + 1) 259 0 0), (3, .ptr (H.length + 2) 259 0 0), (4, .imm 1 (boolsE d.liveL)), (5, .own (H.length + 3) 1 0 d.rows.length), (35, .int .i64 d.rows.length), (36, .int .i64 i)])
   (fun i => H ++ [some (.row 259 [.agg (dfc d.of d.n d.x1 d.x2)]), some (.row 259 [.agg ((tab 256 fun _ => EV.int .u8 0) ++ [EV.int .i64 0, EV.nilsl, EV.nilsl])]), some (.row 259 [.agg (dfc d.of d.n .nilsl .nilsl)]), some (.row 1 (intsE (initL d.rows.length i)))]) 0 (by omega) ?_ (by first | rfl | simp) ?_
  ·simp (disch := omega) only [go_sem, ↓reduceIte, simprocAttr, Sl, ht2]
  ·intro i t hi ht K hK
   simp (disch := omega) only [go_sem, ↓reduceIte, simprocAttr, Sl] at ht
   have hil := intsE_len (initL d.rows.length i)
   rw [initL_len hi] at hil
   by_cases hlt : i < d.rows.length
   ·obtain ⟨w, hw⟩ := get_some (l := initL d.rows.length i) (i := i) (by rw [initL_len hi]; exact hlt)
    have hg := intsE_get hw
    have hst := intsE_set (initL d.rows.length i) i (-1)
    rw [initL_set hlt] at hst
    have hk := hK (i + 1)
    clear hK hw
    repeat' first | (simp (disch := first | omega | assumption) only [go_sem, ↓reduceIte, simprocAttr, *]) | refine HG_split (fun hb=>?_) fun hb=>?_ | refine HC_split (fun hb=>?_) fun hb=>?_
    all_goals (try simp only [FX] at *)
    all_goals first | omega | skip
    refine hk _ _ (by omega) (by omega) ?_ rfl
    simp (disch := omega) only [go_sem, ↓reduceIte, simprocAttr, Sl, ht, and_self, cast_succ]
   ·have hie : i = d.rows.length := by omega
    have hall := initL_all d.rows.length
    rw [← hie] at hall
    clear hK
    repeat' first | (simp (disch := first | omega | assumption) only [go_sem, ↓reduceIte, simprocAttr, *]) | refine HG_split (fun hb=>?_) fun hb=>?_ | refine HC_split (fun hb=>?_) fun hb=>?_
    all_goals (try simp only [FX] at *)
    all_goals first | omega | skip
    refine ⟨?_, by rw [initL_all]⟩
    simp (disch := omega) only [go_sem, ↓reduceIte, simprocAttr, Sl, ht, and_self, cast_succ]
 rintro t _ ⟨ht, rfl⟩
 simp (disch := omega) only [go_sem, ↓reduceIte, simprocAttr, Sl] at ht
 clear ht2 t2
 refine Hd_cut2 (fun t H' => Sl t [(1, .ptr H.length 259 0 0), (2, .ptr (H.length + 1) 259 0 0), (3, .ptr (H.length + 2) 259 0 0), (4, .imm 1 (boolsE d.liveL)), (5, .own (H.length + 3) 1 0 d.rows.length)] ∧ H' = H ++ [some (.row 259 [.agg (dfc d.of d.n d.x1 d.x2)]), some (.row 259 [.agg ((tab 256 fun _ => EV.int .u8 0) ++ [EV.int .i64 0, EV.nilsl, EV.nilsl])]), some (.row 259 [.agg (dfc d.of d.n .nilsl .nilsl)]), some (.row 1 (intsE (namesL d.rows.length [0])))]) ?_ ?_
 ·obtain ⟨w, hw⟩ := get_some (l := namesL d.rows.length []) (i := 0) (by rw [namesL_len]; exact hN)
  have hg := intsE_get hw
  have hst := intsE_set (namesL d.rows.length []) 0 0
  rw [show (namesL d.rows.length []).set 0 0 = namesL d.rows.length [0] from namesL_add (q := []) (x := 0) ⟨by omega, by omega⟩ (by simp)] at hst
  have hil := intsE_len (namesL d.rows.length [])
  rw [namesL_len] at hil
  clear hw
  repeat' first | (simp (disch := first | omega | assumption) only [go_sem, ↓reduceIte, simprocAttr, Sl, *]) | refine HG_split (fun hb=>?_) fun hb=>?_ | refine HC_split (fun hb=>?_) fun hb=>?_
  all_goals (try simp only [FX] at *)
  all_goals first | omega | skip
 rintro t2 _ ⟨ht2, rfl⟩
 simp (disch := omega) only [go_sem, ↓reduceIte, simprocAttr, Sl] at ht2
 clear ht t
 refine Hd_cut2 (fun t H' => Sl t [(1, .ptr H.length 259 0 0), (2, .ptr (H.length + 1) 259 0 0), (3, .ptr (H.length + 2) 259 0 0), (4, .imm 1 (boolsE d.liveL)), (5, .own (H.length + 3) 1 0 d.rows.length), (7, .own (H.length + 4) 1 0 1)] ∧ H' = H ++ [some (.row 259 [.agg (dfc d.of d.n d.x1 d.x2)]), some (.row 259 [.agg ((tab 256 fun _ => EV.int .u8 0) ++ [EV.int .i64 0, EV.nilsl, EV.nilsl])]), some (.row 259 [.agg (dfc d.of d.n .nilsl .nilsl)]), some (.row 1 (intsE (namesL d.rows.length [0]))), some (.row 1 [.int .i64 0])]) ?_ ?_
 ·repeat' first | (simp (disch := first | omega | assumption) only [go_sem, ↓reduceIte, simprocAttr, Sl, *]) | refine HG_split (fun hb=>?_) fun hb=>?_ | refine HC_split (fun hb=>?_) fun hb=>?_
 rintro t _ ⟨ht, rfl⟩
 simp (disch := omega) only [go_sem, ↓reduceIte, simprocAttr, Sl] at ht
 clear ht2 t2
 refine Hd_cut2 (fun t H' => ∃ i X1 X2 G ow xs, BI d i ∧ i = (d.bfs i).q.length ∧ KH (H.length + 4) i G ow X1 X2 xs (d.bfs i).rows (d.bfs i).tags ∧ Sl t [(1, .ptr H.length 259 0 0), (2, .ptr (H.length + 1) 259 0 0), (3, .ptr (H.length + 2) 259 0 0), (4, .imm 1 (boolsE d.liveL)), (5, .own (H.length + 3) 1 0 d.rows.length)] ∧ H' = H ++ some (.row 259 [.agg (dfc d.of d.n d.x1 d.x2)]) :: some (.row 259 [.agg ((tab 256 fun _ => EV.int .u8 0) ++ [EV.int .i64 0, EV.nilsl, EV.nilsl])]) :: some (.row 259 [.agg (dfc d.of d.n X1 X2)]) :: some (.row 1 (intsE (namesL d.rows.length (d.bfs i).q))) :: G) ?_ ?_
 ·repeat' first | (simp (disch := first | omega | assumption) only [go_sem, ↓reduceIte, simprocAttr, *]) | refine HG_split (fun hb=>?_) fun hb=>?_ | refine HC_split (fun hb=>?_) fun hb=>?_
  refine while_of (ι := Nat × EV × EV × EV × Heap × (Nat → Nat) × List EV) (fun i => BI d i.1 ∧ Hold (H.length + 4) i.2.2.2.2.1 i.2.2.2.2.2.1 0 1 i.2.2.2.1 (intsE (d.bfs i.1).q) ∧ KH (H.length + 4) i.1 i.2.2.2.2.1 i.2.2.2.2.2.1 i.2.1 i.2.2.1 i.2.2.2.2.2.2 (d.bfs i.1).rows (d.bfs i.1).tags) (fun i => d.rows.length - i.1)
   (fun i => [(1, .ptr H.length 259 0 0), (2, .ptr (H.length + 1) 259 0 0), (3, .ptr (H.length + 2) 259 0 0), (4, .imm 1 (boolsE d.liveL)), (5, .own (H.length + 3) 1 0 d.rows.length), (7, i.2.2.2.1)]) (fun i => H ++ some (.row 259 [.agg (dfc d.of d.n d.x1 d.x2)]) :: some (.row 259 [.agg ((tab 256 fun _ => EV.int .u8 0) ++ [EV.int .i64 0, EV.nilsl, EV.nilsl])]) :: some (.row 259 [.agg (dfc d.of d.n i.2.1 i.2.2.1)]) :: some (.row 1 (intsE (namesL d.rows.length (d.bfs i.1).q))) :: i.2.2.2.2.1) (0, .nilsl, .nilsl, .own (H.length + 4) 1 0 1, [some (.row 1 [.int .i64 0])], (fun _ => 0), []) ⟨.zero hN, .inr ⟨0, rfl, rfl, rfl, by simp [intsE, DF.bfs]⟩, .start⟩ ?_ (by first | rfl | simp [DF.bfs]) ?_
  ·simp (disch := omega) only [go_sem, ↓reduceIte, simprocAttr, Sl, ht]
  rintro ⟨i, X1, X2, Q, G, ow, xs⟩ t2 ⟨hB, hQ, hK0⟩ ht2 K hK
  simp only at hB hQ hK0
  simp (disch := omega) only [go_sem, ↓reduceIte, simprocAttr, Sl] at ht2
  clear ht t
  generalize hq : (d.bfs i).q = q at hQ
  have hqi := hB.qi
  have hle := hB.le
  rw [hq] at hqi hle
  have hqle := hqi.le
  have lX1 := hK0.n1.len
  have lX2 := hK0.n2.len
  rw [hK0.xl] at lX1
  rw [intsE_len, hB.tl] at lX2
  have lQ := hQ.len
  rw [intsE_len] at lQ
  have oX1 := hK0.n1.one.1
  have oX2 := hK0.n2.one.1
  have dX1 := dfc_x1 (of := d.of) (n := d.n) (x1 := X1) (x2 := X2)
  have dX2 := dfc_x2 (of := d.of) (n := d.n) (x1 := X1) (x2 := X2)
  have dXL := dfc_len (of := d.of) (n := d.n) (x1 := X1) (x2 := X2)
  unfold EV.one at oX1 oX2
  show @Hd E ⟨_⟩ ⟨t2⟩ ⟨H ++ some (.row 259 [.agg (dfc d.of d.n d.x1 d.x2)]) :: some (.row 259 [.agg ((tab 256 fun _ => EV.int .u8 0) ++ [EV.int .i64 0, EV.nilsl, EV.nilsl])]) :: some (.row 259 [.agg (dfc d.of d.n X1 X2)]) :: some (.row 1 (intsE (namesL d.rows.length q))) :: G⟩ ⟨_⟩
  by_cases hlt : i < q.length
  ·refine Hd_cut2 (fun t H' => Sl t [(1, .ptr H.length 259 0 0), (2, .ptr (H.length + 1) 259 0 0), (3, .ptr (H.length + 2) 259 0 0), (4, .imm 1 (boolsE d.liveL)), (5, .own (H.length + 3) 1 0 d.rows.length), (7, Q)] ∧ H' = H ++ some (.row 259 [.agg (dfc d.of d.n d.x1 d.x2)]) :: some (.row 259 [.agg ((tab 256 fun _ => EV.int .u8 0) ++ [EV.int .i64 0, EV.nilsl, EV.nilsl])]) :: some (.row 259 [.agg (dfc d.of d.n X1 X2)]) :: some (.row 1 (intsE (namesL d.rows.length q))) :: G) ?_ ?_
   ·clear hK hB hQ hK0
    repeat' first | (simp (disch := first | omega | assumption) only [go_sem, ↓reduceIte, simprocAttr, Sl, *]) | refine HG_split (fun hb=>?_) fun hb=>?_ | refine HC_split (fun hb=>?_) fun hb=>?_
    all_goals (try simp only [FX] at *)
    all_goals first | omega | skip
    all_goals simp [ht2]
   rintro t _ ⟨ht, rfl⟩
   simp (disch := omega) only [go_sem, ↓reduceIte, simprocAttr, Sl] at ht
   clear ht2 t2
   rw [Hd_block]
   obtain ⟨x, hx⟩ := get_some hlt
   have hxr := hqi.rng x (List.mem_of_getElem? hx)
   obtain ⟨l, hl⟩ := get_some (l := d.rows) (i := x.toNat) (by omega)
   obtain ⟨tg, htg⟩ := get_some (l := d.tags) (i := x.toNat) (by omega)
   obtain ⟨y, hy, hyv, hat⟩ := d.rowI hxr.1 hl
   have hat2 := d.h2.elemI (k := x) (e := .int .i64 tg) hxr.1 (intsE_get htg)
   have hyl := hyv.lenI
   have hyle := hyv.leI
   have hyo := hyv.one.2
   unfold EV.one at hyo
   have hlm := List.mem_of_getElem? hl
   have hln := g.len l hlm
   have hl0 : 0 < l.length := by have := g.wide l hlm 0 (by omega); omega
   have hl256 : l.length ≤ 1000000 := by have := mayC_le g.mayC; omega
   clear hln
   have hqx : (d.bfs i).q[i]? = some x := by rw [hq]; exact hx
   have hnext := bfs_next hqx
   rw [hq, show d.rows.getD x.toNat [] = l by simp [List.getD_eq_getElem?_getD, hl], show d.tags.getD x.toNat 0 = tg by simp [List.getD_eq_getElem?_getD, htg]] at hnext
   have hBn := hB.next g hqx
   have hqne : intsE q ≠ [] := intsE_ne (by omega)
   refine Hd_cut2 (fun t H' => Sl t [(1, .ptr H.length 259 0 0), (2, .ptr (H.length + 1) 259 0 0), (3, .ptr (H.length + 2) 259 0 0), (4, .imm 1 (boolsE d.liveL)), (5, .own (H.length + 3) 1 0 d.rows.length), (7, Q), (8, .int .i64 x)] ∧ H' = H ++ some (.row 259 [.agg (dfc d.of d.n d.x1 d.x2)]) :: some (.row 259 [.agg ((tab 256 fun _ => EV.int .u8 0) ++ [EV.int .i64 0, EV.nilsl, EV.nilsl])]) :: some (.row 259 [.agg (dfc d.of d.n X1 X2)]) :: some (.row 1 (intsE (namesL d.rows.length q))) :: G) ?_ ?_
   ·obtain ⟨kq, hkq, hrq⟩ := hQ.readL hqne
    have hrq' := hrq [some (.row 259 [.agg (dfc d.of d.n d.x1 d.x2)]), some (.row 259 [.agg ((tab 256 fun _ => EV.int .u8 0) ++ [EV.int .i64 0, EV.nilsl, EV.nilsl])]), some (.row 259 [.agg (dfc d.of d.n X1 X2)]), some (.row 1 (intsE (namesL d.rows.length q)))] rfl
    simp only [List.cons_append, List.nil_append] at hrq'
    rw [hkq] at ht
    have hgq := intsE_get hx
    have hil := intsE_len q
    rw [hil] at ht
    have hQe : Q = .own (H.length + 4 + kq) 1 0 q.length := by rw [hkq, hil]
    clear hK hB hQ hK0 hrq hnext hBn hx hkq hq
    subst hQe
    repeat' first | (simp (disch := first | omega | assumption) only [go_sem, ↓reduceIte, simprocAttr, Sl, *]) | refine HG_split (fun hb=>?_) fun hb=>?_ | refine HC_split (fun hb=>?_) fun hb=>?_
    all_goals (try simp only [FX] at *)
    all_goals first | omega | skip
   rintro t2 _ ⟨ht2, rfl⟩
   simp (disch := omega) only [go_sem, ↓reduceIte, simprocAttr, Sl] at ht2
   clear ht t
   have hmk' : evMake 1 8 (.int .i64 0) (.int .i64 l.length) (.int .i64 l.length) (H ++ some (.row 259 [.agg (dfc d.of d.n d.x1 d.x2)]) :: some (.row 259 [.agg ((tab 256 fun _ => EV.int .u8 0) ++ [EV.int .i64 0, EV.nilsl, EV.nilsl])]) :: some (.row 259 [.agg (dfc d.of d.n X1 X2)]) :: some (.row 1 (intsE (namesL d.rows.length q))) :: G) = some (.own (H.length + 4 + G.length) 1 0 l.length, H ++ some (.row 259 [.agg (dfc d.of d.n d.x1 d.x2)]) :: some (.row 259 [.agg ((tab 256 fun _ => EV.int .u8 0) ++ [EV.int .i64 0, EV.nilsl, EV.nilsl])]) :: some (.row 259 [.agg (dfc d.of d.n X1 X2)]) :: some (.row 1 (intsE (namesL d.rows.length q))) :: (G ++ [some (.row 1 (intsE (partL [] l.length)))])) := by
    unfold evMake
    simp only
    rw [if_pos ⟨by omega, by omega, by omega, by omega⟩, Int.toNat_natCast]
    simp [partL, intsE]
    omega
   refine Hd_cut2 (fun t H' => Sl t [(1, .ptr H.length 259 0 0), (2, .ptr (H.length + 1) 259 0 0), (3, .ptr (H.length + 2) 259 0 0), (4, .imm 1 (boolsE d.liveL)), (5, .own (H.length + 3) 1 0 d.rows.length), (7, Q), (8, .int .i64 x), (9, .own (H.length + 4 + G.length) 1 0 l.length)] ∧ H' = H ++ some (.row 259 [.agg (dfc d.of d.n d.x1 d.x2)]) :: some (.row 259 [.agg ((tab 256 fun _ => EV.int .u8 0) ++ [EV.int .i64 0, EV.nilsl, EV.nilsl])]) :: some (.row 259 [.agg (dfc d.of d.n X1 X2)]) :: some (.row 1 (intsE (namesL d.rows.length q))) :: (G ++ [some (.row 1 (intsE (partL [] l.length)))])) ?_ ?_
   ·clear hK hB hQ hK0 hnext hBn hx hq
    repeat' first | (simp (disch := first | omega | assumption) only [go_sem, ↓reduceIte, simprocAttr, Sl, *]) | refine HG_split (fun hb=>?_) fun hb=>?_ | refine HC_split (fun hb=>?_) fun hb=>?_
    all_goals (try simp only [FX] at *)
    all_goals first | omega | skip
   rintro t _ ⟨ht, rfl⟩
   simp (disch := omega) only [go_sem, ↓reduceIte, simprocAttr, Sl] at ht
   clear ht2 t2 hmk'
   obtain ⟨ow1, hr1, ho1⟩ := Hold.makeL (H := H) (m := 4) G ow (3 + i) 1 (intsE (partL [] l.length)) (intsE_ne (by rw [partL_len (by simp)]; exact hl0))
   rw [intsE_len, partL_len (by simp)] at hr1
   have hK1 := hK0.others (.inr rfl) ho1
   have hQ1 := ho1 0 _ _ _ (by omega) hQ
   generalize hG1 : G ++ [some (EB.row 1 (intsE (partL [] l.length)))] = G1 at hr1 ho1 hK1 hQ1 ⊢
   clear hQ hK0 ho1 hx hq
   refine Hd_cut2 (fun t H' => ∃ Q2 G2 ow2, Hold (H.length + 4) G2 ow2 0 1 Q2 (intsE (rowT d.liveL q l).1) ∧ Hold (H.length + 4) G2 ow2 (3 + i) 1 (.own (H.length + 4 + G.length) 1 0 l.length) (intsE (rowT d.liveL q l).2) ∧ KH (H.length + 4) i G2 ow2 X1 X2 xs (d.bfs i).rows (d.bfs i).tags ∧
    Sl t [(1, .ptr H.length 259 0 0), (2, .ptr (H.length + 1) 259 0 0), (3, .ptr (H.length + 2) 259 0 0), (4, .imm 1 (boolsE d.liveL)), (5, .own (H.length + 3) 1 0 d.rows.length), (7, Q2), (8, .int .i64 x), (9, .own (H.length + 4 + G.length) 1 0 l.length)] ∧ H' = H ++ some (.row 259 [.agg (dfc d.of d.n d.x1 d.x2)]) :: some (.row 259 [.agg ((tab 256 fun _ => EV.int .u8 0) ++ [EV.int .i64 0, EV.nilsl, EV.nilsl])]) :: some (.row 259 [.agg (dfc d.of d.n X1 X2)]) :: some (.row 1 (intsE (namesL d.rows.length (rowT d.liveL q l).1))) :: G2) ?_ ?_
   ·clear hK hB hnext hBn
    repeat' first | (simp (disch := first | omega | assumption) only [go_sem, ↓reduceIte, simprocAttr, *]) | refine HG_split (fun hb=>?_) fun hb=>?_ | refine HC_split (fun hb=>?_) fun hb=>?_
    all_goals (try simp only [FX] at *)
    all_goals first | omega | skip
    refine while_of (ι := Nat × EV × Heap × (Nat → Nat)) (fun c => c.1 ≤ l.length ∧ Hold (H.length + 4) c.2.2.1 c.2.2.2 0 1 c.2.1 (intsE (rowP d.liveL q l c.1).1) ∧ Hold (H.length + 4) c.2.2.1 c.2.2.2 (3 + i) 1 (.own (H.length + 4 + G.length) 1 0 l.length) (intsE (partL (rowP d.liveL q l c.1).2 l.length)) ∧ KH (H.length + 4) i c.2.2.1 c.2.2.2 X1 X2 xs (d.bfs i).rows (d.bfs i).tags) (fun c => l.length - c.1)
     (fun c => [(1, .ptr H.length 259 0 0), (2, .ptr (H.length + 1) 259 0 0), (3, .ptr (H.length + 2) 259 0 0), (4, .imm 1 (boolsE d.liveL)), (5, .own (H.length + 3) 1 0 d.rows.length), (7, c.2.1), (8, .int .i64 x), (9, .own (H.length + 4 + G.length) 1 0 l.length), (69, y), (70, .int .i64 l.length), (71, .int .i64 c.1)]) (fun c => H ++ some (.row 259 [.agg (dfc d.of d.n d.x1 d.x2)]) :: some (.row 259 [.agg ((tab 256 fun _ => EV.int .u8 0) ++ [EV.int .i64 0, EV.nilsl, EV.nilsl])]) :: some (.row 259 [.agg (dfc d.of d.n X1 X2)]) :: some (.row 1 (intsE (namesL d.rows.length (rowP d.liveL q l c.1).1))) :: c.2.2.1) (0, Q, G1, ow1) ⟨by omega, hQ1, hr1, hK1⟩ ?_ rfl ?_
    ·simp (disch := omega) only [go_sem, ↓reduceIte, simprocAttr, Sl, ht]
    clear hQ1 hr1 hK1 ht t hG1
    rintro ⟨c, Q1, Gc, owc⟩ t ⟨hc, hQ1, hr1, hK1⟩ ht K hK
    simp only at hc hQ1 hr1 hK1
    simp (disch := omega) only [go_sem, ↓reduceIte, simprocAttr, Sl] at ht
    by_cases hcl : c < l.length
    ·obtain ⟨z, hz⟩ := get_some hcl
     have hzr := g.rng l hlm z (List.mem_of_getElem? hz)
     have hat3 := hyv.at hz
     have hpn := rowP_next d.liveL q hz
     have hpl := rowP_len d.liveL q hc
     have hpq := rowP_qi g hqi l c
     generalize hp : rowP d.liveL q l c = p at hpn hpl hpq hQ1 hr1
     obtain ⟨Ga, hrr, hrw, hra, hoa⟩ := hr1.writeK (fs := intsE (partL (p.2 ++ [-1]) l.length)) (intsE_ne (by rw [partL_len (by omega)]; exact hl0)) (by rw [intsE_len, intsE_len, partL_len (by simp; omega), partL_len (by omega)])
     have hrr1 := hrr [some (.row 259 [.agg (dfc d.of d.n d.x1 d.x2)]), some (.row 259 [.agg ((tab 256 fun _ => EV.int .u8 0) ++ [EV.int .i64 0, EV.nilsl, EV.nilsl])]), some (.row 259 [.agg (dfc d.of d.n X1 X2)]), some (.row 1 (intsE (namesL d.rows.length p.1)))] rfl
     have hrw1 := hrw [some (.row 259 [.agg (dfc d.of d.n d.x1 d.x2)]), some (.row 259 [.agg ((tab 256 fun _ => EV.int .u8 0) ++ [EV.int .i64 0, EV.nilsl, EV.nilsl])]), some (.row 259 [.agg (dfc d.of d.n X1 X2)]), some (.row 1 (intsE (namesL d.rows.length p.1)))] rfl
     simp only [List.cons_append, List.nil_append] at hrr1 hrw1
     obtain ⟨w, hw⟩ := get_some (l := partL p.2 l.length) (i := c) (by rw [partL_len (by omega)]; exact hcl)
     have hgr := intsE_get hw
     have hst1 : (intsE (partL p.2 l.length)).set c (.int .i64 (-1)) = intsE (partL (p.2 ++ [-1]) l.length) := by
      rw [intsE_set]
      conv => lhs; rw [← hpl]
      rw [partL_set (by omega)]
     have hil : (intsE (partL p.2 l.length)).length = l.length := by rw [intsE_len, partL_len (by omega)]
     have hnl : (intsE (namesL d.rows.length p.1)).length = d.rows.length := by rw [intsE_len, namesL_len]
     have hKa := hK1.others (.inr rfl) hoa
     have hQa := hoa 0 _ _ _ (by omega) hQ1
     show @Hd E ⟨_⟩ ⟨t⟩ ⟨H ++ some (.row 259 [.agg (dfc d.of d.n d.x1 d.x2)]) :: some (.row 259 [.agg ((tab 256 fun _ => EV.int .u8 0) ++ [EV.int .i64 0, EV.nilsl, EV.nilsl])]) :: some (.row 259 [.agg (dfc d.of d.n X1 X2)]) :: some (.row 1 (intsE (namesL d.rows.length p.1))) :: Gc⟩ ⟨_⟩
     clear hrr hrw hw
     by_cases hs : seesP d.liveL z = true
     ·have hz2 := seesP_live g hs
      obtain ⟨bz, hbz⟩ := get_some (l := d.liveL) (i := z.toNat) (by rw [hll]; omega)
      obtain rfl : bz = true := by rw [← seesP_eq hz2.1 hbz]; exact hs
      have hbz1 := boolsE_get hbz
      have hel : evElem 1 z (.imm 1 (boolsE d.liveL)) = some (.iptr [.bool true] 0) := by
       simp [evElem, hbz1, EV.cells, hz2.1]
      have hnz := intsE_get (namesL_get (N := d.rows.length) (q := p.1) (x := z.toNat) (by omega))
      by_cases hmm : z ∈ p.1
      ·have hv : nameOf p.1 z.toNat = (p.1.idxOf z : Int) := by unfold nameOf; rw [Int.toNat_of_nonneg hz2.1, if_pos hmm]
       rw [hv] at hnz
       have hpn' : rowP d.liveL q l (c + 1) = (p.1, p.2 ++ [(p.1.idxOf z : Int)]) := by rw [hpn]; unfold stepT; rw [if_pos hs, if_pos hmm]
       generalize p.1.idxOf z = v at hnz hpn'
       obtain ⟨Gb, hrr, hrw, hrb, hob⟩ := hra.writeK (fs := intsE (partL (p.2 ++ [(v : Int)]) l.length)) (intsE_ne (by rw [partL_len (by simp; omega)]; exact hl0)) (by rw [intsE_len, intsE_len, partL_len (by simp; omega), partL_len (by simp; omega)])
       have hrr2 := hrr [some (.row 259 [.agg (dfc d.of d.n d.x1 d.x2)]), some (.row 259 [.agg ((tab 256 fun _ => EV.int .u8 0) ++ [EV.int .i64 0, EV.nilsl, EV.nilsl])]), some (.row 259 [.agg (dfc d.of d.n X1 X2)]), some (.row 1 (intsE (namesL d.rows.length p.1)))] rfl
       have hrw2 := hrw [some (.row 259 [.agg (dfc d.of d.n d.x1 d.x2)]), some (.row 259 [.agg ((tab 256 fun _ => EV.int .u8 0) ++ [EV.int .i64 0, EV.nilsl, EV.nilsl])]), some (.row 259 [.agg (dfc d.of d.n X1 X2)]), some (.row 1 (intsE (namesL d.rows.length p.1)))] rfl
       simp only [List.cons_append, List.nil_append] at hrr2 hrw2
       obtain ⟨w2, hw2⟩ := get_some (l := partL (p.2 ++ [-1]) l.length) (i := c) (by rw [partL_len (by simp; omega)]; exact hcl)
       have hgr2 := intsE_get hw2
       have hst2 : (intsE (partL (p.2 ++ [-1]) l.length)).set c (.int .i64 v) = intsE (partL (p.2 ++ [(v : Int)]) l.length) := by
        rw [intsE_set]
        conv => lhs; rw [← hpl]
        rw [partL_set2]
       have hil2 : (intsE (partL (p.2 ++ [-1]) l.length)).length = l.length := by rw [intsE_len, partL_len (by simp; omega)]
       have hKb := hKa.others (.inr rfl) hob
       have hQb := hob 0 _ _ _ (by omega) hQa
       have hk := hK (c + 1, Q1, Gb, owc)
       simp only [hpn'] at hk
       clear hrr hrw hw2 hK hpn hpn' hp hs hbz hK1 hQ1 hr1 hoa hra hKa hQa hob
       repeat' first | (simp (disch := first | omega | assumption) only [go_sem, ↓reduceIte, simprocAttr, *]) | refine HG_split (fun hb=>?_) fun hb=>?_ | refine HC_split (fun hb=>?_) fun hb=>?_
       all_goals (try simp only [FX] at *)
       all_goals first | omega | skip
       refine hk _ _ ⟨by omega, hQb, hrb, hKb⟩ (by omega) ?_ rfl
       simp (disch := omega) only [go_sem, ↓reduceIte, simprocAttr, Sl, ht, and_self, cast_succ]
      ·have hv : nameOf p.1 z.toNat = -1 := by unfold nameOf; rw [Int.toNat_of_nonneg hz2.1, if_neg hmm]
       rw [hv] at hnz
       have hidx : p.1.idxOf z = p.1.length := List.idxOf_eq_length hmm
       have hpn' : rowP d.liveL q l (c + 1) = (p.1 ++ [z], p.2 ++ [(p.1.length : Int)]) := by rw [hpn]; unfold stepT; rw [if_pos hs, if_neg hmm, hidx]
       have hadd := namesL_add (N := d.rows.length) hz2 hmm
       have hst3 := intsE_set (namesL d.rows.length p.1) z.toNat p.1.length
       rw [hadd] at hst3
       have hnz2 : (intsE (namesL d.rows.length (p.1 ++ [z])))[z.toNat]? = some (.int .i64 p.1.length) := intsE_get (by rw [← hadd, List.getElem?_set_self (by rw [namesL_len]; omega)])
       have hnl2 : (intsE (namesL d.rows.length (p.1 ++ [z]))).length = d.rows.length := by rw [intsE_len, namesL_len]
       have hple := hpq.le
       obtain ⟨Q2, Gq, owq, hap, hQq, hoq⟩ := hQa.appendL (.int .i64 z) 8 (by omega) rfl rfl (by rw [intsE_len]; omega) (by omega)
       rw [show intsE p.1 ++ [EV.int .i64 z] = intsE (p.1 ++ [z]) by simp [intsE]] at hQq
       have hap1 := hap [some (.row 259 [.agg (dfc d.of d.n d.x1 d.x2)]), some (.row 259 [.agg ((tab 256 fun _ => EV.int .u8 0) ++ [EV.int .i64 0, EV.nilsl, EV.nilsl])]), some (.row 259 [.agg (dfc d.of d.n X1 X2)]), some (.row 1 (intsE (namesL d.rows.length (p.1 ++ [z]))))] rfl
       simp only [List.cons_append, List.nil_append] at hap1
       have hKq := hKa.others (.inl rfl) hoq
       have lQ1 := hQ1.len
       rw [intsE_len] at lQ1
       obtain ⟨Gb, hrr, hrw, hrb, hob⟩ := (hoq (3 + i) _ _ _ (by omega) hra).writeK (fs := intsE (partL (p.2 ++ [(p.1.length : Int)]) l.length)) (intsE_ne (by rw [partL_len (by simp; omega)]; exact hl0)) (by rw [intsE_len, intsE_len, partL_len (by simp; omega), partL_len (by simp; omega)])
       have hrr2 := hrr [some (.row 259 [.agg (dfc d.of d.n d.x1 d.x2)]), some (.row 259 [.agg ((tab 256 fun _ => EV.int .u8 0) ++ [EV.int .i64 0, EV.nilsl, EV.nilsl])]), some (.row 259 [.agg (dfc d.of d.n X1 X2)]), some (.row 1 (intsE (namesL d.rows.length (p.1 ++ [z]))))] rfl
       have hrw2 := hrw [some (.row 259 [.agg (dfc d.of d.n d.x1 d.x2)]), some (.row 259 [.agg ((tab 256 fun _ => EV.int .u8 0) ++ [EV.int .i64 0, EV.nilsl, EV.nilsl])]), some (.row 259 [.agg (dfc d.of d.n X1 X2)]), some (.row 1 (intsE (namesL d.rows.length (p.1 ++ [z]))))] rfl
       simp only [List.cons_append, List.nil_append] at hrr2 hrw2
       obtain ⟨w2, hw2⟩ := get_some (l := partL (p.2 ++ [-1]) l.length) (i := c) (by rw [partL_len (by simp; omega)]; exact hcl)
       have hgr2 := intsE_get hw2
       have hst2 : (intsE (partL (p.2 ++ [-1]) l.length)).set c (.int .i64 p.1.length) = intsE (partL (p.2 ++ [(p.1.length : Int)]) l.length) := by
        rw [intsE_set]
        conv => lhs; rw [← hpl]
        rw [partL_set2]
       have hil2 : (intsE (partL (p.2 ++ [-1]) l.length)).length = l.length := by rw [intsE_len, partL_len (by simp; omega)]
       have hKb := hKq.others (.inr rfl) hob
       have hQb := hob 0 _ _ _ (by omega) hQq
       have hk := hK (c + 1, Q2, Gb, owq)
       simp only [hpn'] at hk
       clear hrr hrw hw2 hK hpn hpn' hp hs hbz hK1 hQ1 hr1 hoa hra hKa hQa hob hap hKq hQq hoq hadd hv hidx
       repeat' first | (simp (disch := first | omega | assumption) only [go_sem, ↓reduceIte, simprocAttr, *]) | refine HG_split (fun hb=>?_) fun hb=>?_ | refine HC_split (fun hb=>?_) fun hb=>?_
       all_goals (try simp only [FX] at *)
       all_goals first | omega | skip
       refine hk _ _ ⟨by omega, hQb, hrb, hKb⟩ (by omega) ?_ rfl
       simp (disch := omega) only [go_sem, ↓reduceIte, simprocAttr, Sl, ht, and_self, cast_succ]
     ·have hpn' : rowP d.liveL q l (c + 1) = (p.1, p.2 ++ [-1]) := by rw [hpn]; unfold stepT; rw [if_neg hs]
      have hk := hK (c + 1, Q1, Ga, owc)
      simp only [hpn'] at hk
      by_cases hz0 : 0 ≤ z
      ·obtain ⟨bz, hbz⟩ := get_some (l := d.liveL) (i := z.toNat) (by rw [hll]; omega)
       obtain rfl : bz = false := by
        have := seesP_eq hz0 hbz
        cases bz with
        | false => rfl
        | true => exact absurd this hs
       have hbz1 := boolsE_get hbz
       have hel : evElem 1 z (.imm 1 (boolsE d.liveL)) = some (.iptr [.bool false] 0) := by
        simp [evElem, hbz1, EV.cells, hz0]
       clear hK hpn hpn' hp hs hbz hK1 hQ1 hr1 hoa
       repeat' first | (simp (disch := first | omega | assumption) only [go_sem, ↓reduceIte, simprocAttr, *]) | refine HG_split (fun hb=>?_) fun hb=>?_ | refine HC_split (fun hb=>?_) fun hb=>?_
       all_goals (try simp only [FX] at *)
       all_goals first | omega | skip
       refine hk _ _ ⟨by omega, hQa, hra, hKa⟩ (by omega) ?_ rfl
       simp (disch := omega) only [go_sem, ↓reduceIte, simprocAttr, Sl, ht, and_self, cast_succ]
      ·clear hK hpn hpn' hp hs hK1 hQ1 hr1 hoa
       repeat' first | (simp (disch := first | omega | assumption) only [go_sem, ↓reduceIte, simprocAttr, *]) | refine HG_split (fun hb=>?_) fun hb=>?_ | refine HC_split (fun hb=>?_) fun hb=>?_
       all_goals (try simp only [FX] at *)
       all_goals first | omega | skip
       refine hk _ _ ⟨by omega, hQa, hra, hKa⟩ (by omega) ?_ rfl
       simp (disch := omega) only [go_sem, ↓reduceIte, simprocAttr, Sl, ht, and_self, cast_succ]
    ·have hce : c = l.length := by omega
     subst hce
     rw [rowP_full] at hQ1 hr1
     have hpl := rowP_len d.liveL q (l := l) (Nat.le_refl _)
     rw [rowP_full] at hpl
     rw [partL_full hpl] at hr1
     clear hK
     rw [rowP_full]
     repeat' first | (simp (disch := first | omega | assumption) only [go_sem, ↓reduceIte, simprocAttr, *]) | refine HG_split (fun hb=>?_) fun hb=>?_ | refine HC_split (fun hb=>?_) fun hb=>?_
     all_goals (try simp only [FX] at *)
     all_goals first | omega | skip
     refine ⟨Q1, Gc, owc, hQ1, hr1, hK1, ?_, rfl⟩
     simp (disch := omega) only [go_sem, ↓reduceIte, simprocAttr, Sl, ht, and_self, cast_succ]
   rintro t2 _ ⟨Q2, G2, ow2, hQ2, hr2, hK2, ht2, rfl⟩
   simp (disch := omega) only [go_sem, ↓reduceIte, simprocAttr, Sl] at ht2
   clear ht t hr1 hQ1 hK1 hG1
   obtain ⟨X1', X2', G3, G4, ow4, ha1, ha2, hK4, hkeep⟩ := hK2.grow hB.tl (by omega) hr2 tg
   have hQ4 := hkeep _ _ _ hQ2
   have hb1 := ha1 [some (.row 259 [.agg (dfc d.of d.n d.x1 d.x2)]), some (.row 259 [.agg ((tab 256 fun _ => EV.int .u8 0) ++ [EV.int .i64 0, EV.nilsl, EV.nilsl])]), some (.row 259 [.agg (dfc d.of d.n X1 X2)]), some (.row 1 (intsE (namesL d.rows.length (rowT d.liveL q l).1)))] rfl
   have hb2 := ha2 [some (.row 259 [.agg (dfc d.of d.n d.x1 d.x2)]), some (.row 259 [.agg ((tab 256 fun _ => EV.int .u8 0) ++ [EV.int .i64 0, EV.nilsl, EV.nilsl])]), some (.row 259 [.agg (dfc d.of d.n X1' X2)]), some (.row 1 (intsE (namesL d.rows.length (rowT d.liveL q l).1)))] rfl
   simp only [List.cons_append, List.nil_append] at hb1 hb2
   have eX1 := dfc_x2 (of := d.of) (n := d.n) (x1 := X1') (x2 := X2)
   have eXL := dfc_len (of := d.of) (n := d.n) (x1 := X1') (x2 := X2)
   have fXL := dfc_len (of := d.of) (n := d.n) (x1 := X1') (x2 := X2')
   have hp1 := dfc_put1 (of := d.of) (n := d.n) (x1 := X1) (x2 := X2) (v := X1')
   have hp2 := dfc_put2 (of := d.of) (n := d.n) (x1 := X1') (x2 := X2) (v := X2')
   obtain ⟨u1, u2⟩ := hK4.n1.one
   obtain ⟨u3, u4⟩ := hK4.n2.one
   unfold EV.one at u1 u3
   unfold EV.cells at u2 u4
   have hk := hK (i + 1, X1', X2', Q2, G4, ow4, xs ++ [.own (H.length + 4 + G.length) 1 0 l.length])
   simp only [hnext] at hk
   clear hK hB hnext ha1 ha2 hkeep hK2 hr2 hQ2
   repeat' first | (simp (disch := first | omega | assumption) only [go_sem, ↓reduceIte, simprocAttr, *]) | refine HG_split (fun hb=>?_) fun hb=>?_ | refine HC_split (fun hb=>?_) fun hb=>?_
   all_goals (try simp only [FX] at *)
   all_goals first | omega | skip
   refine hk _ _ ⟨hBn, hQ4, hK4⟩ (by omega) ?_ rfl
   simp (disch := omega) only [go_sem, ↓reduceIte, simprocAttr, Sl, ht2, and_self, cast_succ]
  ·have hie : i = q.length := by omega
   clear hK
   repeat' first | (simp (disch := first | omega | assumption) only [go_sem, ↓reduceIte, simprocAttr, *]) | refine HG_split (fun hb=>?_) fun hb=>?_ | refine HC_split (fun hb=>?_) fun hb=>?_
   all_goals (try simp only [FX] at *)
   all_goals first | omega | skip
   refine ⟨i, X1, X2, G, ow, xs, hB, by rw [hq]; exact hie, hK0, ?_, by rw [hq]⟩
   simp (disch := omega) only [go_sem, ↓reduceIte, simprocAttr, Sl, ht2, and_self, cast_succ]
 rintro t2 _ ⟨i, X1, X2, G, ow, xs, hB, hb, hK0, ht2, rfl⟩
 simp (disch := omega) only [go_sem, ↓reduceIte, simprocAttr, Sl] at ht2
 clear ht t
 rw [hB.last hb]
 have hfz := fun C : Option EB => fz_out (H := H) (P := [some (.row 259 [.agg (dfc d.of d.n d.x1 d.x2)]), some (.row 259 [.agg (dfc d.of d.n X1 X2)]), some (.row 259 [.agg (dfc d.of d.n X1 X2)]), C]) (of := d.of) (n := d.n) rfl hK0
 have dXL := dfc_len (of := d.of) (n := d.n) (x1 := X1) (x2 := X2)
 have dXT : (dfc d.of d.n X1 X2).take 259 = dfc d.of d.n X1 X2 := dfc_take 259 (by omega)
 have dXA : (dfc d.of d.n X1 X2).all EV.one = true := by
  rw [List.all_eq_true]
  intro x hx
  simp only [dfc, List.mem_append, List.mem_cons, List.not_mem_nil, or_false] at hx
  rcases hx with (hx | rfl) | rfl | rfl
  ·obtain ⟨q, _, rfl⟩ := cls_mem (n := 0) hx
   rfl
  ·rfl
  ·exact hK0.n1.one.1
  ·exact hK0.n2.one.1
 have hil : (intsE (namesL d.rows.length (d.bfs i).q)).length = d.rows.length := by rw [intsE_len, namesL_len]
 have hcl : evClear 1 (.int .i64 0) (.own (H.length + 3) 1 0 d.rows.length) (H ++ some (.row 259 [.agg (dfc d.of d.n d.x1 d.x2)]) :: some (.row 259 [.agg ((tab 256 fun _ => EV.int .u8 0) ++ [EV.int .i64 0, EV.nilsl, EV.nilsl])]) :: some (.row 259 [.agg (dfc d.of d.n X1 X2)]) :: some (.row 1 (intsE (namesL d.rows.length (d.bfs i).q))) :: G) = some (H ++ some (.row 259 [.agg (dfc d.of d.n d.x1 d.x2)]) :: some (.row 259 [.agg ((tab 256 fun _ => EV.int .u8 0) ++ [EV.int .i64 0, EV.nilsl, EV.nilsl])]) :: some (.row 259 [.agg (dfc d.of d.n X1 X2)]) :: some (.row 1 (List.replicate d.rows.length (.int .i64 0))) :: G) := by
  unfold evClear
  have hrd : (H ++ some (.row 259 [.agg (dfc d.of d.n d.x1 d.x2)]) :: some (.row 259 [.agg ((tab 256 fun _ => EV.int .u8 0) ++ [EV.int .i64 0, EV.nilsl, EV.nilsl])]) :: some (.row 259 [.agg (dfc d.of d.n X1 X2)]) :: some (.row 1 (intsE (namesL d.rows.length (d.bfs i).q))) :: G)[H.length + 3]? = some (some (.row 1 (intsE (namesL d.rows.length (d.bfs i).q)))) := by
   rw [List.getElem?_append_right (by omega), Nat.add_sub_cancel_left]; rfl
  simp only
  rw [if_neg (by omega), hrd]
  simp only
  rw [if_pos ⟨trivial, trivial, by omega⟩, List.set_append_right _ _ (by omega), Nat.add_sub_cancel_left, List.take_zero, List.nil_append, List.drop_of_length_le (by omega), List.append_nil]
  rfl
 simp only [List.cons_append, List.nil_append] at hfz
 clear hb hB hK0 hil
 repeat' first | (simp (disch := first | omega | assumption) only [go_sem, ↓reduceIte, simprocAttr, *]) | refine HG_split (fun hb=>?_) fun hb=>?_ | refine HC_split (fun hb=>?_) fun hb=>?_
 all_goals (try simp only [FX] at *)
 all_goals first | omega | skip
 exact finV_fz rfl (hfz _) rfl
end
end Abs
