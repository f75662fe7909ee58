/- A part. -/
import Derived.Test.YtddgppmcbjjliaaGreatDoorClassA
import Derived.Test.YtddgppmcbjjliaaGreatDoorAbsGrow
set_option linter.all false
namespace Abs
open Go
set_option maxRecDepth 20000
def dfc (of : Nat → Nat) (n : Int) (x1 x2 : EV) : List EV := tab 256 (fun i => .int .u8 ((of i : Nat) : Int)) ++ [.int .i64 n] ++ [x1, x2]
structure DF where
 (of : Nat → Nat)
 (n : Int)
 (x1 x2 : EV)
 (rx : List EV)
 (rows : List (List Int))
 (tags : List Int)
 hof : ∀ b, b < 256 → of b < 256
 h1 : SlV 1 x1 rx
 hl : rx.length = rows.length
 hr : ∀ (i : Nat) (y : EV) (l : List Int), rx[i]? = some y → rows[i]? = some l → ai9 y l
 h2 : ai9 x2 tags
def DF.E (d : DF) : EV := .agg (dfc d.of d.n d.x1 d.x2)
theorem DF.k1 (d : DF) : bd7 false d.x1 = some d.rows.length := by rw [d.h1.len, d.hl]
theorem DF.k2 (d : DF) : bd7 false d.x2 = some d.tags.length := d.h2.lenI
theorem DF.le (d : DF) : d.rows.length ≤ 9223372036854775807 := by rw [← d.hl]; exact d.h1.le
theorem DF.row (d : DF) {i : Nat} {l : List Int} (h : d.rows[i]? = some l) : ∃ y, d.rx[i]? = some y ∧ ai9 y l ∧ ar2 1 (i : Int) d.x1 = some (.iptr [y] 0) := by
 obtain ⟨y, hy⟩ := ab5 (l := d.rx) (i := i) (by rw [d.hl]; exact (List.getElem?_eq_some_iff.1 h).1)
 have hv := d.hr i y l hy h
 refine ⟨y, hy, hv, ?_⟩
 have := d.h1.elem i y hy
 rwa [hv.one.1] at this
theorem DF.one (d : DF) : d.x1.one = true ∧ d.x2.one = true := ⟨d.h1.one.2, d.h2.one.2⟩
section
variable {of : Nat → Nat} {n : Int} {x1 x2 v : EV}
theorem bg3 : (dfc of n x1 x2).length = 259 := by simp [dfc, ab9]
theorem bw9 (k : Nat) (h : 259 ≤ k) : (dfc of n x1 x2).take k = dfc of n x1 x2 := List.take_of_length_le (by rw [bg3]; exact h)
theorem ci3 : (dfc of n x1 x2).take 257 = tab 256 (fun i => .int .u8 ((of i : Nat) : Int)) ++ [.int .i64 n] := by
 unfold dfc
 rw [List.take_append_of_le_length (by simp [ab9]), List.take_of_length_le (by simp [ab9])]
theorem cq0 {c : List EV} {i : Nat} {v : EV} (h : c[i]? = some v) : (c.drop i).take 1 = [v] := by rw [ax1 h]; rfl
theorem fe4 : ((dfc of n x1 x2).drop 256).take 1 = [.int .i64 n] := cq0 (by
 unfold dfc
 rw [List.getElem?_append_left (by simp [ab9]), List.getElem?_append_right (by simp [ab9])]
 simp [ab9])
theorem dm4 : ((dfc of n x1 x2).drop 257).take 1 = [x1] := cq0 (by
 unfold dfc
 rw [List.getElem?_append_right (by simp [ab9])]
 simp [ab9])
theorem ek1 : ((dfc of n x1 x2).drop 258).take 1 = [x2] := cq0 (by
 unfold dfc
 rw [List.getElem?_append_right (by simp [ab9])]
 simp [ab9])
theorem fk2 {b : Nat} (h : b < 256) : ((dfc of n x1 x2).drop b).take 1 = [.int .u8 (of b)] := cq0 (by
 unfold dfc
 rw [List.append_assoc, List.getElem?_append_left (by simpa [ab9] using h), bj7 h])
end
section
variable {E : Env} [R : DfaR E]
theorem ck6 (n a b : Int) (H : Heap) : den E R.ax9 [.int .i64 n, .int .i64 a, .int .i64 b] H = some (.ret (.bool (decide (a ≤ n) && decide (n ≤ b))), H) := by
 refine ah2 R.cb2 (by simp) ?_
 unfold Gn.bi9 Gn.ay5
 by_cases h1 : a ≤ n
 ·by_cases h2 : n ≤ b
  ·repeat' first | (simp (disch := first | omega | assumption) only [go_sem, simprocAttr, *]) | refine aa2 (fun hb=>?_) fun hb=>?_ | refine aa3 (fun hb=>?_) fun hb=>?_
   all_goals (try simp only [FX] at *)
   all_goals first | omega | skip
   refine af3 rfl ?_
   simp [h1, h2]
  ·repeat' first | (simp (disch := first | omega | assumption) only [go_sem, simprocAttr, *]) | refine aa2 (fun hb=>?_) fun hb=>?_ | refine aa3 (fun hb=>?_) fun hb=>?_
   all_goals (try simp only [FX] at *)
   all_goals first | omega | skip
   refine af3 rfl ?_
   simp [h1, h2]
 ·repeat' first | (simp (disch := first | omega | assumption) only [go_sem, simprocAttr, *]) | refine aa2 (fun hb=>?_) fun hb=>?_ | refine aa3 (fun hb=>?_) fun hb=>?_
  all_goals (try simp only [FX] at *)
  all_goals first | omega | skip
  refine af3 rfl ?_
  simp [h1]
theorem DF.all (d : DF) : (dfc d.of d.n d.x1 d.x2).all EV.one = true := by
 obtain ⟨o1, o2⟩ := d.one
 rw [List.all_eq_true]
 intro x hx
 simp only [dfc, List.mem_append, List.mem_cons, List.not_mem_nil, or_false] at hx
 rcases hx with (hx | rfl) | rfl | rfl
 ·obtain ⟨i, hi, e⟩ := List.mem_iff_getElem.1 hx
  rw [ab9] at hi
  have := bj7 (f := fun i => EV.int .u8 ((d.of i : Nat) : Int)) hi
  rw [List.getElem?_eq_getElem (by rw [ab9]; exact hi), e] at this
  rw [Option.some.inj this]; rfl
 ·rfl
 ·exact o1
 ·exact o2
def DF.Wide (d : DF) : Prop := ∀ l ∈ d.rows, ∀ b, b < 256 → d.of b < l.length
end
theorem DF.facts (d : DF) : bd7 false d.x1 = some d.rows.length ∧ bd7 false d.x2 = some d.tags.length ∧ d.rows.length ≤ 9223372036854775807 ∧ d.tags.length ≤ 9223372036854775807 ∧ d.x1.one = true ∧ d.x2.one = true ∧
  (dfc d.of d.n d.x1 d.x2).all EV.one = true ∧ (dfc d.of d.n d.x1 d.x2).length = 259 ∧ ((dfc d.of d.n d.x1 d.x2).drop 257).take 1 = [d.x1] ∧ ((dfc d.of d.n d.x1 d.x2).drop 258).take 1 = [d.x2] ∧
  ((dfc d.of d.n d.x1 d.x2).drop 256).take 1 = [.int .i64 d.n] ∧ (dfc d.of d.n d.x1 d.x2).take 259 = dfc d.of d.n d.x1 d.x2 :=
 ⟨d.k1, d.k2, d.le, d.h2.leI, d.one.1, d.one.2, d.all, bg3, dm4, ek1, fe4, bw9 259 (by omega)⟩
theorem dl6 (p : Int → Bool) : ∀ (l : List Int) (i : Int), 0 ≤ i → decide (idxI p l i ≥ 0) = l.any p
 | [], i, _ => by simp [idxI]
 | v :: l, i, h => by
  unfold idxI
  rw [List.any_cons]
  cases hp : p v with
  | true => simp [h]
  | false => simpa using dl6 p l (i + 1) (by omega)
section
variable {E : Env} [R : DfaR E]
theorem ck1 (f : EV) (p : Int → Bool) (y : EV) (l : List Int) (hy : ai9 y l) (H : Heap) (hf : en5 E f p l H) : den E R.ab8 [y, f] H = some (.ret (.int .i64 (idxI p l 0)), H) := by
 have hlen := hy.lenI
 have hle := hy.leI
 refine ah2 R.ae5 (by simp) ?_
 unfold Gn.ac7 Gn.ac5
 simp (disch := omega) only [go_sem, simprocAttr, *]
 refine ad5 (ι := Nat) (fun i => i ≤ l.length ∧ idxI p l 0 = idxI p (l.drop i) i) (fun i => l.length - i) (fun i => [(0, y), (1, f), (7, .int .i64 l.length), (8, .int .i64 i)]) (fun _ => H) 0 ⟨by omega, rfl⟩ ?_ rfl ?_
 ·simp (disch := omega) only [go_sem, simprocAttr, Sl]
 ·rintro i t ⟨hi, hr⟩ ht K hK
  simp (disch := omega) only [go_sem, simprocAttr, Sl] at ht
  by_cases hlt : i < l.length
  ·obtain ⟨v, hv⟩ := ab5 hlt
   have hg := hy.at hv
   have hc := hf v (List.mem_of_getElem? hv)
   rw [ax1 hv] at hr
   simp only [idxI] at hr
   have go : p v = false → _ := fun h s' H' => hK (i + 1) s' H' ⟨by omega, by rw [hr, if_neg (by simp [h])]; rfl⟩ (by omega)
   cases hp : p v with
   | true =>
    rw [hp] at hc hr
    rw [if_pos rfl] at hr
    rw [hr]
    clear go hK hf hr
    repeat' first | (simp (disch := first | omega | assumption) only [go_sem, simprocAttr, *]) | refine aa2 (fun hb=>?_) fun hb=>?_ | refine aa3 (fun hb=>?_) fun hb=>?_
    all_goals (try simp only [FX] at *)
    all_goals first | omega | exact af3 rfl rfl
   | false =>
    rw [hp] at hc
    replace go := go hp
    clear hK hf hr
    repeat' first | (simp (disch := first | omega | assumption) only [go_sem, simprocAttr, *]) | refine aa2 (fun hb=>?_) fun hb=>?_ | refine aa3 (fun hb=>?_) fun hb=>?_
    all_goals (try simp only [FX] at *)
    all_goals first
     | omega
     | (refine go _ _ ?_ rfl; simp (disch := omega) only [go_sem, simprocAttr, Sl, ht, and_self, ab6])
  ·have : i = l.length := by omega
   subst this
   have he : idxI p l 0 = -1 := by rw [hr]; simp [idxI]
   rw [he]
   clear hK hf hr
   repeat' first | (simp (disch := first | omega | assumption) only [go_sem, simprocAttr, *]) | refine aa2 (fun hb=>?_) fun hb=>?_ | refine aa3 (fun hb=>?_) fun hb=>?_
   all_goals (try simp only [FX] at *)
   all_goals first | omega | exact af3 rfl rfl
theorem cc3 (f : EV) (p : Int → Bool) (y : EV) (l : List Int) (hy : ai9 y l) (H : Heap) (hf : en5 E f p l H) : den E R.af4 [y, f] H = some (.ret (.bool (l.any p)), H) := by
 have h1 := ck1 f p y l hy H hf
 have h2 := dl6 p l 0 (by omega)
 refine ah2 R.ao6 (by simp) ?_
 unfold Gn.ae3 Gn.ad6
 rw [← h2]
 clear hf hy h2
 repeat' first | (simp (disch := first | omega | assumption) only [go_sem, simprocAttr, *]) | refine aa2 (fun hb=>?_) fun hb=>?_ | refine aa3 (fun hb=>?_) fun hb=>?_
 all_goals (try simp only [FX] at *)
 all_goals first | omega | exact af3 rfl rfl
end
def rowB (N : Nat) (n : Int) (l : List Int) (t : Int) : Bool := decide ((l.length : Int) = n) && (decide (-1 ≤ t) && decide (t ≤ 39)) && !(l.any fun x => !(decide (-1 ≤ x) && decide (x ≤ (N : Int) - 1)))
def br8 (N : Nat) (n : Int) : List (List Int) → List Int → Bool
 | l :: ls, t :: ts => rowB N n l t && br8 N n ls ts
 | _, _ => true
theorem cm0 {N : Nat} {n : Int} {l : List Int} {ls : List (List Int)} {t : Int} {ts : List Int} : br8 N n (l :: ls) (t :: ts) = (rowB N n l t && br8 N n ls ts) := rfl
def DF.may (d : DF) : Bool := mayC d.of d.n && decide (d.rows.length ≤ 600) && decide (d.tags.length = d.rows.length) && br8 d.rows.length d.n d.rows d.tags
def en4 (E : Env) (f : FuncId) : Prop := ∀ (of : Nat → Nat) (n : Int) (H : Heap), (∀ b, b < 256 → of b < 256) → den E f [aa1 of n] H = some (.ret (.bool (mayC of n)), H)
section
variable {E : Env} [R : DfaR E]
theorem ds2 (v k : Int) (j : Nat) (H : Heap) (hj : H[j]? = some (some (.row 1 [.int .i64 k]))) (hk : 0 ≤ k ∧ k ≤ 9223372036854775807) :
  den E R.ay1 [.int .i64 v, .ptr j 1 0 0] H = some (.ret (.bool (!(decide (-1 ≤ v) && decide (v ≤ k - 1)))), H) := by
 have hw := ck6 (R := R) v (-1) (k - 1) H
 refine ah2 R.cb3 (by simp) ?_
 unfold Gn.bj0 Gn.ay6
 repeat' first | (simp (disch := first | omega | assumption) only [go_sem, simprocAttr, *]) | refine aa2 (fun hb=>?_) fun hb=>?_ | refine aa3 (fun hb=>?_) fun hb=>?_
 all_goals (try simp only [FX] at *)
 all_goals first | omega | exact af3 rfl rfl
theorem du4 (hC : en4 E R.bk6) (d : DF) (H : Heap) : den E R.bn9 [d.E] H = some (.ret (.bool d.may), H) := by
 obtain ⟨k1, k2, hle, hle2, o1, o2, hA, hL, hx1, hx2, hn, htk⟩ := d.facts
 unfold EV.one at o1 o2
 have hc := fun H => hC d.of d.n H d.hof
 unfold aa1 at hc
 rw [← ci3 (x1 := d.x1) (x2 := d.x2)] at hc
 clear hC
 refine ah2 R.da2 (by simp) ?_
 unfold Gn.ci5 Gn.bo9 DF.E
 cases hm : mayC d.of d.n with
 | false =>
  have hs : d.may = false := by unfold DF.may; rw [hm]; rfl
  rw [hm] at hc
  rw [hs]
  clear hs hm
  repeat' first | (simp (disch := first | omega | assumption) only [go_sem, simprocAttr, *]) | refine aa2 (fun hb=>?_) fun hb=>?_ | refine aa3 (fun hb=>?_) fun hb=>?_
  all_goals (try simp only [FX] at *)
  all_goals first | omega | exact ab4 rfl rfl
 | true =>
 rw [hm] at hc
 by_cases h6 : d.rows.length ≤ 600
 ·by_cases ht : d.tags.length = d.rows.length
  ·have hs : d.may = br8 d.rows.length d.n d.rows d.tags := by unfold DF.may; rw [hm, decide_eq_true h6, decide_eq_true ht]; rfl
   rw [hs]
   rw [ht] at k2 hle2
   clear hs hm
   repeat' first | (simp (disch := first | omega | assumption) only [go_sem, simprocAttr, *]) | refine aa2 (fun hb=>?_) fun hb=>?_ | refine aa3 (fun hb=>?_) fun hb=>?_
   all_goals (try simp only [FX] at *)
   all_goals first | omega | skip
   ·exact absurd trivial (by assumption)
   refine ad5 (ι := Nat) (fun i => i ≤ d.rows.length ∧ br8 d.rows.length d.n d.rows d.tags = br8 d.rows.length d.n (d.rows.drop i) (d.tags.drop i)) (fun i => d.rows.length - i) (fun i => [(1, .ptr H.length 259 0 0), (3, .ptr (H.length + 1) 1 0 0), (25, d.x1), (26, .int .i64 d.rows.length), (27, .int .i64 i)])
    (fun _ => H ++ [some (.row 259 [.agg (dfc d.of d.n d.x1 d.x2)]), some (.row 1 [.int .i64 d.rows.length])]) 0 ⟨by omega, rfl⟩ ?_ (by first | rfl | simp) ?_
   ·simp (disch := omega) only [go_sem, simprocAttr, Sl]
   ·rintro i t ⟨hi, hr⟩ ht2 K hK
    simp (disch := omega) only [go_sem, simprocAttr, Sl] at ht2
    by_cases hlt : i < d.rows.length
    ·obtain ⟨l, hl⟩ := ab5 hlt
     obtain ⟨v, hv⟩ := ab5 (l := d.tags) (i := i) (by omega)
     obtain ⟨y, hy, hyv, hat⟩ := d.row hl
     have hat2 := d.h2.at hv
     have hyl := hyv.lenI
     have hyle := hyv.leI
     have hyo := hyv.one.2
     unfold EV.one at hyo
     have hw := fun H => ck6 (R := R) v (-1) 39 H
     have hcf := cc3 (R := R) (.func (.func R.ay1) [] [.ptr (H.length + 1) 1 0 0]) (fun x => !(decide (-1 ≤ x) && decide (x ≤ (d.rows.length : Int) - 1))) y l hyv (H ++ [some (.row 259 [.agg (dfc d.of d.n d.x1 d.x2)]), some (.row 1 [.int .i64 d.rows.length])]) (fun x _ => by
      have := ds2 (R := R) x d.rows.length (H.length + 1) (H ++ [some (.row 259 [.agg (dfc d.of d.n d.x1 d.x2)]), some (.row 1 [.int .i64 d.rows.length])]) (by simp) (by omega)
      simpa [el4] using this)
     rw [ax1 hl, ax1 hv] at hr
     rw [cm0] at hr
     unfold rowB at hr
     by_cases h1 : (l.length : Int) = d.n
     ·cases h2 : (decide (-1 ≤ v) && decide (v ≤ 39)) with
      | false =>
       rw [h2] at hw
       rw [show br8 d.rows.length d.n d.rows d.tags = false by rw [hr, h2]; simp]
       clear hK hr h2 hc
       repeat' first | (simp (disch := first | omega | assumption) only [go_sem, simprocAttr, *]) | refine aa2 (fun hb=>?_) fun hb=>?_ | refine aa3 (fun hb=>?_) fun hb=>?_
       all_goals (try simp only [FX] at *)
       all_goals first | omega | exact ab4 rfl rfl
      | true =>
       rw [h2] at hw
       cases h3 : l.any fun x => !(decide (-1 ≤ x) && decide (x ≤ (d.rows.length : Int) - 1)) with
       | true =>
        rw [h3] at hcf
        rw [show br8 d.rows.length d.n d.rows d.tags = false by rw [hr, h3]; simp]
        clear hK hr h2 h3 hc
        repeat' first | (simp (disch := first | omega | assumption) only [go_sem, simprocAttr, *]) | refine aa2 (fun hb=>?_) fun hb=>?_ | refine aa3 (fun hb=>?_) fun hb=>?_
        all_goals (try simp only [FX] at *)
        all_goals first | omega | exact ab4 rfl rfl
       | false =>
        rw [h3] at hcf
        have hk := hK (i + 1)
        have hr2 : br8 d.rows.length d.n d.rows d.tags = br8 d.rows.length d.n (d.rows.drop (i + 1)) (d.tags.drop (i + 1)) := by rw [hr, h2, h3, decide_eq_true h1]; rfl
        clear hK h2 h3 hc hr
        repeat' first | (simp (disch := first | omega | assumption) only [go_sem, simprocAttr, *]) | refine aa2 (fun hb=>?_) fun hb=>?_ | refine aa3 (fun hb=>?_) fun hb=>?_
        all_goals (try simp only [FX] at *)
        all_goals first
         | omega
         | exact absurd trivial (by assumption)
         | skip
        refine hk _ _ ⟨by omega, hr2⟩ (by omega) ?_ rfl
        simp (disch := omega) only [go_sem, simprocAttr, Sl, ht2, and_self, ab6]
     ·rw [show br8 d.rows.length d.n d.rows d.tags = false by rw [hr, decide_eq_false h1]; simp]
      clear hK hr hc hcf hw
      repeat' first | (simp (disch := first | omega | assumption) only [go_sem, simprocAttr, *]) | refine aa2 (fun hb=>?_) fun hb=>?_ | refine aa3 (fun hb=>?_) fun hb=>?_
      all_goals (try simp only [FX] at *)
      all_goals first | omega | exact ab4 rfl rfl
    ·have : i = d.rows.length := by omega
     subst this
     have he : br8 d.rows.length d.n d.rows d.tags = true := by rw [hr, List.drop_length]; rfl
     rw [he]
     clear hK hr hc
     repeat' first | (simp (disch := first | omega | assumption) only [go_sem, simprocAttr, *]) | refine aa2 (fun hb=>?_) fun hb=>?_ | refine aa3 (fun hb=>?_) fun hb=>?_
     all_goals (try simp only [FX] at *)
     all_goals first | omega | exact ab4 rfl rfl
  ·have hs : d.may = false := by unfold DF.may; rw [hm, decide_eq_false ht]; simp
   rw [hs]
   clear hs hm
   repeat' first | (simp (disch := first | omega | assumption) only [go_sem, simprocAttr, *]) | refine aa2 (fun hb=>?_) fun hb=>?_ | refine aa3 (fun hb=>?_) fun hb=>?_
   all_goals (try simp only [FX] at *)
   all_goals first | omega | exact ab4 rfl rfl
 ·have hs : d.may = false := by unfold DF.may; rw [hm, decide_eq_false h6]; simp
  rw [hs]
  clear hs hm
  repeat' first | (simp (disch := first | omega | assumption) only [go_sem, simprocAttr, *]) | refine aa2 (fun hb=>?_) fun hb=>?_ | refine aa3 (fun hb=>?_) fun hb=>?_
  all_goals (try simp only [FX] at *)
  all_goals first | omega | exact ab4 rfl rfl
end
structure DF.Good (d : DF) : Prop where
 wide : d.Wide
 le : d.rows.length ≤ 600
 tl : d.tags.length = d.rows.length
 cls : ∀ b, b < 256 → (d.of b : Int) < d.n
 len : ∀ l ∈ d.rows, (l.length : Int) = d.n
 rng : ∀ l ∈ d.rows, ∀ x ∈ l, -1 ≤ x ∧ x < d.rows.length
 tag : ∀ t ∈ d.tags, -1 ≤ t ∧ t ≤ 39
 mayC : mayC d.of d.n = true
theorem cd9 {of : Nat → Nat} {n : Int} {x1 x2 : EV} : List.take 259 ((tab 256 fun i => EV.int .u8 ((of i : Nat) : Int)) ++ [EV.int .i64 n, x1, x2]) = dfc of n x1 x2 := by
 unfold dfc
 rw [List.take_of_length_le (by simp [ab9]), List.append_assoc]
 rfl
theorem DF.ok (d : DF) {n : Nat} : (EV.agg (dfc d.of d.n d.x1 d.x2)).ok n = true := by
 have h1 := d.h1.ok n
 have h2 := d.h2.ok n
 simp [dfc, EV.ok, ab2, aa4, okL, h1, h2]
section
variable {E : Env} [R : DfaR E]
theorem cg1 (d : DF) (H : Heap) : den E R.af5 [d.E] H = some (.ret d.E, H) := by
 obtain ⟨k1, k2, hle, hle2, o1, o2, hA, hL, hx1, hx2, hn, htk⟩ := d.facts
 unfold EV.one at o1 o2
 have h256 : (dfc d.of d.n d.x1 d.x2).take 256 = tab 256 (fun i => .int .u8 ((d.of i : Nat) : Int)) := by
  unfold dfc
  rw [List.append_assoc, bt0]
 have c1 := d.h1.one.1
 have c2 := d.h2.one.1
 unfold EV.cells at c1 c2
 have h257 : List.take 257 ((tab 256 fun i => EV.int .u8 ((d.of i : Nat) : Int)) ++ [EV.int .i64 d.n, EV.nilsl, EV.nilsl]) = (tab 256 fun i => EV.int .u8 ((d.of i : Nat) : Int)) ++ [EV.int .i64 d.n] := by
  rw [List.take_append, List.take_of_length_le (by rw [ab9]; omega), ab9]; rfl
 have h258 : List.take 258 ((tab 256 fun i => EV.int .u8 ((d.of i : Nat) : Int)) ++ [EV.int .i64 d.n, d.x1, EV.nilsl]) = (tab 256 fun i => EV.int .u8 ((d.of i : Nat) : Int)) ++ [EV.int .i64 d.n, d.x1] := by
  rw [List.take_append, List.take_of_length_le (by rw [ab9]; omega), ab9]; rfl
 have hone : (tab 256 (fun i => EV.int .u8 ((d.of i : Nat) : Int))).all EV.one = true := by
  rw [← h256]
  exact List.all_eq_true.2 fun x hx => List.all_eq_true.1 hA x (List.mem_of_mem_take hx)
 have hfl := cd9 (of := d.of) (n := d.n) (x1 := d.x1) (x2 := d.x2)
 refine ah2 R.be0 (by simp) ?_
 unfold Gn.an3 Gn.ai5 DF.E
 repeat' first | (simp (disch := first | omega | assumption) only [go_sem, simprocAttr, *]) | refine aa2 (fun hb=>?_) fun hb=>?_ | refine aa3 (fun hb=>?_) fun hb=>?_
 all_goals (try simp only [FX] at *)
 all_goals first | omega | skip
 exact ab4 d.ok rfl
end
theorem cy4 {k : SK} {ks : List SK} {xs : List EV} : ∀ {n : Nat} {l : List EV}, l.length = n → (∀ x ∈ l, fit k x = true) → fits (List.replicate n k ++ ks) (l ++ xs) = fits ks xs
 | 0, [], _, _ => rfl
 | 0, x :: l, h, _ => by simp at h
 | n + 1, [], h, _ => by simp at h
 | n + 1, x :: l, h, hl => by
  rw [List.replicate_succ, List.cons_append, List.cons_append]
  simp only [fits]
  rw [hl x (by simp), Bool.true_and]
  exact cy4 (by simpa using h) fun y hy => hl y (by simp [hy])
theorem dm0 : ∀ {l : List EV}, (∀ x ∈ l, sceq x x = true) → eqL l l = true
 | [], _ => rfl
 | x :: l, h => by simp only [eqL]; rw [h x (by simp), dm0 fun y hy => h y (by simp [hy])]; rfl
theorem dh4 {of : Nat → Nat} {n : Int} {x : EV} (h : x ∈ (tab 256 fun i => EV.int .u8 ((of i : Nat) : Int))) : ∃ i, i < 256 ∧ x = .int .u8 (of i) := by
 obtain ⟨i, hi, e⟩ := List.mem_iff_getElem.1 h
 rw [ab9] at hi
 have := bj7 (f := fun i => EV.int .u8 ((of i : Nat) : Int)) hi
 rw [List.getElem?_eq_getElem (by rw [ab9]; exact hi), e] at this
 exact ⟨i, hi, Option.some.inj this⟩
theorem dm7 {of : Nat → Nat} {n : Int} {x1 x2 : EV} : fits (List.replicate 256 (.i .u8) ++ [.i .i64]) ((dfc of n x1 x2).take 257) = true := by
 rw [ci3, cy4 ab9]
 ·rfl
 ·intro x hx
  obtain ⟨i, hi, rfl⟩ := dh4 (n := 0) hx
  rfl
theorem fk3 {of : Nat → Nat} {n : Int} {x1 x2 y1 y2 : EV} : eqL ((dfc of n x1 x2).take 257) ((dfc of n y1 y2).take 257) = true := by
 rw [ci3, ci3]
 refine dm0 fun x hx => ?_
 rw [List.mem_append] at hx
 rcases hx with hx | hx
 ·obtain ⟨i, hi, rfl⟩ := dh4 (n := 0) hx
  simp [sceq]
 ·simp only [List.mem_cons, List.not_mem_nil, or_false] at hx
  subst hx
  simp [sceq]
section
variable {E : Env} [R : DfaR E]
theorem da3 (x y : EV) (a : List Int) (hx : ai9 x a) (hy : ai9 y a) (H : Heap) : den E R.ae8 [x, y] H = some (.ret (.bool true), H) := by
 have lx := hx.lenI
 have ly := hy.lenI
 have xle := hx.leI
 refine ah2 R.aq2 (by simp) ?_
 unfold Gn.ai1 Gn.ag2
 have hll2 : ((a.length : Int) != (a.length : Int)) = false := by simp
 simp (disch := omega) only [go_sem, simprocAttr, lx, ly, hll2]
 refine ad5 (ι := Nat) (fun i => i ≤ a.length) (fun i => a.length - i) (fun i => [(0, x), (1, y), (5, .int .i64 i)]) (fun _ => H) 0 (by omega) ?_ rfl ?_
 ·simp (disch := omega) only [go_sem, simprocAttr, Sl]
 ·rintro i t hi ht K hK
  simp (disch := omega) only [go_sem, simprocAttr, Sl] at ht
  by_cases hlt : i < a.length
  ·obtain ⟨v, hv⟩ := ab5 hlt
   have h1 := hx.at hv
   have h2 := hy.at hv
   have hk := hK (i + 1)
   have hne : (v != v) = false := by simp
   clear hK
   repeat' first | (simp (disch := first | omega | assumption) only [go_sem, simprocAttr, *]) | refine aa2 (fun hb=>?_) fun hb=>?_ | refine aa3 (fun hb=>?_) fun hb=>?_
   all_goals (try simp only [FX] at *)
   all_goals first | omega | exact absurd trivial (by assumption) | skip
   refine hk _ _ (by omega) (by omega) ?_ rfl
   simp (disch := omega) only [go_sem, simprocAttr, Sl, ht, and_self, ab6]
  ·have hie : i = a.length := by omega
   clear hK
   repeat' first | (simp (disch := first | omega | assumption) only [go_sem, simprocAttr, *]) | refine aa2 (fun hb=>?_) fun hb=>?_ | refine aa3 (fun hb=>?_) fun hb=>?_
   all_goals (try simp only [FX] at *)
   all_goals first | omega | exact af3 rfl rfl
structure Like (a b : DF) : Prop where
 of : a.of = b.of
 n : a.n = b.n
 rows : a.rows = b.rows
 tags : a.tags = b.tags
theorem bm7 (a b : DF) (h : Like a b) (H : Heap) : den E R.ag1 [a.E, b.E] H = some (.ret (.bool true), H) := by
 obtain ⟨k1, k2, hle, hle2, o1, o2, hA, hL, hx1, hx2, hn, htk⟩ := a.facts
 obtain ⟨j1, j2, ile, ile2, p1, p2, iA, iL, ix1, ix2, ien, itk⟩ := b.facts
 unfold EV.one at o1 o2 p1 p2
 have f1 := dm7 (of := a.of) (n := a.n) (x1 := a.x1) (x2 := a.x2)
 have f2 := dm7 (of := b.of) (n := b.n) (x1 := b.x1) (x2 := b.x2)
 have f3 : eqL ((dfc a.of a.n a.x1 a.x2).take 257) ((dfc b.of b.n b.x1 b.x2).take 257) = true := by rw [h.of, h.n]; exact fk3
 have e1 := fun H => da3 (R := R) a.x2 b.x2 a.tags a.h2 (h.tags ▸ b.h2) H
 rw [← h.rows] at j1 ile
 refine ah2 R.bf3 (by simp) ?_
 unfold Gn.ao2 Gn.ak9 DF.E
 generalize (List.replicate 256 (SK.i .u8) ++ [SK.i .i64]) = ks at f1 f2 ⊢
 repeat' first | (simp (disch := first | omega | assumption) only [go_sem, simprocAttr, *]) | refine aa2 (fun hb=>?_) fun hb=>?_ | refine aa3 (fun hb=>?_) fun hb=>?_
 all_goals (try simp only [FX] at *)
 all_goals first | omega | exact absurd trivial (by assumption) | skip
 refine ad5 (ι := Nat) (fun i => i ≤ a.rows.length) (fun i => a.rows.length - i) (fun i => [(2, .ptr H.length 259 0 0), (3, .ptr (H.length + 1) 259 0 0), (5, .int .i64 i)])
  (fun _ => H ++ [some (.row 259 [.agg (dfc a.of a.n a.x1 a.x2)]), some (.row 259 [.agg (dfc b.of b.n b.x1 b.x2)])]) 0 (by omega) ?_ (by first | rfl | simp) ?_
 ·simp (disch := omega) only [go_sem, simprocAttr, Sl]
 ·rintro i t hi ht K hK
  simp (disch := omega) only [go_sem, simprocAttr, Sl] at ht
  by_cases hlt : i < a.rows.length
  ·obtain ⟨l, hl⟩ := ab5 hlt
   obtain ⟨y, hy, hyv, hat⟩ := a.row hl
   obtain ⟨z, hz, hzv, hat2⟩ := b.row (h.rows ▸ hl)
   have ho1 := hyv.one.2
   have ho2 := hzv.one.2
   unfold EV.one at ho1 ho2
   have hk := hK (i + 1)
   have heq := fun H => da3 (R := R) y z l hyv hzv H
   clear hK e1 f1 f2 f3
   repeat' first | (simp (disch := first | omega | assumption) only [go_sem, simprocAttr, *]) | refine aa2 (fun hb=>?_) fun hb=>?_ | refine aa3 (fun hb=>?_) fun hb=>?_
   all_goals (try simp only [FX] at *)
   all_goals first | omega | exact absurd trivial (by assumption) | skip
   refine hk _ _ (by omega) (by omega) ?_ rfl
   simp (disch := omega) only [go_sem, simprocAttr, Sl, ht, and_self, ab6]
  ·have hie : i = a.rows.length := by omega
   clear hK e1 f1 f2 f3
   repeat' first | (simp (disch := first | omega | assumption) only [go_sem, simprocAttr, *]) | refine aa2 (fun hb=>?_) fun hb=>?_ | refine aa3 (fun hb=>?_) fun hb=>?_
   all_goals (try simp only [FX] at *)
   all_goals first | omega | exact ab4 rfl rfl
end
inductive DF.Lv (d : DF) : Nat → Prop
 | tag {i : Nat} {t : Int} : d.tags[i]? = some t → 0 ≤ t → DF.Lv d i
 | step {i : Nat} {l : List Int} {x : Int} : d.rows[i]? = some l → x ∈ l → 0 ≤ x → DF.Lv d x.toNat → DF.Lv d i
noncomputable def DF.liveL (d : DF) : List Bool := (List.range d.rows.length).map fun i => @decide (d.Lv i) (Classical.propDecidable _)
theorem cx4 (d : DF) : d.liveL.length = d.rows.length := by simp [DF.liveL]
def bk0 (M : List Bool) (x : Int) : Bool := decide (0 ≤ x) && M.getD x.toNat false
def dp2 (M : List Bool) (l : List Int) : Bool := l.any (bk0 M)
structure LI (d : DF) (M : List Bool) : Prop where
 len : M.length = d.rows.length
 snd : ∀ j : Nat, M[j]? = some true → d.Lv j
 tag : ∀ (j : Nat) (t : Int), d.tags[j]? = some t → 0 ≤ t → M[j]? = some true
theorem dp1 {d : DF} {M : List Bool} (h : ∀ j : Nat, M[j]? = some true → d.Lv j) {l : List Int} {j : Nat} (hl : d.rows[j]? = some l) (hs : dp2 M l = true) : d.Lv j := by
 unfold dp2 at hs
 rw [List.any_eq_true] at hs
 obtain ⟨x, hx, hp⟩ := hs
 unfold bk0 at hp
 simp only [Bool.and_eq_true, decide_eq_true_eq] at hp
 refine .step hl hx hp.1 (h _ ?_)
 have := hp.2
 rw [List.getD_eq_getElem?_getD] at this
 cases hq : M[x.toNat]? with
 | none => rw [hq] at this; simp at this
 | some b => rw [hq] at this; simp only [Option.getD_some] at this; rw [this]
theorem cy2 {M : List Bool} {i j : Nat} (h : M[j]? = some true) : (M.set i true)[j]? = some true := by
 rw [List.getElem?_set]
 split
 ·split
  ·rfl
  ·rename_i h1 h2
   subst h1
   rw [List.getElem?_eq_none (by omega)] at h
   simp at h
 ·exact h
structure TI (d : DF) (M : List Bool) (i : Nat) : Prop where
 len : M.length = d.rows.length
 snd : ∀ j : Nat, M[j]? = some true → d.Lv j
 tag : ∀ (j : Nat) (t : Int), j < i → d.tags[j]? = some t → 0 ≤ t → M[j]? = some true
theorem TI.set {d : DF} {M : List Bool} {i : Nat} (h : TI d M i) {t : Int} (ht : d.tags[i]? = some t) (hi : i < d.rows.length) : TI d (M.set i (decide (t ≥ 0))) (i + 1) := by
 refine ⟨by rw [List.length_set]; exact h.len, fun j hj => ?_, fun j t' hj ht' h0 => ?_⟩
 ·rw [List.getElem?_set] at hj
  split at hj
  ·rename_i e
   subst e
   split at hj
   ·simp only [Option.some.injEq, decide_eq_true_eq] at hj
    exact .tag ht hj
   ·simp at hj
  ·exact h.snd j hj
 ·rw [List.getElem?_set]
  split
  ·rename_i e
   subst e
   rw [ht] at ht'
   obtain rfl := Option.some.inj ht'
   rw [if_pos (by rw [h.len]; exact hi), decide_eq_true h0]
  ·exact h.tag j t' (by omega) ht' h0
theorem LI.set {d : DF} {M : List Bool} (h : LI d M) {j : Nat} (hj : d.Lv j) : LI d (M.set j true) := by
 refine ⟨by rw [List.length_set]; exact h.len, fun k hk => ?_, fun k t ht h0 => cy2 (h.tag k t ht h0)⟩
 rw [List.getElem?_set] at hk
 split at hk
 ·rename_i e
  subst e
  exact hj
 ·exact h.snd k hk
structure PI (d : DF) (M0 M : List Bool) (i : Nat) : Prop where
 len : M.length = d.rows.length
 snd : ∀ j : Nat, M[j]? = some true → d.Lv j
 mono : ∀ j : Nat, M0[j]? = some true → M[j]? = some true
 tag : ∀ (j : Nat) (t : Int), j < i → d.tags[j]? = some t → 0 ≤ t → M[j]? = some true
 row : ∀ (j : Nat) (l : List Int), j < i → d.rows[j]? = some l → dp2 M0 l = true → M[j]? = some true
structure RI (d : DF) (M0 M : List Bool) (i c : Nat) (l : List Int) : Prop where
 pi : PI d M0 M i
 tag : ∀ t : Int, d.tags[i]? = some t → 0 ≤ t → M[i]? = some true
 row : dp2 M0 (l.take c) = true → M[i]? = some true
theorem bi3 {M : List Bool} {i j : Nat} {w v : Bool} (hw : M[i]? = some w) (h : M[j]? = some true) : (M.set i (w || v))[j]? = some true := by
 rw [List.getElem?_set]
 split
 ·rename_i e
  subst e
  rw [hw] at h
  obtain rfl := Option.some.inj h
  rw [if_pos (List.getElem?_eq_some_iff.1 hw).1]; rfl
 ·exact h
theorem PI.set {d : DF} {M0 M : List Bool} {i k : Nat} {w v : Bool} (h : PI d M0 M k) (hw : M[i]? = some w) (hv : v = true → d.Lv i) : PI d M0 (M.set i (w || v)) k := by
 refine ⟨by rw [List.length_set]; exact h.len, fun j hj => ?_, fun j hj => bi3 hw (h.mono j hj), fun j t hji ht h0 => bi3 hw (h.tag j t hji ht h0), fun j l hji hl hs => bi3 hw (h.row j l hji hl hs)⟩
 rw [List.getElem?_set] at hj
 split at hj
 ·rename_i e
  subst e
  split at hj
  ·simp only [Option.some.injEq, Bool.or_eq_true] at hj
   rcases hj with hj | hj
   ·subst hj; exact h.snd _ hw
   ·exact hv hj
  ·simp at hj
 ·exact h.snd j hj
theorem PI.enter {d : DF} {M0 M : List Bool} {i : Nat} (l : List Int) (h : PI d M0 M i) {w : Bool} (hw : M[i]? = some w) {t : Int} (ht : d.tags[i]? = some t) : RI d M0 (M.set i (w || decide (t ≥ 0))) i 0 l := by
 have hi := (List.getElem?_eq_some_iff.1 hw).1
 refine ⟨h.set hw fun hv => .tag ht (by simpa using hv), fun t' ht' h0 => ?_, fun hs => by simp [dp2] at hs⟩
 rw [ht] at ht'
 obtain rfl := Option.some.inj ht'
 rw [List.getElem?_set_self hi, decide_eq_true h0, Bool.or_true]
theorem do9 {M0 M : List Bool} (h : ∀ j : Nat, M0[j]? = some true → M[j]? = some true) {x : Int} (hs : bk0 M0 x = true) : bk0 M x = true := by
 unfold bk0 at hs ⊢
 simp only [Bool.and_eq_true, decide_eq_true_eq] at hs ⊢
 refine ⟨hs.1, ?_⟩
 have := hs.2
 rw [List.getD_eq_getElem?_getD] at this ⊢
 cases hq : M0[x.toNat]? with
 | none => rw [hq] at this; simp at this
 | some b =>
  rw [hq] at this
  simp only [Option.getD_some] at this
  subst this
  rw [h _ hq]; rfl
theorem eq0 {d : DF} {M : List Bool} (h : ∀ j : Nat, M[j]? = some true → d.Lv j) {l : List Int} {j : Nat} (hl : d.rows[j]? = some l) {x : Int} (hx : x ∈ l) (hs : bk0 M x = true) : d.Lv j :=
 dp1 h hl (List.any_eq_true.2 ⟨x, hx, hs⟩)
theorem RI.next {d : DF} {M0 M : List Bool} {i c : Nat} {l : List Int} (h : RI d M0 M i c l) (hl : d.rows[i]? = some l) {w : Bool} (hw : M[i]? = some w) {x : Int} (hx : l[c]? = some x) : RI d M0 (M.set i (w || bk0 M x)) i (c + 1) l := by
 have hi := (List.getElem?_eq_some_iff.1 hw).1
 refine ⟨h.pi.set hw fun hv => eq0 h.pi.snd hl (List.mem_of_getElem? hx) hv, fun t ht h0 => bi3 hw (h.tag t ht h0), fun hs => ?_⟩
 rw [List.take_add_one, hx] at hs
 unfold dp2 at hs
 rw [List.any_append, Bool.or_eq_true] at hs
 rcases hs with hs | hs
 ·exact bi3 hw (h.row hs)
 ·simp only [Option.toList_some, List.any_cons, List.any_nil, Bool.or_false] at hs
  rw [List.getElem?_set_self hi, do9 h.pi.mono hs, Bool.or_true]
def bl7 (L : List Bool) (p : List Int × List Int) (x : Int) : List Int × List Int :=
 if bk0 L x = true then (if x ∈ p.1 then p.1 else p.1 ++ [x], p.2 ++ [(p.1.idxOf x : Int)]) else (p.1, p.2 ++ [-1])
def rowT (L : List Bool) (q l : List Int) : List Int × List Int := l.foldl (bl7 L) (q, [])
structure BS where
 (q : List Int)
 (rows : List (List Int))
 (tags : List Int)
noncomputable def DF.bfs (d : DF) : Nat → BS
 | 0 => ⟨[0], [], []⟩
 | i + 1 =>
  match (d.bfs i).q[i]? with
  | none => d.bfs i
  | some x => ⟨(rowT d.liveL (d.bfs i).q (d.rows.getD x.toNat [])).1, (d.bfs i).rows ++ [(rowT d.liveL (d.bfs i).q (d.rows.getD x.toNat [])).2], (d.bfs i).tags ++ [d.tags.getD x.toNat 0]⟩
theorem dn8 {d : DF} {i : Nat} {x : Int} (h : (d.bfs i).q[i]? = some x) : d.bfs (i + 1) = ⟨(rowT d.liveL (d.bfs i).q (d.rows.getD x.toNat [])).1, (d.bfs i).rows ++ [(rowT d.liveL (d.bfs i).q (d.rows.getD x.toNat [])).2], (d.bfs i).tags ++ [d.tags.getD x.toNat 0]⟩ := by
 show (match (d.bfs i).q[i]? with
  | none => d.bfs i
  | some x => _) = _
 rw [h]
theorem dn7 {d : DF} {i : Nat} (h : (d.bfs i).q.length = i) : ∀ k, d.bfs (i + k) = d.bfs i
 | 0 => rfl
 | k + 1 => by
  have ih := dn7 h k
  show (match (d.bfs (i + k)).q[i + k]? with
   | none => d.bfs (i + k)
   | some x => _) = _
  rw [ih, List.getElem?_eq_none (by omega)]
structure QI (N : Nat) (q : List Int) : Prop where
 nd : q.Nodup
 rng : ∀ x ∈ q, 0 ≤ x ∧ x < N
theorem dk6 : ∀ (N : Nat) (q : List Int), q.Nodup → (∀ x ∈ q, 0 ≤ x ∧ x < N) → q.length ≤ N
 | 0, [], _, _ => Nat.le_refl _
 | 0, x :: q, _, h => by have := h x (by simp); omega
 | N + 1, q, hn, h => by
  have h1 := dk6 N (q.erase (N : Int)) (hn.erase _) fun x hx => by
   obtain ⟨e, hm⟩ := hn.mem_erase_iff.1 hx
   have := h x hm
   omega
  have h2 := List.length_erase (a := (N : Int)) (l := q)
  split at h2 <;> omega
theorem QI.le {N : Nat} {q : List Int} (h : QI N q) : q.length ≤ N := dk6 N q h.nd h.rng
theorem QI.add {N : Nat} {q : List Int} (h : QI N q) {x : Int} (hx : 0 ≤ x ∧ x < N) : QI N (if x ∈ q then q else q ++ [x]) := by
 split
 ·exact h
 ·rename_i hn
  refine ⟨List.nodup_append.2 ⟨h.nd, by simp, fun a ha b hb => by simp at hb; subst hb; intro e; subst e; exact hn ha⟩, fun y hy => ?_⟩
  rcases List.mem_append.1 hy with hy | hy
  ·exact h.rng y hy
  ·simp at hy; subst hy; exact hx
theorem dp0 {d : DF} (g : d.Good) {x : Int} (h : bk0 d.liveL x = true) : 0 ≤ x ∧ x < d.rows.length := by
 unfold bk0 at h
 simp only [Bool.and_eq_true, decide_eq_true_eq] at h
 refine ⟨h.1, ?_⟩
 have h2 := h.2
 rw [List.getD_eq_getElem?_getD] at h2
 cases hq : d.liveL[x.toNat]? with
 | none => rw [hq] at h2; simp at h2
 | some b =>
  have := (List.getElem?_eq_some_iff.1 hq).1
  rw [cx4] at this
  omega
theorem ep7 {d : DF} (g : d.Good) {p : List Int × List Int} (h : QI d.rows.length p.1) (x : Int) : QI d.rows.length (bl7 d.liveL p x).1 := by
 unfold bl7
 split
 ·rename_i hs
  exact h.add (dp0 g hs)
 ·exact h
theorem eg3 {d : DF} (g : d.Good) : ∀ (l : List Int) {p : List Int × List Int}, QI d.rows.length p.1 → QI d.rows.length (l.foldl (bl7 d.liveL) p).1
 | [], _, h => h
 | x :: l, _, h => eg3 g l (ep7 g h x)
theorem dy0 (L : List Bool) (p : List Int × List Int) (x : Int) : (bl7 L p x).2.length = p.2.length + 1 ∧ p.1.length ≤ (bl7 L p x).1.length := by
 unfold bl7
 split
 ·refine ⟨by simp, ?_⟩
  simp only
  split
  ·exact Nat.le_refl _
  ·simp
 ·exact ⟨by simp, Nat.le_refl _⟩
theorem dl8 (L : List Bool) : ∀ (l : List Int) (p : List Int × List Int), (l.foldl (bl7 L) p).2.length = p.2.length + l.length ∧ p.1.length ≤ (l.foldl (bl7 L) p).1.length
 | [], p => ⟨rfl, Nat.le_refl _⟩
 | x :: l, p => by
  have h1 := dl8 L l (bl7 L p x)
  have h2 := dy0 L p x
  rw [List.foldl_cons]
  simp only [List.length_cons]
  omega
structure BI (d : DF) (i : Nat) : Prop where
 qi : QI d.rows.length (d.bfs i).q
 le : i ≤ (d.bfs i).q.length
 rl : (d.bfs i).rows.length = i
 tl : (d.bfs i).tags.length = i
theorem BI.zero {d : DF} (h : 0 < d.rows.length) : BI d 0 := ⟨⟨by simp [DF.bfs], fun x hx => by simp [DF.bfs] at hx; subst hx; omega⟩, by simp, by simp [DF.bfs], by simp [DF.bfs]⟩
theorem BI.next {d : DF} (g : d.Good) {i : Nat} (h : BI d i) {x : Int} (hx : (d.bfs i).q[i]? = some x) : BI d (i + 1) := by
 have hlt := (List.getElem?_eq_some_iff.1 hx).1
 have h2 := (dl8 d.liveL (d.rows.getD x.toNat []) ((d.bfs i).q, [])).2
 refine ⟨?_, ?_, ?_, ?_⟩ <;> rw [dn8 hx]
 ·exact eg3 g _ h.qi
 ·have : (d.bfs i).q.length ≤ (rowT d.liveL (d.bfs i).q (d.rows.getD x.toNat [])).1.length := h2
  simp only
  omega
 ·simp [h.rl]
 ·simp [h.tl]
theorem BI.last {d : DF} {i : Nat} (h : BI d i) (he : i = (d.bfs i).q.length) : d.bfs d.rows.length = d.bfs i := by
 have h1 := h.qi.le
 have := dn7 he.symm (d.rows.length - i)
 rwa [Nat.add_sub_cancel' (by omega)] at this
theorem cx8 (l : List Int) (i : Nat) (v : Int) : (ab3 l).set i (.int .i64 v) = ab3 (l.set i v) := by unfold ab3; rw [List.map_set]
def au7 (ks : List Int) (n : Nat) : List Int := ks ++ List.replicate (n - ks.length) 0
theorem bm9 {ks : List Int} {n : Nat} (h : ks.length ≤ n) : (au7 ks n).length = n := by unfold au7; simp; omega
theorem eb4 {ks : List Int} {n : Nat} (h : ks.length < n) (v : Int) : (au7 ks n).set ks.length v = au7 (ks ++ [v]) n := by
 unfold au7
 obtain ⟨m, hm⟩ : ∃ m, n - ks.length = m + 1 := ⟨n - ks.length - 1, by omega⟩
 have h2 : n - (ks ++ [v]).length = m := by simp; omega
 rw [hm, h2, List.set_append_right _ _ (Nat.le_refl _), Nat.sub_self, List.replicate_succ]
 simp
theorem dq3 {ks : List Int} {n : Nat} (h : ks.length = n) : au7 ks n = ks := by unfold au7; simp [h]
theorem fh4 {n sz : Nat} {es : List EV} (h : okL n es = true) : (slE sz es).ok n = true := by
 unfold slE
 split
 ·rfl
 ·simpa [EV.ok] using h
theorem dk5 (n : Nat) : ∀ rs : List (List Int), okL n (rs.map fun l => slE 1 (ab3 l)) = true
 | [] => rfl
 | l :: rs => by
  rw [List.map_cons]
  simp only [okL]
  rw [fh4 (bu3 n l), dk5 n rs]; rfl
theorem dq2 {ks : List Int} {n : Nat} (v w : Int) : (au7 (ks ++ [v]) n).set ks.length w = au7 (ks ++ [w]) n := by
 unfold au7
 rw [List.set_append_left _ _ (by simp), List.set_append_right _ _ (Nat.le_refl _)]
 simp
structure KH (D i : Nat) (G : Heap) (ow : Nat → Nat) (X1 X2 : EV) (xs : List EV) (rows : List (List Int)) (tags : List Int) : Prop where
 n1 : Hold D G ow 1 1 X1 xs
 n2 : Hold D G ow 2 1 X2 (ab3 tags)
 nr : ∀ (j : Nat) (y : EV) (l : List Int), xs[j]? = some y → rows[j]? = some l → Hold D G ow (3 + j) 1 y (ab3 l)
 xl : xs.length = i
 rl : rows.length = i
theorem KH.start {D : Nat} {G : Heap} {ow : Nat → Nat} : KH D 0 G ow .nilsl .nilsl [] [] [] := ⟨.inl ⟨rfl, rfl⟩, .inl ⟨rfl, rfl⟩, fun j y l h => by simp at h, rfl, rfl⟩
theorem KH.grow {H : Heap} {m i : Nat} {G : Heap} {ow : Nat → Nat} {X1 X2 : EV} {xs : List EV} {rows : List (List Int)} {tags : List Int} (h : KH (H.length + m) i G ow X1 X2 xs rows tags) (ht : tags.length = i) (hi : i ≤ 100000) {y : EV} {l : List Int} (hy : Hold (H.length + m) G ow (3 + i) 1 y (ab3 l)) (t : Int) :
  ∃ X1' X2' G1 G2 ow2, (∀ L : Heap, L.length = m → ad2 1 24 X1 (.imm 1 [y]) (H ++ (L ++ G)) = some (X1', H ++ (L ++ G1))) ∧ (∀ L : Heap, L.length = m → ad2 1 8 X2 (.imm 1 [.int .i64 t]) (H ++ (L ++ G1)) = some (X2', H ++ (L ++ G2))) ∧
   KH (H.length + m) (i + 1) G2 ow2 X1' X2' (xs ++ [y]) (rows ++ [l]) (tags ++ [t]) ∧ ∀ sz x es, Hold (H.length + m) G ow 0 sz x es → Hold (H.length + m) G2 ow2 0 sz x es := by
 obtain ⟨X1', G1, ow1, a1, b1, c1⟩ := h.n1.appendL y 24 (by omega) (by rw [hy.one.2]; rfl) (by rw [hy.one.2]; simp [hy.one.1]) (by rw [h.xl]; omega) (by omega)
 obtain ⟨X2', G2, ow2, a2, b2, c2⟩ := (c1 2 _ _ _ (by omega) h.n2).appendL (.int .i64 t) 8 (by omega) rfl rfl (by rw [ad0]; omega) (by omega)
 refine ⟨X1', X2', G1, G2, ow2, a1, a2, ⟨c2 1 _ _ _ (by omega) b1, by rw [show ab3 (tags ++ [t]) = ab3 tags ++ [.int .i64 t] by simp [ab3]]; exact b2, fun j z r hz hr => ?_, by simp [h.xl], by simp [h.rl]⟩, fun sz x es hx => c2 0 _ _ _ (by omega) (c1 0 _ _ _ (by omega) hx)⟩
 refine c2 (3 + j) _ _ _ (by omega) (c1 (3 + j) _ _ _ (by omega) ?_)
 by_cases e : j < i
 ·rw [List.getElem?_append_left (by rw [h.xl]; exact e)] at hz
  rw [List.getElem?_append_left (by rw [h.rl]; exact e)] at hr
  exact h.nr j z r hz hr
 ·have hj : j = i := by
   have := (List.getElem?_eq_some_iff.1 hz).1
   rw [List.length_append, h.xl, List.length_singleton] at this
   omega
  subst hj
  rw [List.getElem?_append_right (by rw [h.xl]; omega), h.xl, Nat.sub_self] at hz
  rw [List.getElem?_append_right (by rw [h.rl]; omega), h.rl, Nat.sub_self] at hr
  simp only [List.getElem?_cons_zero, Option.some.injEq] at hz hr
  subst hz hr
  exact hy
theorem dl5 {l : List Int} (h : 0 < l.length) : ab3 l ≠ [] := by
 intro e
 have := congrArg List.length e
 rw [ad0] at this
 simp only [List.length_nil] at this
 omega
theorem cq6 {α β : Type} {f : α → Option β} : ∀ {a b : List α} {c e : List β}, mapO f a = some c → mapO f b = some e → mapO f (a ++ b) = some (c ++ e)
 | [], b, c, e, h1, h2 => by
  simp only [mapO, Option.some.injEq] at h1
  subst h1
  exact h2
 | x :: a, b, c, e, h1, h2 => by
  simp only [mapO] at h1
  split at h1
  ·rename_i y ys hy hys
   simp only [Option.some.injEq] at h1
   subst h1
   rw [List.cons_append]
   simp only [mapO]
   rw [hy, cq6 hys h2]
   rfl
  ·simp at h1
theorem ee3 {α β : Type} {f : α → Option β} : ∀ {xs : List α} {ys : List β}, xs.length = ys.length → (∀ (j : Nat) (x : α) (y : β), xs[j]? = some x → ys[j]? = some y → f x = some y) → mapO f xs = some ys
 | [], [], _, _ => rfl
 | [], _ :: _, h, _ => by simp at h
 | _ :: _, [], h, _ => by simp at h
 | x :: xs, y :: ys, h, hf => by
  simp only [mapO]
  rw [hf 0 x y rfl rfl, ee3 (by simpa using h) fun j a b ha hb => hf (j + 1) a b ha hb]
theorem fh3 {es : List EV} (ho : ∀ n, okL n es = true) (hl : es.length ≤ 9223372036854775807) : SlV 1 (slE 1 es) es := by
 unfold slE
 split
 ·rename_i h
  subst h
  exact .nil
 ·exact .imm ho hl
def nmT (L : List Bool) (Q : List Int) (z : Int) : Int := if bk0 L z = true then (Q.idxOf z : Int) else -1
theorem de5 {L : List Bool} {q q' : List Int} {z : Int} (h : bk0 L z = true → z ∈ q) : nmT L (q ++ q') z = nmT L q z := by
 unfold nmT
 split
 ·rename_i hs
  rw [List.idxOf_append, if_pos (h hs)]
 ·rfl
theorem fb9 {L : List Bool} {q q' l : List Int} (h : ∀ z ∈ l, bk0 L z = true → z ∈ q) : l.map (nmT L (q ++ q')) = l.map (nmT L q) :=
 List.map_congr_left fun z hz => de5 (h z hz)
theorem eu0 (L : List Bool) : ∀ (l q acc : List Int), ∃ q', (l.foldl (bl7 L) (q, acc)).1 = q ++ q' ∧ (l.foldl (bl7 L) (q, acc)).2 = acc ++ l.map (nmT L (q ++ q')) ∧
  (∀ z ∈ l, bk0 L z = true → z ∈ q ++ q') ∧ ∀ y ∈ q', bk0 L y = true
 | [], q, acc => ⟨[], by simp, by simp, by simp, by simp⟩
 | z :: l, q, acc => by
  rw [List.foldl_cons]
  by_cases hs : bk0 L z = true
  ·by_cases hz : z ∈ q
   ·have e : bl7 L (q, acc) z = (q, acc ++ [(q.idxOf z : Int)]) := by unfold bl7; rw [if_pos hs]; simp only [if_pos hz]
    rw [e]
    obtain ⟨q', h1, h2, h3, h4⟩ := eu0 L l q (acc ++ [(q.idxOf z : Int)])
    refine ⟨q', h1, ?_, fun y hy hy' => ?_, h4⟩
    ·rw [h2, List.map_cons, de5 (fun _ => hz)]
     unfold nmT
     rw [if_pos hs]
     simp
    ·rcases List.mem_cons.1 hy with rfl | hy
     ·exact List.mem_append_left _ hz
     ·exact h3 y hy hy'
   ·have e : bl7 L (q, acc) z = (q ++ [z], acc ++ [(q.idxOf z : Int)]) := by unfold bl7; rw [if_pos hs]; simp only [if_neg hz]
    rw [e]
    obtain ⟨q', h1, h2, h3, h4⟩ := eu0 L l (q ++ [z]) (acc ++ [(q.idxOf z : Int)])
    have hi : (q ++ [z]).idxOf z = q.idxOf z := by
     rw [List.idxOf_append, if_neg hz]
     have := List.idxOf_eq_length hz
     simp [this]
    refine ⟨z :: q', by rw [h1]; simp, ?_, fun y hy hy' => ?_, fun y hy => ?_⟩
    ·rw [h2, List.map_cons, show q ++ z :: q' = (q ++ [z]) ++ q' by simp, de5 (fun _ => by simp)]
     rw [show nmT L (q ++ [z]) z = (q.idxOf z : Int) by unfold nmT; rw [if_pos hs, hi]]
     simp
    ·rw [show q ++ z :: q' = (q ++ [z]) ++ q' by simp]
     rcases List.mem_cons.1 hy with rfl | hy
     ·simp
     ·exact h3 y hy hy'
    ·rcases List.mem_cons.1 hy with rfl | hy
     ·exact hs
     ·exact h4 y hy
  ·have e : bl7 L (q, acc) z = (q, acc ++ [-1]) := by unfold bl7; rw [if_neg hs]
   rw [e]
   obtain ⟨q', h1, h2, h3, h4⟩ := eu0 L l q (acc ++ [-1])
   refine ⟨q', h1, ?_, fun y hy hy' => ?_, h4⟩
   ·rw [h2, List.map_cons, show nmT L (q ++ q') z = -1 by unfold nmT; rw [if_neg hs]]
    simp
   ·rcases List.mem_cons.1 hy with rfl | hy
    ·exact absurd hy' hs
    ·exact h3 y hy hy'
structure JT (d : DF) (i : Nat) (b : BS) : Prop where
 live : ∀ x ∈ b.q, bk0 d.liveL x = true
 z0 : b.q[0]? = some 0
 row : ∀ (j : Nat) (x : Int), j < i → b.q[j]? = some x → ∃ l, d.rows[x.toNat]? = some l ∧ b.rows[j]? = some (l.map (nmT d.liveL b.q)) ∧ ∀ z ∈ l, bk0 d.liveL z = true → z ∈ b.q
 tag : ∀ (j : Nat) (x : Int), j < i → b.q[j]? = some x → ∃ t, d.tags[x.toNat]? = some t ∧ b.tags[j]? = some t
theorem JT.zero {d : DF} (h : d.liveL[0]? = some true) : JT d 0 (d.bfs 0) := by
 refine ⟨fun x hx => ?_, rfl, fun j x hj => by omega, fun j x hj => by omega⟩
 simp only [DF.bfs, List.mem_cons, List.not_mem_nil, or_false] at hx
 subst hx
 unfold bk0
 simp [List.getD_eq_getElem?_getD, h]
theorem JT.next {d : DF} (g : d.Good) {i : Nat} (hB : BI d i) (h : JT d i (d.bfs i)) {x : Int} (hx : (d.bfs i).q[i]? = some x) : JT d (i + 1) (d.bfs (i + 1)) := by
 have hxr := hB.qi.rng x (List.mem_of_getElem? hx)
 obtain ⟨l, hl⟩ := ab5 (l := d.rows) (i := x.toNat) (by omega)
 obtain ⟨t, ht⟩ := ab5 (l := d.tags) (i := x.toNat) (by rw [g.tl]; omega)
 have el : d.rows.getD x.toNat [] = l := by simp [List.getD_eq_getElem?_getD, hl]
 have et : d.tags.getD x.toNat 0 = t := by simp [List.getD_eq_getElem?_getD, ht]
 rw [dn8 hx, el, et]
 obtain ⟨q', h1, h2, h3, h4⟩ := eu0 d.liveL l (d.bfs i).q []
 have e1 : (rowT d.liveL (d.bfs i).q l).1 = (d.bfs i).q ++ q' := h1
 have e2 : (rowT d.liveL (d.bfs i).q l).2 = l.map (nmT d.liveL ((d.bfs i).q ++ q')) := by rw [show (rowT d.liveL (d.bfs i).q l).2 = _ from h2]; simp
 rw [e1, e2]
 have hiq := (List.getElem?_eq_some_iff.1 hx).1
 refine ⟨fun y hy => ?_, ?_, fun j y hj hy => ?_, fun j y hj hy => ?_⟩
 ·rcases List.mem_append.1 hy with hy | hy
  ·exact h.live y hy
  ·exact h4 y hy
 ·simp only
  rw [List.getElem?_append_left (by omega)]
  exact h.z0
 ·simp only at hy ⊢
  rw [List.getElem?_append_left (by omega)] at hy
  by_cases hji : j < i
  ·obtain ⟨l', k1, k2, k3⟩ := h.row j y hji hy
   refine ⟨l', k1, ?_, fun z hz hz' => List.mem_append_left _ (k3 z hz hz')⟩
   rw [List.getElem?_append_left (by rw [hB.rl]; exact hji), fb9 k3]
   exact k2
  ·have : j = i := by omega
   subst this
   rw [hx] at hy
   obtain rfl := Option.some.inj hy
   refine ⟨l, hl, ?_, h3⟩
   rw [List.getElem?_append_right (by rw [hB.rl]; exact Nat.le_refl _), hB.rl, Nat.sub_self]
   rfl
 ·simp only at hy ⊢
  rw [List.getElem?_append_left (by omega)] at hy
  by_cases hji : j < i
  ·obtain ⟨t', k1, k2⟩ := h.tag j y hji hy
   exact ⟨t', k1, by rw [List.getElem?_append_left (by rw [hB.tl]; exact hji)]; exact k2⟩
  ·have : j = i := by omega
   subst this
   rw [hx] at hy
   obtain rfl := Option.some.inj hy
   refine ⟨t, ht, ?_⟩
   rw [List.getElem?_append_right (by rw [hB.tl]; exact Nat.le_refl _), hB.tl, Nat.sub_self]
   rfl
theorem JT.all {d : DF} (g : d.Good) (h0 : d.liveL[0]? = some true) : ∃ i, i = (d.bfs i).q.length ∧ BI d i ∧ JT d i (d.bfs i) ∧ d.bfs d.rows.length = d.bfs i := by
 have hN : 0 < d.rows.length := by
  have := (List.getElem?_eq_some_iff.1 h0).1
  rwa [cx4] at this
 have key : ∀ (k i : Nat), d.rows.length - i ≤ k → BI d i → JT d i (d.bfs i) → ∃ i, i = (d.bfs i).q.length ∧ BI d i ∧ JT d i (d.bfs i) := by
  intro k
  induction k with
  | zero =>
   intro i hi hB hJ
   have := hB.qi.le
   have := hB.le
   exact ⟨i, by omega, hB, hJ⟩
  | succ k ih =>
   intro i hi hB hJ
   by_cases e : i = (d.bfs i).q.length
   ·exact ⟨i, e, hB, hJ⟩
   ·have := hB.le
    obtain ⟨x, hx⟩ := ab5 (l := (d.bfs i).q) (i := i) (by omega)
    have hl := hB.qi.le
    exact ih (i + 1) (by omega) (hB.next g hx) (hJ.next g hB hx)
 obtain ⟨i, h1, h2, h3⟩ := key _ 0 (Nat.le_refl _) (BI.zero hN) (JT.zero h0)
 exact ⟨i, h1, h2, h3, h2.last h1⟩
/-! ### Steps and tags -/
/-! ### Trimmed cs6 -/
end Abs
