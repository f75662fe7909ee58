/- A part. -/
import Derived.Test.YtddgppmcbjjliaaGreatDoorCqN
import Derived.Test.YtddgppmcbjjliaaGreatDoorOctsA
set_option linter.all false
namespace Abs
open Go
set_option maxRecDepth 20000
structure SlV (sz : Nat) (x : EV) (es : List EV) : Prop where
 len : bd7 false x = some es.length
 elem : ∀ (i : Nat) (e : EV), es[i]? = some e → ar2 sz (i : Int) x = some (.iptr e.cells 0)
 els : ∀ H, elems H x = some es
 ok : ∀ n, x.ok n = true
 le : es.length ≤ 9223372036854775807
 one : x.cells = [x] ∧ x.one = true
theorem SlV.imm {sz : Nat} {es : List EV} (h : ∀ n, okL n es = true) (hl : es.length ≤ 9223372036854775807) : SlV sz (.imm sz es) es :=
 ⟨rfl, fun i e he => by simp [ar2, he], fun _ => rfl, fun n => by simpa [EV.ok] using h n, hl, rfl, rfl⟩
theorem SlV.nil {sz : Nat} : SlV sz .nilsl [] := ⟨rfl, fun i e he => by simp at he, fun _ => rfl, fun _ => rfl, by simp, rfl, rfl⟩
theorem SlV.zsl {sz : Nat} : SlV sz .zsl [] := ⟨rfl, fun i e he => by simp at he, fun _ => rfl, fun _ => rfl, by simp, rfl, rfl⟩
def ab3 (l : List Int) : List EV := l.map (EV.int .i64)
abbrev ai9 (x : EV) (l : List Int) : Prop := SlV 1 x (ab3 l)
theorem ad0 (l : List Int) : (ab3 l).length = l.length := by simp [ab3]
theorem ay3 {l : List Int} {i : Nat} {v : Int} (h : l[i]? = some v) : (ab3 l)[i]? = some (.int .i64 v) := by simp [ab3, h]
theorem bu3 (n : Nat) : ∀ l : List Int, okL n (ab3 l) = true
 | [] => rfl
 | x :: l => by
  have := bu3 n l
  unfold ab3 at this ⊢
  simp [okL, EV.ok, this]
theorem SlV.lenI {x : EV} {l : List Int} (h : ai9 x l) : bd7 false x = some l.length := by rw [h.len, ad0]
theorem SlV.leI {x : EV} {l : List Int} (h : ai9 x l) : l.length ≤ 9223372036854775807 := by have := h.le; rwa [ad0] at this
theorem SlV.at {x : EV} {l : List Int} (h : ai9 x l) {i : Nat} {v : Int} (hv : l[i]? = some v) : ar2 1 (i : Int) x = some (.iptr [.int .i64 v] 0) := h.elem i _ (ay3 hv)
theorem dl4 {l : List Int} (hl : l.length ≤ 9223372036854775807) : ai9 (.imm 1 (ab3 l)) l := .imm (fun n => bu3 n l) (by rw [ad0]; exact hl)
theorem SlV.elemI {sz : Nat} {x : EV} {es : List EV} (h : SlV sz x es) {k : Int} {e : EV} (h0 : 0 ≤ k) (he : es[k.toNat]? = some e) : ar2 sz k x = some (.iptr e.cells 0) := by
 have := h.elem k.toNat e he
 rwa [Int.toNat_of_nonneg h0] at this
def risF (k : Int) : Int → List Int → Bool
 | _, [] => true
 | a, x :: l => decide (a < x) && (decide (x < k) && risF k x l)
def ris (k : Nat) (l : List Int) : Bool := risF k (-1) l
theorem ab6 (i : Nat) : ((i + 1 : Nat) : Int) = (i : Int) + 1 := rfl
theorem ax1 {α : Type} {l : List α} {i : Nat} {v : α} (h : l[i]? = some v) : l.drop i = v :: l.drop (i + 1) := by
 obtain ⟨hp, e⟩ := List.getElem?_eq_some_iff.1 h
 rw [← e]; exact List.drop_eq_getElem_cons hp
theorem ab5 {α : Type} {l : List α} {i : Nat} (h : i < l.length) : ∃ v, l[i]? = some v := ⟨l[i], by simp [h]⟩
structure NF where
 (x0 x1 x2 x3 x4 : EV)
 (m : Int)
 (sets : List (Nat → Nat))
 (rules first : List Int)
 (fx : List EV)
 (follow : List (List Int))
 (ends : List Bool)
 h0 : SlV 4 x0 (sets.map setE)
 hw : ∀ w ∈ sets, av8 w
 h1 : ai9 x1 rules
 h2 : ai9 x2 first
 h3 : SlV 1 x3 fx
 hl : fx.length = follow.length
 hf : ∀ (i : Nat) (y : EV) (l : List Int), fx[i]? = some y → follow[i]? = some l → ai9 y l
 h4 : SlV 1 x4 (ends.map EV.bool)
def NF.E (n : NF) : EV := .agg [n.x0, n.x1, n.x2, n.x3, n.x4, .int .i64 n.m]
theorem NF.k (n : NF) : bd7 false n.x0 = some n.sets.length := by rw [n.h0.len, List.length_map]
theorem NF.k1 (n : NF) : bd7 false n.x1 = some n.rules.length := n.h1.lenI
theorem NF.k2 (n : NF) : bd7 false n.x2 = some n.first.length := n.h2.lenI
theorem NF.k3 (n : NF) : bd7 false n.x3 = some n.follow.length := by rw [n.h3.len, n.hl]
theorem NF.k4 (n : NF) : bd7 false n.x4 = some n.ends.length := by rw [n.h4.len, List.length_map]
theorem NF.fol (n : NF) {i : Nat} {l : List Int} (h : n.follow[i]? = some l) : ∃ y, n.fx[i]? = some y ∧ ai9 y l ∧ ar2 1 (i : Int) n.x3 = some (.iptr [y] 0) := by
 obtain ⟨y, hy⟩ := ab5 (l := n.fx) (i := i) (by rw [n.hl]; exact (List.getElem?_eq_some_iff.1 h).1)
 have hv := n.hf i y l hy h
 refine ⟨y, hy, hv, ?_⟩
 have := n.h3.elem i y hy
 rwa [hv.one.1] at this
theorem NF.one (n : NF) : n.x0.one = true ∧ n.x1.one = true ∧ n.x2.one = true ∧ n.x3.one = true ∧ n.x4.one = true := ⟨n.h0.one.2, n.h1.one.2, n.h2.one.2, n.h3.one.2, n.h4.one.2⟩
section
variable {E : Env} [R : NfaR E]
theorem cp7 (n : NF) (x : EV) (l : List Int) (hx : ai9 x l) (H : Heap) : den E R.aj8 [n.E, x] H = some (.ret (.bool (ris n.sets.length l)), H) := by
 have k := n.k
 have lx := hx.lenI
 have lle := hx.leI
 obtain ⟨o0, o1, o2, o3, o4⟩ := n.one
 refine ah2 R.bl5 (by simp) ?_
 unfold Gn.as2 Gn.an9 NF.E
 unfold EV.one at o0 o1 o2 o3 o4
 simp (disch := omega) only [go_sem, simprocAttr, *]
 refine ad5 (ι := Nat) (fun i => i ≤ l.length ∧ ∃ a : Int, -1 ≤ a ∧ (i = 0 ∧ a = -1 ∨ 0 < i ∧ l[i - 1]? = some a) ∧ ris n.sets.length l = risF n.sets.length a (l.drop i)) (fun i => l.length - i)
  (fun i => [(1, x), (2, .ptr H.length 6 0 0), (7, x), (8, .int .i64 l.length), (9, .int .i64 i)]) (fun _ => H ++ [some (.row 6 [.agg [n.x0, n.x1, n.x2, n.x3, n.x4, .int .i64 n.m]])]) 0 ⟨by omega, -1, by omega, .inl ⟨rfl, rfl⟩, rfl⟩ ?_ rfl ?_
 ·simp (disch := omega) only [go_sem, simprocAttr, Sl]
 ·rintro i t ⟨hi, a, ha, hprev, hr⟩ ht K hK
  simp (disch := omega) only [go_sem, simprocAttr, Sl] at ht
  by_cases hlt : i < l.length
  ·obtain ⟨v, hv⟩ := ab5 hlt
   have hat := hx.at hv
   rw [ax1 hv] at hr
   have go : a < v → v < n.sets.length → _ := fun h1 h2 s' H' => hK (i + 1) s' H' ⟨by omega, v, by omega, .inr ⟨by omega, by simpa using hv⟩, by rw [hr]; simp [risF, h1, h2]⟩ (by omega)
   have stop : ¬ (a < v ∧ v < n.sets.length) → ris n.sets.length l = false := fun h => by
    rw [hr]
    simp only [risF, Bool.and_eq_false_iff, decide_eq_false_iff_not]
    by_cases h1 : a < v
    ·exact .inr (.inl fun h2 => h ⟨h1, h2⟩)
    ·exact .inl h1
   clear hr
   rcases hprev with ⟨rfl, rfl⟩ | ⟨hi0, hp⟩
   ·have hat0 : ar2 1 0 x = some (.iptr [.int .i64 v] 0) := hat
    repeat' first | (simp (disch := first | omega | assumption) only [go_sem, simprocAttr, *]) | refine aa2 (fun hb=>?_) fun hb=>?_ | refine aa3 (fun hb=>?_) fun hb=>?_
    all_goals (try simp only [FX] at *)
    all_goals first
     | omega
     | (rw [stop (by omega)]; exact ab4 rfl rfl)
     | (refine go (by omega) (by omega) _ _ ?_ rfl; simp (disch := omega) only [go_sem, simprocAttr, Sl, ht, and_self, ab6])
   ·have hat' := hx.at hp
    have e1 : ((i - 1 : Nat) : Int) = (i : Int) - 1 := by omega
    rw [e1] at hat'
    repeat' first | (simp (disch := first | omega | assumption) only [go_sem, simprocAttr, *]) | refine aa2 (fun hb=>?_) fun hb=>?_ | refine aa3 (fun hb=>?_) fun hb=>?_
    all_goals (try simp only [FX] at *)
    all_goals first
     | omega
     | (rw [stop (by omega)]; exact ab4 rfl rfl)
     | (refine go (by omega) (by omega) _ _ ?_ rfl; simp (disch := omega) only [go_sem, simprocAttr, Sl, ht, and_self, ab6])
  ·have : i = l.length := by omega
   subst this
   have he : ris n.sets.length l = true := by rw [hr]; simp [risF]
   rw [he]
   repeat' first | (simp (disch := first | omega | assumption) only [go_sem, simprocAttr, *]) | refine aa2 (fun hb=>?_) fun hb=>?_ | refine aa3 (fun hb=>?_) fun hb=>?_
   all_goals (try simp only [FX] at *)
   all_goals first | omega | exact ab4 rfl rfl
end
def bs1 (n : NF) (i : Nat) : Bool :=
 match n.rules[i]?, n.follow[i]? with
 | some r, some l => decide (0 ≤ r) && (decide (r ≤ 39) && ris n.sets.length l)
 | _, _ => false
def mayB (n : NF) : Bool :=
 decide (n.sets.length ≤ 2000 ∧ n.rules.length = n.sets.length ∧ n.follow.length = n.sets.length ∧ n.ends.length = n.sets.length ∧ -1 ≤ n.m ∧ n.m ≤ 39 ∧ ris n.sets.length n.first = true) && (List.range n.sets.length).all (bs1 n)
theorem cq5 {n : NF} (h : ¬ (n.sets.length ≤ 2000 ∧ n.rules.length = n.sets.length ∧ n.follow.length = n.sets.length ∧ n.ends.length = n.sets.length ∧ -1 ≤ n.m ∧ n.m ≤ 39 ∧ ris n.sets.length n.first = true)) : mayB n = false := by
 unfold mayB; rw [decide_eq_false h]; rfl
theorem ee0 {n : NF} {i : Nat} (hi : i < n.sets.length) (h : bs1 n i = false) : mayB n = false := by
 unfold mayB
 have : (List.range n.sets.length).all (bs1 n) = false := by
  rw [Bool.eq_false_iff]
  intro ha
  have := List.all_eq_true.1 ha i (by simpa using hi)
  rw [h] at this
  simp at this
 rw [this, Bool.and_false]
theorem dl1 {n : NF} (h : n.sets.length ≤ 2000 ∧ n.rules.length = n.sets.length ∧ n.follow.length = n.sets.length ∧ n.ends.length = n.sets.length ∧ -1 ≤ n.m ∧ n.m ≤ 39 ∧ ris n.sets.length n.first = true) (g : ∀ j, j < n.sets.length → bs1 n j = true) : mayB n = true := by
 unfold mayB
 rw [decide_eq_true h, Bool.true_and]
 exact List.all_eq_true.2 fun j hj => g j (by simpa using hj)
section
variable {E : Env} [R : NfaR E]
theorem cm6 (n : NF) (x : EV) (l : List Int) (hx : ai9 x l) (H : Heap) : den E R.am1 [n.E, x] H = some (.ret (.bool (ris n.sets.length l)), H) := by
 have k := n.k
 have lx := hx.lenI
 have lle := hx.leI
 obtain ⟨o0, o1, o2, o3, o4⟩ := n.one
 refine ah2 R.az5 (by simp) ?_
 unfold Gn.al0 Gn.ai3 NF.E
 unfold EV.one at o0 o1 o2 o3 o4
 simp (disch := omega) only [go_sem, simprocAttr, *]
 refine ad5 (ι := Nat × Int) (fun i => i.1 ≤ l.length ∧ -1 ≤ i.2 ∧ ris n.sets.length l = risF n.sets.length i.2 (l.drop i.1)) (fun i => l.length - i.1)
  (fun i => [(1, x), (2, .ptr H.length 6 0 0), (5, .int .i64 i.2), (6, .int .i64 i.1)]) (fun _ => H ++ [some (.row 6 [.agg [n.x0, n.x1, n.x2, n.x3, n.x4, .int .i64 n.m]])]) (0, -1) ⟨by omega, by simp, rfl⟩ ?_ rfl ?_
 ·simp (disch := omega) only [go_sem, simprocAttr, Sl]
 ·rintro ⟨i, a⟩ t ⟨hi, ha, hr⟩ ht K hK
  simp only at hi ha hr
  simp (disch := omega) only [go_sem, simprocAttr, Sl] at ht
  by_cases hlt : i < l.length
  ·obtain ⟨v, hv⟩ := ab5 hlt
   have hat := hx.at hv
   rw [ax1 hv] at hr
   have go : a < v → v < n.sets.length → _ := fun h1 h2 s' H' => hK (i + 1, v) s' H' ⟨by omega, by omega, by rw [hr]; simp [risF, h1, h2]⟩ (by omega)
   have stop : ¬ (a < v ∧ v < n.sets.length) → ris n.sets.length l = false := fun h => by
    rw [hr]
    simp only [risF, Bool.and_eq_false_iff, decide_eq_false_iff_not]
    by_cases h1 : a < v
    ·exact .inr (.inl fun h2 => h ⟨h1, h2⟩)
    ·exact .inl h1
   clear hr
   repeat' first | (simp (disch := first | omega | assumption) only [go_sem, simprocAttr, *]) | refine aa2 (fun hb=>?_) fun hb=>?_ | refine aa3 (fun hb=>?_) fun hb=>?_
   all_goals (try simp only [FX] at *)
   all_goals first
    | omega
    | (rw [stop (by omega)]; exact ab4 rfl rfl)
    | (refine go (by omega) (by omega) _ _ ?_ rfl; simp (disch := omega) only [go_sem, simprocAttr, Sl, ht, and_self, ab6])
  ·have : i = l.length := by omega
   subst this
   have he : ris n.sets.length l = true := by rw [hr]; simp [risF]
   rw [he]
   repeat' first | (simp (disch := first | omega | assumption) only [go_sem, simprocAttr, *]) | refine aa2 (fun hb=>?_) fun hb=>?_ | refine aa3 (fun hb=>?_) fun hb=>?_
   all_goals (try simp only [FX] at *)
   all_goals first | omega | exact ab4 rfl rfl
theorem ch3 (n : NF) (H : Heap) : den E R.bd0 [n.E] H = some (.ret (.bool (mayB n)), H) := by
 have h0 := fun H => cp7 (E := E) n n.x2 n.first n.h2 H
 obtain ⟨o0, o1, o2, o3, o4⟩ := n.one
 have k0 := n.k
 have k1 := n.k1
 have k3 := n.k3
 have k4 := n.k4
 refine ah2 R.da0 (by simp) ?_
 unfold Gn.ch0 Gn.bn7
 unfold NF.E at h0 ⊢
 unfold EV.one at o0 o1 o2 o3 o4
 cases hr : ris n.sets.length n.first with
 | false =>
  rw [cq5 (fun h => by rw [hr] at h; exact absurd h.2.2.2.2.2.2 (by simp)), ]
  rw [hr] at h0
  clear hr
  repeat' first | (simp (disch := first | omega | assumption) only [go_sem, simprocAttr, *]) | refine aa2 (fun hb=>?_) fun hb=>?_ | refine aa3 (fun hb=>?_) fun hb=>?_
  all_goals (try simp only [FX] at *)
  all_goals first | omega | exact ab4 rfl rfl
 | true =>
  rw [hr] at h0
  by_cases hb : n.sets.length ≤ 2000 ∧ n.rules.length = n.sets.length ∧ n.follow.length = n.sets.length ∧ n.ends.length = n.sets.length ∧ -1 ≤ n.m ∧ n.m ≤ 39
  ·obtain ⟨b1, b2, b3, b4, b5, b6⟩ := hb
   have hall : (∀ j, j < n.sets.length → bs1 n j = true) → mayB n = true := fun g => dl1 ⟨b1, b2, b3, b4, b5, b6, hr⟩ g
   clear hr
   repeat' first | (simp (disch := first | omega | assumption) only [go_sem, simprocAttr, *]) | refine aa2 (fun hb=>?_) fun hb=>?_ | refine aa3 (fun hb=>?_) fun hb=>?_
   all_goals (try simp only [FX] at *)
   all_goals first | omega | (exact absurd trivial (by assumption)) | skip
   refine ad5 (ι := Nat) (fun i => i ≤ n.sets.length ∧ ∀ j, j < i → bs1 n j = true) (fun i => n.sets.length - i) (fun i => [(1, .ptr H.length 6 0 0), (48, .int .i64 n.sets.length), (49, .int .i64 i)]) (fun _ => H ++ [some (.row 6 [.agg [n.x0, n.x1, n.x2, n.x3, n.x4, .int .i64 n.m]])]) 0 ⟨by omega, by omega⟩ ?_ rfl ?_
   ·simp (disch := omega) only [go_sem, simprocAttr, Sl]
   ·rintro i t ⟨hi, hdone⟩ ht K hK
    simp (disch := omega) only [go_sem, simprocAttr, Sl] at ht
    by_cases hlt : i < n.sets.length
    ·obtain ⟨r, hr⟩ := ab5 (l := n.rules) (i := i) (by omega)
     obtain ⟨l, hl⟩ := ab5 (l := n.follow) (i := i) (by omega)
     obtain ⟨y, hy, hyv, hye⟩ := n.fol hl
     have hre := n.h1.at hr
     have hc := fun H => cp7 (E := E) n y l hyv H
     unfold NF.E at hc
     have hok : bs1 n i = (decide (0 ≤ r) && (decide (r ≤ 39) && ris n.sets.length l)) := by unfold bs1; rw [hr, hl]
     have go : bs1 n i = true → _ := fun h s' H' => hK (i + 1) s' H' ⟨by omega, fun j hj => by
      rcases Nat.lt_or_ge j i with h' | h'
      ·exact hdone j h'
      ·obtain rfl : j = i := by omega
       exact h⟩ (by omega)
     have stop := fun h => ee0 (n := n) hlt h
     rw [hok] at go stop
     clear hok hall hdone hK
     cases hrl : ris n.sets.length l with
     | true =>
      rw [hrl] at hc go stop
      repeat' first | (simp (disch := first | omega | assumption) only [go_sem, simprocAttr, *]) | refine aa2 (fun hb=>?_) fun hb=>?_ | refine aa3 (fun hb=>?_) fun hb=>?_
      all_goals (try simp only [FX] at *)
      all_goals first
       | omega
       | (rw [stop (by rw [Bool.and_eq_false_iff]; simp; omega)]; exact ab4 rfl rfl)
       | (refine go (by simp; omega) _ _ ?_ rfl; simp (disch := omega) only [go_sem, simprocAttr, Sl, ht, and_self, ab6])
     | false =>
      rw [hrl] at hc go stop
      repeat' first | (simp (disch := first | omega | assumption) only [go_sem, simprocAttr, *]) | refine aa2 (fun hb=>?_) fun hb=>?_ | refine aa3 (fun hb=>?_) fun hb=>?_
      all_goals (try simp only [FX] at *)
      all_goals first
       | omega
       | (rw [stop (by simp)]; exact ab4 rfl rfl)
    ·have : i = n.sets.length := by omega
     subst this
     rw [hall hdone]
     clear hall hdone
     repeat' first | (simp (disch := first | omega | assumption) only [go_sem, simprocAttr, *]) | refine aa2 (fun hb=>?_) fun hb=>?_ | refine aa3 (fun hb=>?_) fun hb=>?_
     all_goals (try simp only [FX] at *)
     all_goals first | omega | exact ab4 rfl rfl
  ·rw [cq5 (fun h => hb ⟨h.1, h.2.1, h.2.2.1, h.2.2.2.1, h.2.2.2.2.1, h.2.2.2.2.2.1⟩)]
   clear hr
   repeat' first | (simp (disch := first | omega | assumption) only [go_sem, simprocAttr, *]) | refine aa2 (fun hb=>?_) fun hb=>?_ | refine aa3 (fun hb=>?_) fun hb=>?_
   all_goals (try simp only [FX] at *)
   all_goals first | omega | exact ab4 rfl rfl
theorem dp7 (n : NF) (H : Heap) : den E R.ar6 [n.E] H = some (.ret (.bool (mayB n)), H) := by
 have h0 := fun H => cm6 (E := E) n n.x2 n.first n.h2 H
 obtain ⟨o0, o1, o2, o3, o4⟩ := n.one
 have k0 := n.k
 have k1 := n.k1
 have k3 := n.k3
 have k4 := n.k4
 refine ah2 R.bj3 (by simp) ?_
 unfold Gn.ar1 Gn.an1
 unfold NF.E at h0 ⊢
 unfold EV.one at o0 o1 o2 o3 o4
 cases hr : ris n.sets.length n.first with
 | false =>
  rw [cq5 (fun h => by rw [hr] at h; exact absurd h.2.2.2.2.2.2 (by simp)), ]
  rw [hr] at h0
  clear hr
  repeat' first | (simp (disch := first | omega | assumption) only [go_sem, simprocAttr, *]) | refine aa2 (fun hb=>?_) fun hb=>?_ | refine aa3 (fun hb=>?_) fun hb=>?_
  all_goals (try simp only [FX] at *)
  all_goals first | omega | exact ab4 rfl rfl
 | true =>
  rw [hr] at h0
  by_cases hb : n.sets.length ≤ 2000 ∧ n.rules.length = n.sets.length ∧ n.follow.length = n.sets.length ∧ n.ends.length = n.sets.length ∧ -1 ≤ n.m ∧ n.m ≤ 39
  ·obtain ⟨b1, b2, b3, b4, b5, b6⟩ := hb
   have hall : (∀ j, j < n.sets.length → bs1 n j = true) → mayB n = true := fun g => dl1 ⟨b1, b2, b3, b4, b5, b6, hr⟩ g
   clear hr
   repeat' first | (simp (disch := first | omega | assumption) only [go_sem, simprocAttr, *]) | refine aa2 (fun hb=>?_) fun hb=>?_ | refine aa3 (fun hb=>?_) fun hb=>?_
   all_goals (try simp only [FX] at *)
   all_goals first | omega | (exact absurd trivial (by assumption)) | skip
   refine ad5 (ι := Nat) (fun i => i ≤ n.sets.length ∧ ∀ j, j < i → bs1 n j = true) (fun i => n.sets.length - i) (fun i => [(1, .ptr H.length 6 0 0), (3, .int .i64 n.sets.length), (4, .int .i64 i)]) (fun _ => H ++ [some (.row 6 [.agg [n.x0, n.x1, n.x2, n.x3, n.x4, .int .i64 n.m]])]) 0 ⟨by omega, by omega⟩ ?_ rfl ?_
   ·simp (disch := omega) only [go_sem, simprocAttr, Sl]
   ·rintro i t ⟨hi, hdone⟩ ht K hK
    simp (disch := omega) only [go_sem, simprocAttr, Sl] at ht
    by_cases hlt : i < n.sets.length
    ·obtain ⟨r, hr⟩ := ab5 (l := n.rules) (i := i) (by omega)
     obtain ⟨l, hl⟩ := ab5 (l := n.follow) (i := i) (by omega)
     obtain ⟨y, hy, hyv, hye⟩ := n.fol hl
     have hre := n.h1.at hr
     have hc := fun H => cm6 (E := E) n y l hyv H
     unfold NF.E at hc
     have hok : bs1 n i = (decide (0 ≤ r) && (decide (r ≤ 39) && ris n.sets.length l)) := by unfold bs1; rw [hr, hl]
     have go : bs1 n i = true → _ := fun h s' H' => hK (i + 1) s' H' ⟨by omega, fun j hj => by
      rcases Nat.lt_or_ge j i with h' | h'
      ·exact hdone j h'
      ·obtain rfl : j = i := by omega
       exact h⟩ (by omega)
     have stop := fun h => ee0 (n := n) hlt h
     rw [hok] at go stop
     clear hok hall hdone hK
     cases hrl : ris n.sets.length l with
     | true =>
      rw [hrl] at hc go stop
      repeat' first | (simp (disch := first | omega | assumption) only [go_sem, simprocAttr, *]) | refine aa2 (fun hb=>?_) fun hb=>?_ | refine aa3 (fun hb=>?_) fun hb=>?_
      all_goals (try simp only [FX] at *)
      all_goals first
       | omega
       | (rw [stop (by rw [Bool.and_eq_false_iff]; simp; omega)]; exact ab4 rfl rfl)
       | (refine go (by simp; omega) _ _ ?_ rfl; simp (disch := omega) only [go_sem, simprocAttr, Sl, ht, and_self, ab6])
     | false =>
      rw [hrl] at hc go stop
      repeat' first | (simp (disch := first | omega | assumption) only [go_sem, simprocAttr, *]) | refine aa2 (fun hb=>?_) fun hb=>?_ | refine aa3 (fun hb=>?_) fun hb=>?_
      all_goals (try simp only [FX] at *)
      all_goals first
       | omega
       | (rw [stop (by simp)]; exact ab4 rfl rfl)
    ·have : i = n.sets.length := by omega
     subst this
     rw [hall hdone]
     clear hall hdone
     repeat' first | (simp (disch := first | omega | assumption) only [go_sem, simprocAttr, *]) | refine aa2 (fun hb=>?_) fun hb=>?_ | refine aa3 (fun hb=>?_) fun hb=>?_
     all_goals (try simp only [FX] at *)
     all_goals first | omega | exact ab4 rfl rfl
  ·rw [cq5 (fun h => hb ⟨h.1, h.2.1, h.2.2.1, h.2.2.2.1, h.2.2.2.2.1, h.2.2.2.2.2.1⟩)]
   clear hr
   repeat' first | (simp (disch := first | omega | assumption) only [go_sem, simprocAttr, *]) | refine aa2 (fun hb=>?_) fun hb=>?_ | refine aa3 (fun hb=>?_) fun hb=>?_
   all_goals (try simp only [FX] at *)
   all_goals first | omega | exact ab4 rfl rfl
end
def idxI (p : Int → Bool) : List Int → Int → Int
 | [], _ => -1
 | v :: l, i => if p v then i else idxI p l (i + 1)
section
variable {E : Env} [R : NfaR E]
def en5 (E : Env) (f : EV) (p : Int → Bool) (l : List Int) (H : Heap) : Prop := ∀ v ∈ l, el4 E f [.int .i64 v] H = some (.ret (.bool (p v)), H)
theorem cr1 (f : EV) (p : Int → Bool) (b : Nat) (l : List Int) (H : Heap) (hb : H[b]? = some (some (.row 1 (ab3 l)))) (hf : en5 E f p l H) (hl : l.length ≤ 9223372036854775806) :
  den E R.ab8 [.own b 1 0 l.length, f] H = some (.ret (.int .i64 (idxI p l 0)), H) := by
 refine ah2 R.ae5 (by simp) ?_
 unfold Gn.ac7 Gn.ac5
 simp (disch := omega) only [go_sem, simprocAttr, *]
 refine ad5 (ι := Nat) (fun i => i ≤ l.length ∧ idxI p l 0 = idxI p (l.drop i) i) (fun i => l.length - i) (fun i => [(0, .own b 1 0 l.length), (1, f), (7, .int .i64 l.length), (8, .int .i64 i)]) (fun _ => H) 0 ⟨by omega, rfl⟩ ?_ rfl ?_
 ·simp (disch := omega) only [go_sem, simprocAttr, Sl]
 ·rintro i t ⟨hi, hr⟩ ht K hK
  simp (disch := omega) only [go_sem, simprocAttr, Sl] at ht
  by_cases hlt : i < l.length
  ·obtain ⟨v, hv⟩ := ab5 hlt
   have hg := ay3 hv
   have hc := hf v (List.mem_of_getElem? hv)
   have hlen := ad0 l
   rw [ax1 hv] at hr
   simp only [idxI] at hr
   have go : p v = false → _ := fun h s' H' => hK (i + 1) s' H' ⟨by omega, by rw [hr, if_neg (by simp [h])]; rfl⟩ (by omega)
   cases hp : p v with
   | true =>
    rw [hp] at hc hr
    rw [if_pos rfl] at hr
    rw [hr]
    clear go hK hf hr
    repeat' first | (simp (disch := first | omega | assumption) only [go_sem, simprocAttr, *]) | refine aa2 (fun hb=>?_) fun hb=>?_ | refine aa3 (fun hb=>?_) fun hb=>?_
    all_goals (try simp only [FX] at *)
    all_goals first | omega | exact af3 rfl rfl
   | false =>
    rw [hp] at hc
    replace go := go hp
    clear hK hf hr
    repeat' first | (simp (disch := first | omega | assumption) only [go_sem, simprocAttr, *]) | refine aa2 (fun hb=>?_) fun hb=>?_ | refine aa3 (fun hb=>?_) fun hb=>?_
    all_goals (try simp only [FX] at *)
    all_goals first
     | omega
     | (refine go _ _ ?_ rfl; simp (disch := omega) only [go_sem, simprocAttr, Sl, ht, and_self, ab6])
  ·have : i = l.length := by omega
   subst this
   have he : idxI p l 0 = -1 := by rw [hr]; simp [idxI]
   rw [he]
   clear hK hf hr
   repeat' first | (simp (disch := first | omega | assumption) only [go_sem, simprocAttr, *]) | refine aa2 (fun hb=>?_) fun hb=>?_ | refine aa3 (fun hb=>?_) fun hb=>?_
   all_goals (try simp only [FX] at *)
   all_goals first | omega | exact af3 rfl rfl
theorem bw0 {p : Int → Bool} : ∀ {l : List Int} {i : Int}, (idxI p l i = -1 ∧ 0 ≤ i → l.filter (fun v => !p v) = l) ∧ (0 ≤ i → idxI p l i ≠ -1 → ∃ k : Nat, k < l.length ∧ idxI p l i = i + k ∧ (l.take (k + 1)).filter (fun v => !p v) = l.take k)
 | [], i => ⟨fun _ => rfl, fun _ h => absurd rfl h⟩
 | v :: l, i => by
  have ih := bw0 (p := p) (l := l) (i := i + 1)
  by_cases hp : p v = true
  ·refine ⟨fun h => ?_, fun h0 _ => ⟨0, by simp, by simp [idxI, hp], by simp [hp]⟩⟩
   simp only [idxI, hp, if_true] at h
   omega
  ·have hp' : p v = false := by simpa using hp
   have e : idxI p (v :: l) i = idxI p l (i + 1) := by simp [idxI, hp']
   refine ⟨fun h => ?_, fun h0 hne => ?_⟩
   ·rw [e] at h
    rw [List.filter_cons, hp', ih.1 ⟨h.1, by omega⟩]; rfl
   ·rw [e] at hne ⊢
    obtain ⟨k, h1, h2, h3⟩ := ih.2 (by omega) hne
    refine ⟨k + 1, by simp; omega, by rw [h2]; push_cast; omega, ?_⟩
    rw [List.take_succ_cons, List.filter_cons, hp', h3]; rfl
theorem bw3 {q : Int → Bool} {l : List Int} {j : Nat} {v : Int} (hv : l[j]? = some v) : (l.take (j + 1)).filter q = (l.take j).filter q ++ (if q v then [v] else []) := by
 obtain ⟨hj, e⟩ := List.getElem?_eq_some_iff.1 hv
 rw [List.take_add_one, hv, List.filter_append]
 simp [List.filter_cons]
theorem cr5 {q : Int → Bool} {l : List Int} {j : Nat} (hj : j ≤ l.length) : ((l.take j).filter q).length ≤ j := by
 have := List.length_filter_le q (l.take j)
 rw [List.length_take] at this
 omega
def rowK (q : Int → Bool) (l : List Int) (j : Nat) : List Int := (l.take j).filter q ++ l.drop ((l.take j).filter q).length
theorem dj3 {q : Int → Bool} {l : List Int} {j : Nat} (hj : j ≤ l.length) : (rowK q l j).length = l.length := by
 have := cr5 (q := q) hj
 unfold rowK; simp; omega
theorem eq3 {q : Int → Bool} {l : List Int} {j : Nat} {v : Int} (hv : l[j]? = some v) : (rowK q l j)[j]? = some v := by
 have hj := (List.getElem?_eq_some_iff.1 hv).1
 have := cr5 (q := q) (l := l) (j := j) (by omega)
 unfold rowK
 rw [List.getElem?_append_right this, List.getElem?_drop]
 rw [show ((l.take j).filter q).length + (j - ((l.take j).filter q).length) = j by omega]
 exact hv
theorem dz5 {q : Int → Bool} {l : List Int} {j : Nat} {v : Int} (hv : l[j]? = some v) (hq : q v = true) : (rowK q l j).set ((l.take j).filter q).length v = rowK q l (j + 1) := by
 have hj := (List.getElem?_eq_some_iff.1 hv).1
 have hle := cr5 (q := q) (l := l) (j := j) (by omega)
 unfold rowK
 rw [bw3 hv, hq]
 simp only [if_true, List.length_append, List.length_cons, List.length_nil]
 rw [List.set_append_right _ _ (Nat.le_refl _), Nat.sub_self]
 obtain ⟨w, hw⟩ := ab5 (l := l) (i := ((l.take j).filter q).length) (by omega)
 rw [ax1 hw, List.set_cons_zero]
 simp
theorem dz6 {q : Int → Bool} {l : List Int} {j : Nat} {v : Int} (hv : l[j]? = some v) (hq : q v = false) : rowK q l j = rowK q l (j + 1) := by
 unfold rowK
 rw [bw3 hv, hq]
 simp
def rowD (q : Int → Bool) (l : List Int) : List Int := l.filter q ++ List.replicate (l.length - (l.filter q).length) 0
theorem bv9 (a b : List Int) : ab3 (a ++ b) = ab3 a ++ ab3 b := by simp [ab3]
theorem ef4 (n : Nat) : ab3 (List.replicate n 0) = List.replicate n (EV.int .i64 0) := by simp [ab3]
theorem ck3 (f : EV) (p : Int → Bool) (b : Nat) (l : List Int) (H : Heap) (hb : H[b]? = some (some (.row 1 (ab3 l)))) (hf : ∀ r, en5 E f p l (H.set b (some (.row 1 r)))) (hl : l.length ≤ 9223372036854775806) :
  den E R.ae4 [.own b 1 0 l.length, f] H = some (.ret (.own b 1 0 (l.filter fun v => !p v).length), H.set b (some (.row 1 (ab3 (if idxI p l 0 = -1 then l else rowD (fun v => !p v) l))))) := by
 have hbl := (List.getElem?_eq_some_iff.1 hb).1
 have hself : H.set b (some (.row 1 (ab3 l))) = H := by
  apply List.ext_getElem?
  intro k
  by_cases hk : b = k
  ·subst hk; rw [List.getElem?_set_self hbl, hb]
  ·rw [List.getElem?_set_ne hk]
 have hf0 : en5 E f p l H := by have := hf (ab3 l); rwa [hself] at this
 have hx := cr1 (E := E) f p b l H hb hf0 hl
 refine ah2 R.ai6 (by simp) ?_
 unfold Gn.ad7 Gn.ad3
 by_cases hi : idxI p l 0 = -1
 ·rw [if_pos hi, hself, (bw0 (p := p) (l := l) (i := 0)).1 ⟨hi, by omega⟩]
  rw [hi] at hx
  clear hf hf0
  repeat' first | (simp (disch := first | omega | assumption) only [go_sem, simprocAttr, *]) | refine aa2 (fun hb=>?_) fun hb=>?_ | refine aa3 (fun hb=>?_) fun hb=>?_
  exact af3 (by simp [EV.ok]; exact hbl) rfl
 ·rw [if_neg hi]
  obtain ⟨k, hk, hik, htk⟩ := (bw0 (p := p) (l := l) (i := 0)).2 (by omega) hi
  rw [hik] at hx
  have hx' : den E R.ab8 [.own b 1 0 l.length, f] H = some (.ret (.int .i64 k), H) := by rw [hx]; simp
  clear hx
  let q : Int → Bool := fun v => !p v
  let hp : Nat → Heap := fun j => H.set b (some (.row 1 (ab3 (rowK q l j))))
  have hrow0 : hp (k + 1) = H := by
   have : rowK q l (k + 1) = l := by
    unfold rowK
    rw [show (l.take (k + 1)).filter q = l.take k from htk]
    simp [Nat.min_eq_left (Nat.le_of_lt hk)]
   show H.set b (some (.row 1 (ab3 (rowK q l (k + 1))))) = H
   rw [this]; exact hself
  have hkn : ((k : Int) == -1) = false := by rw [beq_eq_false_iff_ne]; omega
  simp (disch := omega) only [go_sem, simprocAttr, hx', hkn]
  refine ad5 (ι := Nat) (fun j => k + 1 ≤ j ∧ j ≤ l.length) (fun j => l.length - j) (fun j => [(0, .own b 1 0 l.length), (1, f), (5, .int .i64 ((l.take j).filter q).length), (6, .int .i64 j)]) hp (k + 1) ⟨by omega, by omega⟩ ?_ hrow0.symm ?_
  ·have hk0 : ((l.take (k + 1)).filter q).length = k := by rw [show (l.take (k + 1)).filter q = l.take k from htk]; simp; omega
   simp (disch := omega) only [go_sem, simprocAttr, Sl, hk0, ab6]
  ·rintro j t ⟨hj1, hj2⟩ ht K hK
   simp (disch := omega) only [go_sem, simprocAttr, Sl] at ht
   have hle := cr5 (q := q) hj2
   have hlen : (ab3 (rowK q l j)).length = l.length := by rw [ad0, dj3 hj2]
   have hgb : (H.set b (some (EB.row 1 (ab3 (rowK q l j)))))[b]? = some (some (.row 1 (ab3 (rowK q l j)))) := List.getElem?_set_self hbl
   by_cases hlt : j < l.length
   ·obtain ⟨v, hv⟩ := ab5 hlt
    have hg := ay3 (eq3 (q := q) hv)
    have hc := hf (ab3 (rowK q l j)) v (List.mem_of_getElem? hv)
    clear hf hf0 hx'
    cases hpv : p v with
    | true =>
     have hqv : q v = false := by simp [q, hpv]
     have hs := bw3 (q := q) hv
     rw [hqv] at hs
     simp only [Bool.false_eq_true, if_false, List.append_nil] at hs
     have hk' := hK (j + 1)
     rw [hs, show hp (j + 1) = hp j by show H.set b _ = H.set b _; rw [dz6 hv hqv]] at hk'
     rw [hpv] at hc
     clear hs hqv hpv
     show @Hd E ⟨_⟩ ⟨_⟩ ⟨H.set b (some (.row 1 (ab3 (rowK q l j))))⟩ ⟨_⟩
     repeat' first | (simp (disch := first | omega | assumption) only [go_sem, simprocAttr, *]) | refine aa2 (fun hb=>?_) fun hb=>?_ | refine aa3 (fun hb=>?_) fun hb=>?_
     all_goals (try simp only [FX] at *)
     all_goals first
      | omega
      | skip
     refine hk' _ _ ⟨by omega, by omega⟩ (by omega) ?_ rfl
     simp (disch := omega) only [go_sem, simprocAttr, Sl, ht, and_self, ab6]
    | false =>
     have hqv : q v = true := by simp [q, hpv]
     have hs := bw3 (q := q) hv
     rw [hqv] at hs
     simp only [if_true] at hs
     have hlt2 : ((l.take j).filter q).length < (rowK q l j).length := by rw [dj3 hj2]; omega
     obtain ⟨w, hw⟩ := ab5 hlt2
     have hgw := ay3 hw
     have hst : (ab3 (rowK q l j)).set ((l.take j).filter q).length (.int .i64 v) = ab3 (rowK q l (j + 1)) := by
      rw [← dz5 hv hqv]
      unfold ab3
      rw [List.map_set]
     have hk' := hK (j + 1)
     rw [hs] at hk'
     simp only [List.length_append, List.length_cons, List.length_nil, Nat.zero_add] at hk'
     have hss : ∀ x y : Option EB, (H.set b x).set b y = H.set b y := fun x y => List.set_set ..
     rw [hpv] at hc
     clear hs hqv hpv
     show @Hd E ⟨_⟩ ⟨_⟩ ⟨H.set b (some (.row 1 (ab3 (rowK q l j))))⟩ ⟨_⟩
     repeat' first | (simp (disch := first | omega | assumption) only [go_sem, simprocAttr, *]) | refine aa2 (fun hb=>?_) fun hb=>?_ | refine aa3 (fun hb=>?_) fun hb=>?_
     all_goals (try simp only [FX] at *)
     all_goals first
      | omega
      | skip
     refine hk' _ _ ⟨by omega, by omega⟩ (by omega) ?_ rfl
     simp (disch := omega) only [go_sem, simprocAttr, Sl, ht, and_self, ab6]
   ·have hjl : j = l.length := by omega
    subst hjl
    have htl : (l.take l.length).filter q = l.filter q := by rw [List.take_length]
    rw [htl] at ht hle
    have hrd : (ab3 (rowK q l l.length)).take (l.filter q).length ++ List.replicate (l.length - (l.filter q).length) (EV.int .i64 0) ++ (ab3 (rowK q l l.length)).drop ((l.filter q).length + (l.length - (l.filter q).length)) = ab3 (rowD q l) := by
     unfold rowK rowD
     rw [htl, bv9, bv9, ef4]
     rw [List.take_append_of_le_length (by rw [ad0]; exact Nat.le_refl _), List.take_of_length_le (by rw [ad0]; exact Nat.le_refl _)]
     rw [List.drop_of_length_le (by rw [List.length_append, ad0, ad0, List.length_drop]; omega), List.append_nil]
    have hss : ∀ x y : Option EB, (H.set b x).set b y = H.set b y := fun x y => List.set_set ..
    have hcl : ci1 1 (.int .i64 0) (.own b 1 (l.filter q).length (l.length - (l.filter q).length)) (H.set b (some (EB.row 1 (ab3 (rowK q l l.length))))) = some (H.set b (some (.row 1 (ab3 (if (l.length - (l.filter q).length) = 0 then rowK q l l.length else rowD q l))))) := by
     unfold ci1
     by_cases hz : l.length - (l.filter q).length = 0
     ·simp only [if_pos hz]
     ·simp only [if_neg hz, hgb]
      rw [if_pos ⟨trivial, trivial, by rw [hlen]; omega⟩, hrd, hss]
    have hsame : (if (l.length - (l.filter q).length) = 0 then rowK q l l.length else rowD q l) = rowD q l := by
     split
     ·rename_i hz
      unfold rowK rowD
      rw [htl, hz]
      simp only [List.replicate_zero, List.append_nil]
      rw [List.drop_of_length_le (by omega), List.append_nil]
     ·rfl
    rw [hsame] at hcl
    have hfin : ∀ v, v.ok H.length = true → finV H v ER.ret (H.set b (some (.row 1 (ab3 (rowD q l))))) = some (.ret v, H.set b (some (.row 1 (ab3 (rowD q l))))) := fun v hv => by
     exact eg9 hv (by simp) rfl
    clear hf hf0 hx' hK hsame hrd hgb
    show @Hd E ⟨_⟩ ⟨_⟩ ⟨H.set b (some (.row 1 (ab3 (rowK q l l.length))))⟩ ⟨_⟩
    repeat' first | (simp (disch := first | omega | assumption) only [go_sem, simprocAttr, *]) | refine aa2 (fun hb=>?_) fun hb=>?_ | refine aa3 (fun hb=>?_) fun hb=>?_
    all_goals (try simp only [FX] at *)
    all_goals first
     | omega
     | exact hfin _ (by simp [EV.ok]; exact hbl)
end
theorem SlV.shape {sz : Nat} {x : EV} {es : List EV} (h : SlV sz x es) : (x = .nilsl ∧ es = []) ∨ (x = .zsl ∧ es = []) ∨ ∃ s, x = .imm s es := by
 have h1 := h.els []
 have h2 := h.len
 cases x <;> simp [elems, bd7] at h1 h2
 ·exact .inl ⟨rfl, h1⟩
 ·exact .inr (.inl ⟨rfl, h1⟩)
 ·exact .inr (.inr ⟨_, by rw [h1]⟩)
def ArgI (H : Heap) (x : EV) (l : List Int) : Prop := (x = .nilsl ∧ l = []) ∨ (x = .zsl ∧ l = []) ∨ (∃ s, x = .imm s (ab3 l)) ∨ ∃ b, x = .own b 1 0 l.length ∧ H[b]? = some (some (.row 1 (ab3 l)))
theorem ch6 {l : List Int} (h : ab3 l = []) : l = [] := by
 cases l with
 | nil => rfl
 | cons v r => simp [ab3] at h
theorem SlV.arg {x : EV} {l : List Int} (h : ai9 x l) (H : Heap) : ArgI H x l := by
 rcases h.shape with ⟨rfl, he⟩ | ⟨rfl, he⟩ | ⟨s, rfl⟩
 ·exact .inl ⟨rfl, ch6 he⟩
 ·exact .inr (.inl ⟨rfl, ch6 he⟩)
 ·exact .inr (.inr (.inl ⟨s, rfl⟩))
theorem ArgI.app {H G : Heap} {x : EV} {l : List Int} (h : ArgI H x l) : ArgI (H ++ G) x l := by
 rcases h with h | h | h | ⟨b, rfl, hb⟩
 ·exact .inl h
 ·exact .inr (.inl h)
 ·exact .inr (.inr (.inl h))
 ·exact .inr (.inr (.inr ⟨b, rfl, by rw [List.getElem?_append_left (List.getElem?_eq_some_iff.1 hb).1]; exact hb⟩))
theorem ArgI.els {H : Heap} {x : EV} {l : List Int} (h : ArgI H x l) : elems H x = some (ab3 l) := by
 rcases h with ⟨rfl, rfl⟩ | ⟨rfl, rfl⟩ | ⟨s, rfl⟩ | ⟨b, rfl, hb⟩
 ·rfl
 ·rfl
 ·rfl
 ·simp only [elems, hb]
  rw [if_pos ⟨trivial, by rw [ad0]; omega⟩, List.drop_zero, List.take_of_length_le (by rw [ad0]; exact Nat.le_refl _)]
def hasP (n : NF) (b : Nat) (p : Int) : Bool := ag6 (n.sets.getD p.toNat fun _ => 0) b
def InP (k : Nat) (l : List Int) : Prop := ∀ p ∈ l, 0 ≤ p ∧ p < k
theorem InP.ris {k : Nat} : ∀ {l : List Int} {a : Int}, -1 ≤ a → risF k a l = true → InP k l
 | [], _, _, _ => fun p hp => by simp at hp
 | x :: l, a, ha, h => by
  simp only [risF, Bool.and_eq_true, decide_eq_true_eq] at h
  intro p hp
  rcases List.mem_cons.1 hp with rfl | hp
  ·omega
  ·exact InP.ris (by omega) h.2.2 p hp
def bg0 (E : Env) (f : FuncId) (κ : IntKind) : Prop := ∀ (w : Nat → Nat) (b : Nat) (H : Heap), av8 w → b < 256 → den E f [setE w, .int κ b] H = some (.ret (.bool (ag6 w b)), H)
section
variable {E : Env} [R : NfaR E]
theorem ek9 (x : EV) (l : List Int) (H : Heap) (hx : ArgI H x l) (hl : l.length ≤ 1000000) : (l = [] ∧ ∃ y, den E R.ag7 [x] H = some (.ret y, H) ∧ (y = .nilsl ∨ y = .zsl)) ∨ (l ≠ [] ∧ den E R.ag7 [x] H = some (.ret (.own H.length 1 0 l.length), H ++ [some (.row 1 (ab3 l))])) := by
 have hels := hx.els
 have hall : (ab3 l).all (fun e => e.cells.length == 1 && e.cells.all EV.one) = true := by
  rw [List.all_eq_true]
  intro e he
  obtain ⟨v, _, rfl⟩ := List.mem_map.1 he
  rfl
 rcases hx with ⟨rfl, this⟩ | ⟨rfl, this⟩ | ⟨s, rfl⟩ | ⟨b, rfl, hb⟩
 ·refine .inl ⟨this, .nilsl, ?_, .inl rfl⟩
  refine bz3 R.ad8 (by simp) ?_
  unfold Gn.ac8 Gn.ac4
  repeat' first | (simp (disch := first | omega | assumption) only [go_sem, simprocAttr, *]) | refine aa2 (fun hb=>?_) fun hb=>?_ | refine aa3 (fun hb=>?_) fun hb=>?_
 ·refine .inl ⟨this, .zsl, ?_, .inr rfl⟩
  have hap : ad2 1 8 .zsl .zsl H = some (.zsl, H) := by unfold ad2; rw [hels, this]; simp [ab3]
  refine bz3 R.ad8 (by simp) ?_
  unfold Gn.ac8 Gn.ac4
  repeat' first | (simp (disch := first | omega | assumption) only [go_sem, simprocAttr, *]) | refine aa2 (fun hb=>?_) fun hb=>?_ | refine aa3 (fun hb=>?_) fun hb=>?_
 ·cases hl0 : l with
  | nil =>
   subst hl0
   refine .inl ⟨rfl, .zsl, ?_, .inr rfl⟩
   have hap : ad2 1 8 .zsl (.imm s (ab3 [])) H = some (.zsl, H) := by unfold ad2; rw [hels]; simp [ab3]
   refine bz3 R.ad8 (by simp) ?_
   unfold Gn.ac8 Gn.ac4
   repeat' first | (simp (disch := first | omega | assumption) only [go_sem, simprocAttr, *]) | refine aa2 (fun hb=>?_) fun hb=>?_ | refine aa3 (fun hb=>?_) fun hb=>?_
  | cons v r =>
   refine .inr ⟨by simp, ?_⟩
   rw [← hl0]
   have hne : ¬ (ab3 l).length = 0 := by rw [ad0, hl0]; simp
   have hap : ad2 1 8 .zsl (.imm s (ab3 l)) H = some (.own H.length 1 0 l.length, H ++ [some (.row 1 (ab3 l))]) := by
    unfold ad2
    rw [hels]
    simp only [hall, and_true]
    rw [if_pos (by omega), if_neg hne, ad0, if_pos ⟨by omega, by omega⟩]
   clear hl0 hne
   refine bz3 R.ad8 (by simp) ?_
   unfold Gn.ac8 Gn.ac4
   repeat' first | (simp (disch := first | omega | assumption) only [go_sem, simprocAttr, *]) | refine aa2 (fun hb=>?_) fun hb=>?_ | refine aa3 (fun hb=>?_) fun hb=>?_
 ·cases hl0 : l with
  | nil =>
   subst hl0
   refine .inl ⟨rfl, .zsl, ?_, .inr rfl⟩
   have hap : ad2 1 8 .zsl (.own b 1 0 0) H = some (.zsl, H) := by unfold ad2; rw [show elems H (.own b 1 0 0) = some (ab3 []) from hels]; simp [ab3]
   refine bz3 R.ad8 (by simp) ?_
   unfold Gn.ac8 Gn.ac4
   repeat' first | (simp (disch := first | omega | assumption) only [go_sem, simprocAttr, *]) | refine aa2 (fun hb=>?_) fun hb=>?_ | refine aa3 (fun hb=>?_) fun hb=>?_
  | cons v r =>
   refine .inr ⟨by simp, ?_⟩
   rw [← hl0]
   have hne : ¬ (ab3 l).length = 0 := by rw [ad0, hl0]; simp
   have hap : ad2 1 8 .zsl (.own b 1 0 l.length) H = some (.own H.length 1 0 l.length, H ++ [some (.row 1 (ab3 l))]) := by
    unfold ad2
    rw [hels]
    simp only [hall, and_true]
    rw [if_pos (by omega), if_neg hne, ad0, if_pos ⟨by omega, by omega⟩]
   clear hl0 hne
   refine bz3 R.ad8 (by simp) ?_
   unfold Gn.ac8 Gn.ac4
   repeat' first | (simp (disch := first | omega | assumption) only [go_sem, simprocAttr, *]) | refine aa2 (fun hb=>?_) fun hb=>?_ | refine aa3 (fun hb=>?_) fun hb=>?_
theorem db8 (hH : bg0 E R.ar4 .u8) (n : NF) (b : Nat) (hb : b < 256) (p : Int) (hp : 0 ≤ p ∧ p < n.sets.length) (i j : Nat) (H : Heap) (hi : H[i]? = some (some (.row 6 [n.E]))) (hj : H[j]? = some (some (.row 1 [.int .u8 b]))) :
  den E R.am7 [.int .i64 p, .ptr i 6 0 0, .ptr j 1 0 0] H = some (.ret (.bool (!hasP n b p)), H) := by
 obtain ⟨w, hw⟩ := ab5 (l := n.sets) (i := p.toNat) (by omega)
 have he : ar2 4 p n.x0 = some (.iptr (setE w).cells 0) := n.h0.elemI hp.1 (by rw [List.getElem?_map, hw]; rfl)
 have hc := hH w b H (n.hw w (List.mem_of_getElem? hw)) hb
 have hs : hasP n b p = ag6 w b := by unfold hasP; rw [List.getD, hw]; rfl
 rw [hs]
 refine ah2 R.bj1 (by simp) ?_
 unfold Gn.aq8 Gn.am6
 unfold NF.E at hi
 have he' : ar2 4 p n.x0 = some (.iptr (tab 4 fun i => .int .u64 ((w i : Nat) : Int)) 0) := he
 have hl4 : (tab 4 fun i => EV.int .u64 ((w i : Nat) : Int)).length = 4 := rfl
 have ht4 : List.take 4 (tab 4 fun i => EV.int .u64 ((w i : Nat) : Int)) = tab 4 fun i => EV.int .u64 ((w i : Nat) : Int) := rfl
 clear he
 unfold setE at hc
 obtain ⟨o0, o1, o2, o3, o4⟩ := n.one
 unfold EV.one at o0 o1 o2 o3 o4
 repeat' first | (simp (disch := first | omega | assumption) only [go_sem, simprocAttr, *]) | refine aa2 (fun hb=>?_) fun hb=>?_ | refine aa3 (fun hb=>?_) fun hb=>?_
 exact af3 rfl rfl
theorem di4 (hH : bg0 E R.ar4 .u8) (n : NF) (x : EV) (l : List Int) (H : Heap) (hx : ArgI H x l) (hl : l.length ≤ 1000000) (hin : InP n.sets.length l) (b : Nat) (hb : b < 256) :
  ∃ y, den E R.ap0 [n.E, x, .int .u8 b] H = some (.ret y, H) ∧ ai9 y (l.filter (hasP n b)) := by
 let H2 : Heap := H ++ [some (.row 6 [n.E]), some (.row 1 [.int .u8 b])]
 have hcl := ek9 (E := E) x l H2 hx.app hl
 obtain ⟨o0, o1, o2, o3, o4⟩ := n.one
 have hz : ∀ (y : EV), y = .nilsl ∨ y = .zsl → ∀ f H, den E R.ae4 [y, f] H = some (.ret y, H) := by
  intro y hy f H
  have h1 : den E R.ab8 [y, f] H = some (.ret (.int .i64 (-1)), H) := by
   refine ah2 R.ae5 (by simp) ?_
   unfold Gn.ac7 Gn.ac5
   rcases hy with rfl | rfl
   ·simp (disch := omega) only [go_sem, simprocAttr]
    refine do1 ?_
    repeat' first | (simp (disch := first | omega | assumption) only [go_sem, simprocAttr, *]) | refine aa2 (fun hb=>?_) fun hb=>?_ | refine aa3 (fun hb=>?_) fun hb=>?_
    exact af3 rfl rfl
   ·simp (disch := omega) only [go_sem, simprocAttr]
    refine do1 ?_
    repeat' first | (simp (disch := first | omega | assumption) only [go_sem, simprocAttr, *]) | refine aa2 (fun hb=>?_) fun hb=>?_ | refine aa3 (fun hb=>?_) fun hb=>?_
    exact af3 rfl rfl
  refine ah2 R.ai6 (by simp) ?_
  unfold Gn.ad7 Gn.ad3
  rcases hy with rfl | rfl
  ·repeat' first | (simp (disch := first | omega | assumption) only [go_sem, simprocAttr, *]) | refine aa2 (fun hb=>?_) fun hb=>?_ | refine aa3 (fun hb=>?_) fun hb=>?_
   exact af3 rfl rfl
  ·repeat' first | (simp (disch := first | omega | assumption) only [go_sem, simprocAttr, *]) | refine aa2 (fun hb=>?_) fun hb=>?_ | refine aa3 (fun hb=>?_) fun hb=>?_
   exact af3 rfl rfl
 rcases hcl with ⟨rfl, y, hcl, hy⟩ | ⟨hne, hcl⟩
 ·refine ⟨y, ?_, by rcases hy with rfl | rfl; exact .nil; exact .zsl⟩
  have hd := hz y hy
  have hyo : y.ok H.length = true := by rcases hy with rfl | rfl <;> rfl
  refine ah2 R.bg4 (by simp) ?_
  unfold Gn.at6 Gn.ao9
  simp only [H2] at hcl
  unfold NF.E at hcl ⊢
  unfold EV.one at o0 o1 o2 o3 o4
  clear hz
  repeat' first | (simp (disch := first | omega | assumption) only [go_sem, simprocAttr, *]) | refine aa2 (fun hb=>?_) fun hb=>?_ | refine aa3 (fun hb=>?_) fun hb=>?_
  exact ab4 hyo rfl
 ·let q : Int → Bool := hasP n b
  let H3 : Heap := H2 ++ [some (.row 1 (ab3 l))]
  have hb3 : H3[H.length + 2]? = some (some (.row 1 (ab3 l))) := by
   simp only [H3, H2]
   rw [List.getElem?_append_right (by simp)]
   simp
  have hdel := ck3 (E := E) (.func (.func R.am7) [] [.ptr H.length 6 0 0, .ptr (H.length + 1) 1 0 0]) (fun v => !q v) (H.length + 2) l H3 hb3 (fun r v hv => by
   have hset : H3.set (H.length + 2) (some (.row 1 r)) = H2 ++ [some (.row 1 r)] := by
    simp only [H3, H2]
    rw [List.set_append_right _ _ (by simp)]
    simp
   rw [hset]
   have := db8 (E := E) hH n b hb v (hin v hv) H.length (H.length + 1) (H2 ++ [some (.row 1 r)]) (by simp [H2]) (by simp [H2])
   simpa [el4] using this) (by omega)
  have hlen3 : H2.length = H.length + 2 := by simp [H2]
  have hnot : (fun v => !(fun v => !q v) v) = q := by funext v; simp
  rw [hnot] at hdel
  have hset : ∀ r, H3.set (H.length + 2) (some (.row 1 r)) = H2 ++ [some (.row 1 r)] := fun r => by
   simp only [H3]
   rw [List.set_append_right _ _ (by omega), hlen3]
   simp
  rw [hset] at hdel
  rw [hlen3] at hcl
  have hfr : ∃ es, (if idxI (fun v => !q v) l 0 = -1 then l else rowD q l) = es ∧ es.take (l.filter q).length = l.filter q ∧ (l.filter q).length ≤ es.length := by
   by_cases hi : idxI (fun v => !q v) l 0 = -1
   ·rw [if_pos hi]
    have := (bw0 (p := fun v => !q v) (l := l) (i := 0)).1 ⟨hi, by omega⟩
    rw [hnot] at this
    exact ⟨l, rfl, by rw [this]; simp, by rw [this]; exact Nat.le_refl _⟩
   ·rw [if_neg hi]
    exact ⟨_, rfl, by unfold rowD; simp, by unfold rowD; simp⟩
  obtain ⟨es, hes, htk, hle⟩ := hfr
  rw [hes] at hdel
  refine ⟨.imm 1 (ab3 (l.filter q)), ?_, dl4 (by have := List.length_filter_le q l; omega)⟩
  have hfin : finV H (.own (H.length + 2) 1 0 (l.filter q).length) ER.ret (H2 ++ [some (.row 1 (ab3 es))]) = some (.ret (.imm 1 (ab3 (l.filter q))), H) := by
   have hH2 : H2 ++ [some (EB.row 1 (ab3 es))] = H ++ [some (.row 6 [n.E]), some (.row 1 [.int .u8 b]), some (.row 1 (ab3 es))] := by simp [H2]
   rw [hH2]
   refine df7 rfl (v' := .imm 1 (ab3 (l.filter q))) ?_ rfl
   have := eg0 (L := H.length) (H := H ++ [some (.row 6 [n.E]), some (.row 1 [.int .u8 b]), some (.row 1 (ab3 es))]) (n := 7) (b := H.length + 2) (sz := 1) (off := 0) (len := (l.filter q).length) (es := ab3 es) (by omega) (by rw [List.getElem?_append_right (by omega)]; simp) (by rw [ad0]; omega) (bu3 _ _)
   rw [this]
   simp only [List.drop_zero]
   unfold ab3
   rw [← List.map_take, htk]
  simp only [H2, H3] at hcl hdel hfin
  simp only [List.append_assoc, List.cons_append, List.nil_append] at hcl hdel hfin
  clear hz hb3 hset hes htk
  refine ah2 R.bg4 (by simp) ?_
  unfold Gn.at6 Gn.ao9
  unfold NF.E at hcl hdel hfin ⊢
  unfold EV.one at o0 o1 o2 o3 o4
  repeat' first | (simp (disch := first | omega | assumption) only [go_sem, simprocAttr, *]) | refine aa2 (fun hb=>?_) fun hb=>?_ | refine aa3 (fun hb=>?_) fun hb=>?_
end
def OutE (d sz : Nat) (x : EV) (es : List EV) (G : Heap) : Prop := (x = .nilsl ∧ es = [] ∧ G = []) ∨ ∃ k, G = List.replicate k none ++ [some (.row sz es)] ∧ x = .own (k + d) sz 0 es.length ∧ es ≠ []
def slE (sz : Nat) (es : List EV) : EV := if es = [] then .nilsl else .imm sz es
theorem OutE.start {d sz : Nat} : OutE d sz .nilsl [] [] := .inl ⟨rfl, rfl, rfl⟩
theorem OutE.append {d sz : Nat} {x : EV} {es : List EV} {G : Heap} (h : OutE d sz x es G) (e : EV) (bytes : Nat) (P : Heap) (hP : P.length = d) (hs : 0 < sz) (he : e.cells.length = sz) (ho : e.cells.all EV.one = true) (hl : es.length ≤ 1000000) (hb : bytes ≤ 1000000) :
  ∃ x' G', ad2 sz bytes x (.imm sz [e]) (P ++ G) = some (x', P ++ G') ∧ OutE d sz x' (es ++ [e]) G' := by
 have hall : ([e].all fun e => e.cells.length == sz && e.cells.all EV.one) = true := by simp only [List.all_cons, List.all_nil, Bool.and_true, he, beq_self_eq_true, Bool.true_and]; exact ho
 have hbb : (es.length + 1) * bytes ≤ 140737488355328 := by
  have : (es.length + 1) * bytes ≤ 1000001 * 1000000 := Nat.mul_le_mul (by omega) hb
  omega
 rcases h with ⟨rfl, rfl, rfl⟩ | ⟨k, rfl, rfl, hne⟩
 ·refine ⟨.own d sz 0 1, [some (.row sz [e])], ?_, .inr ⟨0, rfl, by simp, by simp⟩⟩
  unfold ad2
  simp only [elems]
  rw [if_pos ⟨hs, hall⟩]
  simp only [List.length_cons, List.length_nil, Nat.zero_add, List.append_nil]
  rw [if_neg (by omega), if_pos ⟨by omega, by simpa using hbb⟩, hP]
 ·refine ⟨.own (k + 1 + d) sz 0 (es.length + 1), List.replicate (k + 1) none ++ [some (.row sz (es ++ [e]))], ?_, .inr ⟨k + 1, rfl, by simp, by simp⟩⟩
  have hg : (P ++ (List.replicate k (none : Option EB) ++ [some (EB.row sz es)]))[k + d]? = some (some (.row sz es)) := by
   rw [List.getElem?_append_right (by omega), hP, Nat.add_sub_cancel]; simp
  have hst : (P ++ (List.replicate k (none : Option EB) ++ [some (EB.row sz es)])).set (k + d) none = P ++ List.replicate (k + 1) none := by
   rw [List.set_append_right _ _ (by omega), hP, Nat.add_sub_cancel, List.set_append_right _ _ (by simp)]
   simp [List.replicate_succ']
  unfold ad2
  simp only [elems]
  rw [if_pos ⟨hs, hall⟩]
  simp only [hg]
  rw [if_pos ⟨trivial, trivial, trivial, Nat.le_refl _, by simp; omega, by simpa using hbb⟩, hst]
  simp [hP]
  omega
theorem OutE.fin {d sz : Nat} {x : EV} {es : List EV} {G : Heap} (h : OutE d sz x es G) (H P : Heap) (hP : P.length = d) (hL : ∃ G', P = H ++ G') (ho : okL H.length es = true) : finV H x ER.ret (P ++ G) = some (.ret (slE sz es), H) := by
 obtain ⟨G', rfl⟩ := hL
 rw [List.append_assoc]
 rcases h with ⟨rfl, rfl, rfl⟩ | ⟨k, rfl, rfl, hne⟩
 ·exact ab4 rfl rfl
 ·have hg : ((H ++ G') ++ (List.replicate k (none : Option EB) ++ [some (EB.row sz es)]))[k + d]? = some (some (.row sz es)) := by
   rw [List.getElem?_append_right (by omega), hP, Nat.add_sub_cancel]; simp
  rw [List.append_assoc] at hg
  refine df7 rfl (eg0 (n := 7) (es := es) (by rw [← hP]; simp; omega) hg (by omega) ho) ?_
  unfold slE
  rw [if_neg hne]
  simp
theorem cd7 {l : List Int} (hl : l.length ≤ 9223372036854775807) : ai9 (slE 1 (ab3 l)) l := by
 unfold slE
 split
 ·rename_i h
  have : l = [] := by cases l with
   | nil => rfl
   | cons v r => simp [ab3] at h
  subst this
  exact .nil
 ·exact dl4 hl
def aj4 (M : List Bool) : List EV := M.map EV.bool
theorem ba9 {M : List Bool} {i : Nat} {v : Bool} (h : M[i]? = some v) : (aj4 M)[i]? = some (.bool v) := by simp [aj4, h]
def ao0 : List Bool → Int → List Int
 | [], _ => []
 | b :: M, i => (if b then [i] else []) ++ ao0 M (i + 1)
theorem cn7 {M : List Bool} {j : Nat} {v : Bool} (hv : M[j]? = some v) : ∀ {i : Int}, ao0 (M.take (j + 1)) i = ao0 (M.take j) i ++ (if v then [i + j] else []) := by
 induction M generalizing j with
 | nil => simp at hv
 | cons b M ih =>
  intro i
  cases j with
  | zero => simp at hv; subst hv; simp [ao0]
  | succ j =>
   simp only [List.getElem?_cons_succ] at hv
   rw [List.take_succ_cons, List.take_succ_cons]
   simp only [ao0]
   rw [ih hv, List.append_assoc]
   congr 2
   split
   ·congr 1; push_cast; omega
   ·rfl
theorem bv6 (M : List Bool) : ∀ i, (ao0 M i).length ≤ M.length := by
 induction M with
 | nil => intro i; simp [ao0]
 | cons b M ih => intro i; simp only [ao0, List.length_append, List.length_cons]; have := ih (i + 1); split <;> simp <;> omega
theorem et0 (M : List Bool) : ∀ i : Int, ∀ p ∈ ao0 M i, i ≤ p ∧ p < i + M.length := by
 induction M with
 | nil => intro i p hp; simp [ao0] at hp
 | cons b M ih =>
  intro i p hp
  simp only [ao0, List.mem_append] at hp
  rcases hp with hp | hp
  ·split at hp
   ·simp at hp; simp; omega
   ·simp at hp
  ·have := ih (i + 1) p hp
   simp; omega
section
variable {E : Env} [R : NfaR E]
theorem es9 (b : Nat) (M : List Bool) (hM : M.length ≤ 100000) (H : Heap) (hb : H[b]? = some (some (.row 1 (aj4 M)))) : den E R.ak4 [.own b 1 0 M.length] H = some (.ret (slE 1 (ab3 (ao0 M 0))), H) := by
 have hbl := (List.getElem?_eq_some_iff.1 hb).1
 refine ah2 R.bf5 (by simp) ?_
 unfold Gn.ao4 Gn.al2
 simp (disch := omega) only [go_sem, simprocAttr]
 refine ad5 (ι := Nat × EV × Heap) (fun i => i.1 ≤ M.length ∧ OutE H.length 1 i.2.1 (ab3 (ao0 (M.take i.1) 0)) i.2.2) (fun i => M.length - i.1) (fun i => [(0, .own b 1 0 M.length), (3, i.2.1), (4, .int .i64 i.1)]) (fun i => H ++ i.2.2) (0, .nilsl, []) ⟨by omega, .start⟩ ?_ (by simp) ?_
 ·simp (disch := omega) only [go_sem, simprocAttr, Sl]
 ·rintro ⟨i, x, G⟩ t ⟨hi, ho⟩ ht K hK
  simp only at hi ho
  simp (disch := omega) only [go_sem, simprocAttr, Sl] at ht
  by_cases hlt : i < M.length
  ·obtain ⟨v, hv⟩ := ab5 hlt
   have hg := ba9 hv
   have hgb : (H ++ G)[b]? = some (some (.row 1 (aj4 M))) := by rw [List.getElem?_append_left hbl]; exact hb
   have hs := cn7 hv (i := 0)
   have hlen := bv6 (M.take i) 0
   rw [List.length_take] at hlen
   cases v with
   | true =>
    obtain ⟨x', G', hap, ho'⟩ := ho.append (.int .i64 i) 8 H rfl (by omega) rfl rfl (by rw [ad0]; omega) (by omega)
    have hk := hK (i + 1, x', G')
    simp only [hs, if_true, Int.zero_add] at hk
    rw [bv9] at hk
    clear hs hK
    show @Hd E ⟨_⟩ ⟨_⟩ ⟨H ++ G⟩ ⟨_⟩
    repeat' first | (simp (disch := first | omega | assumption) only [go_sem, simprocAttr, *]) | refine aa2 (fun hb=>?_) fun hb=>?_ | refine aa3 (fun hb=>?_) fun hb=>?_
    all_goals (try simp only [FX] at *)
    all_goals first
     | omega
     | skip
    refine hk _ _ ⟨by omega, ho'⟩ (by omega) ?_ rfl
    simp (disch := omega) only [go_sem, simprocAttr, Sl, ht, and_self, ab6]
   | false =>
    have hk := hK (i + 1, x, G)
    simp only [hs, Bool.false_eq_true, if_false, List.append_nil] at hk
    clear hs hK
    show @Hd E ⟨_⟩ ⟨_⟩ ⟨H ++ G⟩ ⟨_⟩
    repeat' first | (simp (disch := first | omega | assumption) only [go_sem, simprocAttr, *]) | refine aa2 (fun hb=>?_) fun hb=>?_ | refine aa3 (fun hb=>?_) fun hb=>?_
    all_goals (try simp only [FX] at *)
    all_goals first
     | omega
     | skip
    refine hk _ _ ⟨by omega, ho⟩ (by omega) ?_ rfl
    simp (disch := omega) only [go_sem, simprocAttr, Sl, ht, and_self, ab6]
  ·have : i = M.length := by omega
   subst this
   rw [List.take_length] at ho
   have hfin := ho.fin H H rfl ⟨[], by simp⟩ (bu3 _ _)
   clear hK
   show @Hd E ⟨_⟩ ⟨_⟩ ⟨H ++ G⟩ ⟨_⟩
   repeat' first | (simp (disch := first | omega | assumption) only [go_sem, simprocAttr, *]) | refine aa2 (fun hb=>?_) fun hb=>?_ | refine aa3 (fun hb=>?_) fun hb=>?_
   all_goals (try simp only [FX] at *)
   all_goals first | omega | exact hfin
def aq9 (M : List Bool) (l : List Int) : List Bool := l.foldl (fun M q => M.set q.toNat true) M
theorem bd1 : ∀ (l : List Int) (M : List Bool), (aq9 M l).length = M.length
 | [], M => rfl
 | q :: l, M => by show (aq9 (M.set q.toNat true) l).length = _; rw [bd1 l]; simp
theorem by4 {l : List Int} {i : Nat} {v : Int} (hv : l[i]? = some v) (M : List Bool) : aq9 M (l.take (i + 1)) = (aq9 M (l.take i)).set v.toNat true := by
 unfold aq9
 rw [List.take_add_one, hv, List.foldl_append]; rfl
end
def folP (n : NF) (p : Int) : List Int := n.follow.getD p.toNat []
def az2 (n : NF) (M : List Bool) (at_ : List Int) : List Bool := at_.foldl (fun M p => aq9 M (folP n p)) M
theorem bo3 (n : NF) : ∀ (l : List Int) (M : List Bool), (az2 n M l).length = M.length
 | [], M => rfl
 | q :: l, M => by show (az2 n (aq9 M (folP n q)) l).length = _; rw [bo3 n l, bd1]
theorem cn5 (n : NF) {l : List Int} {i : Nat} {v : Int} (hv : l[i]? = some v) (M : List Bool) : az2 n M (l.take (i + 1)) = aq9 (az2 n M (l.take i)) (folP n v) := by
 unfold az2
 rw [List.take_add_one, hv, List.foldl_append]; rfl
def ag5 (k : Nat) : List Bool := List.replicate k false
theorem bx5 (k : Nat) : aj4 (ag5 k) = List.replicate k (EV.bool false) := by simp [aj4, ag5]
theorem bq4 (M : List Bool) (i : Nat) (v : Bool) : (aj4 M).set i (.bool v) = aj4 (M.set i v) := by unfold aj4; rw [List.map_set]
structure NF.Good (n : NF) : Prop where
 k : n.sets.length ≤ 2000
 r : n.rules.length = n.sets.length
 f : n.follow.length = n.sets.length
 e : n.ends.length = n.sets.length
 fi : InP n.sets.length n.first
 ff : ∀ l ∈ n.follow, InP n.sets.length l
 rr : ∀ x ∈ n.rules, 0 ≤ x ∧ x ≤ 39
theorem ay2 {n : NF} (h : mayB n = true) : n.Good := by
 unfold mayB at h
 simp only [Bool.and_eq_true, decide_eq_true_eq, List.all_eq_true, List.mem_range] at h
 obtain ⟨⟨h1, h2, h3, h4, _, _, h7⟩, h8⟩ := h
 have at_ : ∀ i (hi : i < n.sets.length), ∃ r l, n.rules[i]? = some r ∧ n.follow[i]? = some l ∧ 0 ≤ r ∧ r ≤ 39 ∧ ris n.sets.length l = true := by
  intro i hi
  have := h8 i hi
  unfold bs1 at this
  obtain ⟨r, hr⟩ := ab5 (l := n.rules) (i := i) (by omega)
  obtain ⟨l, hl⟩ := ab5 (l := n.follow) (i := i) (by omega)
  rw [hr, hl] at this
  simp only [Bool.and_eq_true, decide_eq_true_eq] at this
  exact ⟨r, l, hr, hl, this.1, this.2.1, this.2.2⟩
 refine ⟨h1, h2, h3, h4, InP.ris (by omega) h7, fun l hl => ?_, fun x hx => ?_⟩
 ·obtain ⟨i, hi, e⟩ := List.mem_iff_getElem.1 hl
  obtain ⟨r, l', _, h, _, _, h'⟩ := at_ i (by omega)
  have : l' = l := by rw [List.getElem?_eq_getElem hi, e] at h; exact (Option.some.inj h).symm
  subst this
  exact InP.ris (by omega) h'
 ·obtain ⟨i, hi, e⟩ := List.mem_iff_getElem.1 hx
  obtain ⟨r, l', h, _, h0, h39, _⟩ := at_ i (by omega)
  have : r = x := by rw [List.getElem?_eq_getElem hi, e] at h; exact (Option.some.inj h).symm
  subst this
  exact ⟨h0, h39⟩
theorem NF.Good.fol {n : NF} (g : n.Good) {p : Int} (hp : 0 ≤ p ∧ p < n.sets.length) : n.follow[p.toNat]? = some (folP n p) ∧ InP n.sets.length (folP n p) := by
 obtain ⟨l, hl⟩ := ab5 (l := n.follow) (i := p.toNat) (by rw [g.f]; omega)
 have e : folP n p = l := by unfold folP; rw [List.getD, hl]; rfl
 rw [e]
 exact ⟨hl, g.ff l (List.mem_of_getElem? hl)⟩
section
variable {E : Env} [R : NfaR E]
set_option maxHeartbeats 4000000 in
theorem et6 (hH : bg0 E R.ar4 .u8) (n : NF) (g : n.Good) (x : EV) (l : List Int) (hx : ai9 x l) (hin : InP n.sets.length l) (b : Nat) (hb : b < 256) (H : Heap) :
  ∃ y, den E R.as4 [n.E, x, .int .u8 b] H = some (.ret y, H) ∧ ai9 y ((ao0 (az2 n (ag5 n.sets.length) l) 0).filter (hasP n b)) := by
 have hk := g.k
 let k := n.sets.length
 let MM := az2 n (ag5 k) l
 have hMM : MM.length = k := by simp only [MM]; rw [bo3]; simp [ag5]
 obtain ⟨o0, o1, o2, o3, o4⟩ := n.one
 have k0 := n.k
 have k3 := n.k3
 have lx := hx.lenI
 have lle := hx.leI
 let HB : List Bool → Heap := fun M => H ++ [some (.row 6 [.agg [n.x0, n.x1, n.x2, n.x3, n.x4, .int .i64 n.m]]), some (.row 1 (aj4 M))]
 -- what comes last
 have last : ∀ x' G, OutE (H.length + 2) 1 x' (ab3 (ao0 MM 0)) G → ∃ y, den E R.ap0 [n.E, x', .int .u8 b] (HB MM ++ G) = some (.ret y, HB MM ++ G) ∧ ai9 y ((ao0 MM 0).filter (hasP n b)) := by
  intro x' G ho
  refine di4 hH n x' (ao0 MM 0) (HB MM ++ G) ?_ (by have := bv6 MM 0; omega) (fun p hp => by have := et0 MM 0 p hp; rw [hMM] at this; simp only [k] at this; omega) b hb
  rcases ho with ⟨rfl, he, rfl⟩ | ⟨q, rfl, rfl, hne⟩
  ·exact .inl ⟨rfl, ch6 he⟩
  ·refine .inr (.inr (.inr ⟨q + (H.length + 2), by rw [ad0], ?_⟩))
   rw [List.getElem?_append_right (by simp [HB])]
   simp [HB]
 suffices h : ∃ r, den E R.as4 [n.E, x, .int .u8 b] H = some r ∧ ∃ y, r = (ER.ret y, H) ∧ ai9 y ((ao0 MM 0).filter (hasP n b)) by
  obtain ⟨r, h1, y, h2, h3⟩ := h
  exact ⟨y, by rw [h1, h2], h3⟩
 refine fk4 R.br2 (by simp) ?_
 unfold Gn.ax8 Gn.as3
 unfold EV.one at o0 o1 o2 o3 o4
 have hmk : List.replicate k (EV.bool false) = aj4 (az2 n (ag5 k) (l.take 0)) := by simp [az2, bx5]
 have hmk' : bw5 1 1 (.bool false) (.int .i64 n.sets.length) (.int .i64 n.sets.length) (H ++ [some (.row 6 [.agg [n.x0, n.x1, n.x2, n.x3, n.x4, .int .i64 n.m]])]) = some (.own (H.length + 1) 1 0 k, HB (az2 n (ag5 k) (l.take 0))) := by
  unfold bw5
  simp only
  rw [if_pos ⟨by omega, by omega, by omega, by omega⟩, Int.toNat_natCast, hmk]
  simp [HB, NF.E, k]
 show @Hd E ⟨_⟩ ⟨aj3 [n.E, x, .int .u8 b]⟩ ⟨H⟩ ⟨_⟩
 unfold NF.E
 simp (disch := omega) only [go_sem, simprocAttr, *]
 refine ad5 (ι := Nat) (fun i => i ≤ l.length) (fun i => l.length - i) (fun i => [(2, .int .u8 b), (3, .ptr H.length 6 0 0), (7, .own (H.length + 1) 1 0 k), (19, x), (20, .int .i64 l.length), (21, .int .i64 i)]) (fun i => HB (az2 n (ag5 k) (l.take i))) 0 (by omega) ?_ rfl ?_
 ·simp (disch := omega) only [go_sem, simprocAttr, Sl]
 ·intro i t hi ht K hK
  simp (disch := omega) only [go_sem, simprocAttr, Sl] at ht
  by_cases hlt : i < l.length
  ·obtain ⟨p, hp⟩ := ab5 hlt
   have hpi := hin p (List.mem_of_getElem? hp)
   obtain ⟨hfl, hfi⟩ := g.fol hpi
   obtain ⟨y, hy, hyv, hye⟩ := n.fol hfl
   rw [Int.toNat_of_nonneg hpi.1] at hye
   have hat := hx.at hp
   have ly := hyv.lenI
   have hsn := cn5 n hp (ag5 k)
   let M0 := az2 n (ag5 k) (l.take i)
   have hM0 : M0.length = k := by simp only [M0]; rw [bo3]; simp [ag5]
   show @Hd E ⟨_⟩ ⟨t⟩ ⟨H ++ [some (.row 6 [.agg [n.x0, n.x1, n.x2, n.x3, n.x4, .int .i64 n.m]]), some (.row 1 (aj4 M0))]⟩ ⟨_⟩
   have hyo := hyv.one.2
   unfold EV.one at hyo
   have hk1 := hK (i + 1)
   clear hK hmk hmk' last
   repeat' first | (simp (disch := first | omega | assumption) only [go_sem, simprocAttr, *]) | refine aa2 (fun hb=>?_) fun hb=>?_ | refine aa3 (fun hb=>?_) fun hb=>?_
   all_goals (try simp only [FX] at *)
   all_goals first | omega | skip
   refine ad5 (ι := Nat) (fun j => j ≤ (folP n p).length) (fun j => (folP n p).length - j) (fun j => [(2, .int .u8 b), (3, .ptr H.length 6 0 0), (7, .own (H.length + 1) 1 0 k), (19, x), (20, .int .i64 l.length), (21, .int .i64 i), (29, y), (30, .int .i64 (folP n p).length), (31, .int .i64 j)]) (fun j => H ++ [some (.row 6 [.agg [n.x0, n.x1, n.x2, n.x3, n.x4, .int .i64 n.m]]), some (.row 1 (aj4 (aq9 M0 ((folP n p).take j))))]) 0 (by omega) ?_ rfl ?_
   ·simp (disch := omega) only [go_sem, simprocAttr, Sl, ht, and_self]
   ·intro j t2 hj ht2 K2 hK2
    simp (disch := omega) only [go_sem, simprocAttr, Sl] at ht2
    by_cases hjl : j < (folP n p).length
    ·obtain ⟨q, hq⟩ := ab5 hjl
     have hqi := hfi q (List.mem_of_getElem? hq)
     have hqa := hyv.at hq
     have hM1 : (aq9 M0 ((folP n p).take j)).length = k := by rw [bd1]; exact hM0
     obtain ⟨w, hw⟩ := ab5 (l := aq9 M0 ((folP n p).take j)) (i := q.toNat) (by rw [hM1]; simp only [k]; omega)
     have hwg := ba9 hw
     have hst := bq4 (aq9 M0 ((folP n p).take j)) q.toNat true
     rw [← by4 hq] at hst
     have hk2 := hK2 (j + 1)
     have hkk : q < (k : Int) := hqi.2
     have hkk0 := hqi.1
     have yle := hyv.leI
     clear hK2 hk1
     repeat' first | (simp (disch := first | omega | assumption) only [go_sem, simprocAttr, *]) | refine aa2 (fun hb=>?_) fun hb=>?_ | refine aa3 (fun hb=>?_) fun hb=>?_
     all_goals (try simp only [FX] at *)
     all_goals first | omega | skip
     refine hk2 _ _ (by omega) (by omega) ?_ rfl
     simp (disch := omega) only [go_sem, simprocAttr, Sl, ht2, and_self, ab6]
    ·have hje : j = (folP n p).length := by omega
     have htk : (folP n p).take j = folP n p := by rw [hje, List.take_length]
     clear hK2
     rw [htk]
     repeat' first | (simp (disch := first | omega | assumption) only [go_sem, simprocAttr, *]) | refine aa2 (fun hb=>?_) fun hb=>?_ | refine aa3 (fun hb=>?_) fun hb=>?_
     all_goals (try simp only [FX] at *)
     all_goals first | omega | skip
     refine hk1 _ _ (by omega) (by omega) ?_ (by simp only [HB]; rw [hsn])
     simp (disch := omega) only [go_sem, simprocAttr, Sl, ht2, and_self, ab6]
  ·have hie : i = l.length := by omega
   have hfin : az2 n (ag5 k) (l.take i) = MM := by rw [hie, List.take_length]
   rw [hfin]
   show @Hd E ⟨_⟩ ⟨t⟩ ⟨H ++ [some (.row 6 [.agg [n.x0, n.x1, n.x2, n.x3, n.x4, .int .i64 n.m]]), some (.row 1 (aj4 MM))]⟩ ⟨_⟩
   clear hK hmk hmk' hfin
   repeat' first | (simp (disch := first | omega | assumption) only [go_sem, simprocAttr, *]) | refine aa2 (fun hb=>?_) fun hb=>?_ | refine aa3 (fun hb=>?_) fun hb=>?_
   all_goals (try simp only [FX] at *)
   all_goals first | omega | skip
   refine ad5 (ι := Nat × EV × Heap) (fun j => j.1 ≤ k ∧ OutE (H.length + 2) 1 j.2.1 (ab3 (ao0 (MM.take j.1) 0)) j.2.2) (fun j => k - j.1) (fun j => [(2, .int .u8 b), (3, .ptr H.length 6 0 0), (12, j.2.1), (40, .own (H.length + 1) 1 0 k), (41, .int .i64 k), (42, .int .i64 j.1)]) (fun j => H ++ some (.row 6 [.agg [n.x0, n.x1, n.x2, n.x3, n.x4, .int .i64 n.m]]) :: some (.row 1 (aj4 MM)) :: j.2.2) (0, .nilsl, []) ⟨by omega, .start⟩ ?_ rfl ?_
   ·simp (disch := omega) only [go_sem, simprocAttr, Sl, ht, and_self]
   ·rintro ⟨j, x', G⟩ t2 ⟨hj, ho⟩ ht2 K2 hK2
    simp only at hj ho
    simp (disch := omega) only [go_sem, simprocAttr, Sl] at ht2
    by_cases hjl : j < k
    ·obtain ⟨v, hv⟩ := ab5 (l := MM) (i := j) (by rw [hMM]; exact hjl)
     have hg := ba9 hv
     have hs := cn7 hv (i := 0)
     have hlen := bv6 (MM.take j) 0
     rw [List.length_take] at hlen
     have hkN : k ≤ 2000 := hk
     cases v with
     | true =>
      obtain ⟨x2, G2, hap, ho2⟩ := ho.append (.int .i64 j) 8 (HB MM) (by simp [HB]) (by omega) rfl rfl (by rw [ad0]; omega) (by omega)
      have hk2 := hK2 (j + 1, x2, G2)
      simp only [hs, if_true, Int.zero_add] at hk2
      rw [bv9] at hk2
      simp only [HB, List.append_assoc, List.cons_append, List.nil_append] at hap hk2
      clear hs hK2 last
      show @Hd E ⟨_⟩ ⟨t2⟩ ⟨H ++ some (.row 6 [.agg [n.x0, n.x1, n.x2, n.x3, n.x4, .int .i64 n.m]]) :: some (.row 1 (aj4 MM)) :: G⟩ ⟨_⟩
      repeat' first | (simp (disch := first | omega | assumption) only [go_sem, simprocAttr, *]) | refine aa2 (fun hb=>?_) fun hb=>?_ | refine aa3 (fun hb=>?_) fun hb=>?_
      all_goals (try simp only [FX] at *)
      all_goals first | omega | skip
      refine hk2 _ _ ⟨by omega, ho2⟩ (by omega) ?_ rfl
      simp (disch := omega) only [go_sem, simprocAttr, Sl, ht2, and_self, ab6]
     | false =>
      have hk2 := hK2 (j + 1, x', G)
      simp only [hs, Bool.false_eq_true, if_false, List.append_nil] at hk2
      clear hs hK2 last
      show @Hd E ⟨_⟩ ⟨t2⟩ ⟨H ++ some (.row 6 [.agg [n.x0, n.x1, n.x2, n.x3, n.x4, .int .i64 n.m]]) :: some (.row 1 (aj4 MM)) :: G⟩ ⟨_⟩
      repeat' first | (simp (disch := first | omega | assumption) only [go_sem, simprocAttr, *]) | refine aa2 (fun hb=>?_) fun hb=>?_ | refine aa3 (fun hb=>?_) fun hb=>?_
      all_goals (try simp only [FX] at *)
      all_goals first | omega | skip
      refine hk2 _ _ ⟨by omega, ho⟩ (by omega) ?_ rfl
      simp (disch := omega) only [go_sem, simprocAttr, Sl, ht2, and_self, ab6]
    ·have hjk : j = k := by omega
     have htk : MM.take j = MM := by rw [hjk, ← hMM, List.take_length]
     rw [htk] at ho
     obtain ⟨y, hw, hyv⟩ := last x' G ho
     simp only [HB, List.append_assoc, List.cons_append, List.nil_append] at hw
     unfold NF.E at hw
     clear hK2 last htk
     show @Hd E ⟨_⟩ ⟨t2⟩ ⟨H ++ some (.row 6 [.agg [n.x0, n.x1, n.x2, n.x3, n.x4, .int .i64 n.m]]) :: some (.row 1 (aj4 MM)) :: G⟩ ⟨_⟩
     repeat' first | (simp (disch := first | omega | assumption) only [go_sem, simprocAttr, *]) | refine aa2 (fun hb=>?_) fun hb=>?_ | refine aa3 (fun hb=>?_) fun hb=>?_
     all_goals (try simp only [FX] at *)
     all_goals first | omega | skip
     exact ⟨_, ab4 (hyv.ok _) rfl, y, rfl, hyv⟩
end
def andM (n : NF) (b : Nat) : List Bool → Nat → List Bool
 | [], _ => []
 | v :: M, i => (v && hasP n b i) :: andM n b M (i + 1)
theorem bl0 (n : NF) (b : Nat) : ∀ (M : List Bool) (i : Nat), (andM n b M i).length = M.length
 | [], _ => rfl
 | v :: M, i => by simp [andM, bl0 n b M]
theorem em7 (n : NF) (b : Nat) {M : List Bool} {j : Nat} {v : Bool} (hv : M[j]? = some v) : ∀ {i : Nat}, andM n b (M.take (j + 1)) i = andM n b (M.take j) i ++ [v && hasP n b ((i + j : Nat) : Int)] := by
 induction M generalizing j with
 | nil => simp at hv
 | cons w M ih =>
  intro i
  cases j with
  | zero => simp at hv; subst hv; simp [andM]
  | succ j =>
   simp only [List.getElem?_cons_succ] at hv
   rw [List.take_succ_cons, List.take_succ_cons]
   simp only [andM]
   rw [ih hv, show i + 1 + j = i + (j + 1) by omega]; rfl
theorem cn8 (n : NF) (b : Nat) : ∀ (M : List Bool) (i : Nat), ao0 (andM n b M i) i = (ao0 M i).filter (hasP n b)
 | [], i => rfl
 | v :: M, i => by
  have ih := cn8 n b M (i + 1)
  simp only [andM, ao0, List.filter_append]
  rw [ab6] at ih
  rw [← ih]
  congr 1
  cases v
  ·simp
  ·by_cases h : hasP n b (i : Int) = true <;> simp [h]
def rowA (n : NF) (b : Nat) (M : List Bool) (j : Nat) : List Bool := andM n b (M.take j) 0 ++ M.drop j
theorem eq5 (n : NF) (b : Nat) {M : List Bool} {j : Nat} {v : Bool} (hv : M[j]? = some v) : (rowA n b M j)[j]? = some v := by
 have hj := (List.getElem?_eq_some_iff.1 hv).1
 unfold rowA
 rw [List.getElem?_append_right (by rw [bl0]; simp; omega), bl0, List.getElem?_drop]
 simp only [List.length_take]
 rw [show j + (j - min j M.length) = j by omega]; exact hv
theorem eq4 (n : NF) (b : Nat) {M : List Bool} {j : Nat} {v : Bool} (hv : M[j]? = some v) : (rowA n b M j).set j (v && hasP n b (j : Nat)) = rowA n b M (j + 1) := by
 have hj := (List.getElem?_eq_some_iff.1 hv).1
 unfold rowA
 rw [List.set_append_right _ _ (by rw [bl0]; simp; omega), bl0, em7 n b hv, ax1 hv]
 simp only [List.length_take]
 rw [show j - min j M.length = 0 by omega, List.set_cons_zero]
 simp
section
variable {E : Env} [R : NfaR E]
set_option maxHeartbeats 4000000 in
theorem cw9 (hR : bg0 E R.ah0 .i64) (n : NF) (g : n.Good) (x : EV) (l : List Int) (hx : ai9 x l) (hin : InP n.sets.length l) (beg : Bool) (b : Nat) (hb : b < 256) (H : Heap) :
  den E R.ah8 [n.E, x, .bool beg, .int .u8 b] H = some (.ret (slE 1 (ab3 ((ao0 (az2 n (if beg then aq9 (ag5 n.sets.length) n.first else ag5 n.sets.length) l) 0).filter (hasP n b)))), H) := by
 have hk := g.k
 have hb256 := hb
 let k := n.sets.length
 obtain ⟨o0, o1, o2, o3, o4⟩ := n.one
 have k0 := n.k
 have k2 := n.k2
 have k3 := n.k3
 have lx := hx.lenI
 have lle := hx.leI
 have fle := n.h2.leI
 let EE : EV := .agg [n.x0, n.x1, n.x2, n.x3, n.x4, .int .i64 n.m]
 let M1 := if beg then aq9 (ag5 k) n.first else ag5 k
 have hM1 : M1.length = k := by simp only [M1]; split <;> simp [ag5, bd1]
 let MM := az2 n M1 l
 have hMM : MM.length = k := by simp only [MM]; rw [bo3, hM1]
 have hres : slE 1 (ab3 (ao0 (andM n b MM 0) 0)) = slE 1 (ab3 ((ao0 MM 0).filter (hasP n b))) := by rw [show ao0 (andM n b MM 0) 0 = (ao0 MM 0).filter (hasP n b) from cn8 n b MM 0]
 have hlist := fun H hb => es9 (E := E) (H.length + 1) (andM n b MM 0) (by rw [bl0, hMM]; simp only [k]; omega) (H ++ [some (.row 6 [EE]), some (.row 1 (aj4 (andM n b MM 0)))]) hb
 have hl2 : ∀ H : Heap, den E R.ak4 [.own (H.length + 1) 1 0 k] (H ++ [some (.row 6 [EE]), some (.row 1 (aj4 (andM n b MM 0)))]) = some (.ret (slE 1 (ab3 ((ao0 MM 0).filter (hasP n b)))), H ++ [some (.row 6 [EE]), some (.row 1 (aj4 (andM n b MM 0)))]) := fun H => by
  have := hlist H (by simp)
  rw [bl0, hMM, hres] at this
  exact this
 clear hlist
 refine ah2 R.bf4 (by simp) ?_
 unfold Gn.ao3 Gn.al1
 unfold EV.one at o0 o1 o2 o3 o4
 have hmk' : bw5 1 1 (.bool false) (.int .i64 n.sets.length) (.int .i64 n.sets.length) (H ++ [some (.row 6 [.agg [n.x0, n.x1, n.x2, n.x3, n.x4, .int .i64 n.m]])]) = some (.own (H.length + 1) 1 0 k, H ++ [some (.row 6 [EE]), some (.row 1 (aj4 (ag5 k)))]) := by
  unfold bw5
  simp only
  rw [if_pos ⟨by omega, by omega, by omega, by omega⟩, Int.toNat_natCast, bx5]
  simp [EE, k]
 show @Hd E ⟨_⟩ ⟨aj3 [n.E, x, .bool beg, .int .u8 b]⟩ ⟨H⟩ ⟨_⟩
 unfold NF.E
 refine en1 (fun t H' => Sl t [(1, x), (2, .bool beg), (3, .int .u8 b), (4, .ptr H.length 6 0 0)] ∧ H' = H ++ [some (.row 6 [.agg [n.x0, n.x1, n.x2, n.x3, n.x4, .int .i64 n.m]])]) ?_ ?_
 ·simp (disch := omega) only [go_sem, simprocAttr, o0, o1, o2, o3, o4, Sl]
 rintro t _ ⟨ht, rfl⟩
 simp (disch := omega) only [go_sem, simprocAttr, Sl] at ht
 refine en1 (fun t H' => Sl t [(1, x), (2, .bool beg), (3, .int .u8 b), (4, .ptr H.length 6 0 0), (9, .own (H.length + 1) 1 0 k)] ∧ H' = H ++ [some (.row 6 [.agg [n.x0, n.x1, n.x2, n.x3, n.x4, .int .i64 n.m]]), some (.row 1 (aj4 (ag5 k)))]) ?_ ?_
 ·simp (disch := omega) only [go_sem, simprocAttr, ht, hmk', o0, o1, o2, o3, o4, k0, Sl]
  simp [EE]
 rintro t _ ⟨ht, rfl⟩
 simp (disch := omega) only [go_sem, simprocAttr, Sl] at ht
 refine en1 (fun t H' => Sl t [(1, x), (3, .int .u8 b), (4, .ptr H.length 6 0 0), (9, .own (H.length + 1) 1 0 k)] ∧ H' = H ++ [some (.row 6 [.agg [n.x0, n.x1, n.x2, n.x3, n.x4, .int .i64 n.m]]), some (.row 1 (aj4 M1))]) ?_ ?_
 ·
  cases hbeg : beg with
  | false =>
   have hM : M1 = ag5 k := by simp only [M1, hbeg]; rfl
   rw [hbeg] at ht
   clear hmk' hl2
   rw [hM]
   simp (disch := omega) only [go_sem, simprocAttr, ht]
   simp only [Sl, upd, ht]
   simp
  | true =>
   have hM : M1 = aq9 (ag5 k) n.first := by simp only [M1, hbeg]; rfl
   rw [hbeg] at ht
   clear hmk' hl2
   have h2 := n.h2
   have hgf := g.fi
   simp (disch := omega) only [go_sem, simprocAttr, ht, o0, o1, o2, o3, o4]
   have hmk0 : aq9 (ag5 k) (n.first.take 0) = ag5 k := rfl
   refine ad5 (ι := Nat) (fun i => i ≤ n.first.length) (fun i => n.first.length - i) (fun i => [(1, x), (3, .int .u8 b), (4, .ptr H.length 6 0 0), (9, .own (H.length + 1) 1 0 k), (10, .int .i64 i)]) (fun i => H ++ [some (.row 6 [.agg [n.x0, n.x1, n.x2, n.x3, n.x4, .int .i64 n.m]]), some (.row 1 (aj4 (aq9 (ag5 k) (n.first.take i))))]) 0 (by omega) ?_ (by rw [hmk0]) ?_
   ·simp (disch := omega) only [go_sem, simprocAttr, Sl, ht, and_self]
   ·intro i t2 hi ht2 K2 hK2
    simp (disch := omega) only [go_sem, simprocAttr, Sl] at ht2
    by_cases hil : i < n.first.length
    ·obtain ⟨q, hq⟩ := ab5 hil
     have hqi := hgf q (List.mem_of_getElem? hq)
     have hqa := h2.at hq
     have hl1 : (aq9 (ag5 k) (n.first.take i)).length = k := by rw [bd1]; simp [ag5]
     obtain ⟨w, hw⟩ := ab5 (l := aq9 (ag5 k) (n.first.take i)) (i := q.toNat) (by rw [hl1]; simp only [k]; omega)
     have hwg := ba9 hw
     have hst := bq4 (aq9 (ag5 k) (n.first.take i)) q.toNat true
     rw [← by4 hq] at hst
     have hk2 := hK2 (i + 1)
     have hkk : q < (k : Int) := hqi.2
     have hkk0 := hqi.1
     clear hK2 hmk0
     repeat' first | (simp (disch := first | omega | assumption) only [go_sem, simprocAttr, *]) | refine aa2 (fun hb=>?_) fun hb=>?_ | refine aa3 (fun hb=>?_) fun hb=>?_
     all_goals (try simp only [FX] at *)
     all_goals first | omega | skip
     refine hk2 _ _ (by omega) (by omega) ?_ rfl
     simp (disch := omega) only [go_sem, simprocAttr, Sl, ht2, and_self, ab6]
    ·have hje : i = n.first.length := by omega
     have htk : n.first.take i = n.first := by rw [hje, List.take_length]
     clear hK2 hmk0
     rw [htk]
     repeat' first | (simp (disch := first | omega | assumption) only [go_sem, simprocAttr, *]) | refine aa2 (fun hb=>?_) fun hb=>?_ | refine aa3 (fun hb=>?_) fun hb=>?_
     all_goals (try simp only [FX] at *)
     all_goals first | omega | skip
     simp (disch := omega) only [go_sem, simprocAttr, Sl, ht2, and_self]
 rintro t _ ⟨ht, rfl⟩
 ·simp (disch := omega) only [go_sem, simprocAttr, Sl] at ht
  show @Hd E ⟨_⟩ ⟨t⟩ ⟨H ++ [some (.row 6 [.agg [n.x0, n.x1, n.x2, n.x3, n.x4, .int .i64 n.m]]), some (.row 1 (aj4 M1))]⟩ ⟨_⟩
  have hA0 : az2 n M1 (l.take 0) = M1 := rfl
  clear hmk'
  simp (disch := omega) only [go_sem, simprocAttr, ht, o0, o1, o2, o3, o4]
  refine ad5 (ι := Nat) (fun i => i ≤ l.length) (fun i => l.length - i) (fun i => [(1, x), (3, .int .u8 b), (4, .ptr H.length 6 0 0), (9, .own (H.length + 1) 1 0 k), (11, .int .i64 i)]) (fun i => H ++ [some (.row 6 [.agg [n.x0, n.x1, n.x2, n.x3, n.x4, .int .i64 n.m]]), some (.row 1 (aj4 (az2 n M1 (l.take i))))]) 0 (by omega) ?_ (by rw [hA0]) ?_
  ·simp (disch := omega) only [go_sem, simprocAttr, Sl, ht, and_self]
  ·intro i t hi ht K hK
   simp (disch := omega) only [go_sem, simprocAttr, Sl] at ht
   by_cases hlt : i < l.length
   ·obtain ⟨p, hp⟩ := ab5 hlt
    have hpi := hin p (List.mem_of_getElem? hp)
    obtain ⟨hfl, hfi⟩ := g.fol hpi
    obtain ⟨y, hy, hyv, hye⟩ := n.fol hfl
    rw [Int.toNat_of_nonneg hpi.1] at hye
    have hat := hx.at hp
    have ly := hyv.lenI
    have yle := hyv.leI
    have hsn := cn5 n hp M1
    let M0 := az2 n M1 (l.take i)
    have hM0 : M0.length = k := by simp only [M0]; rw [bo3, hM1]
    show @Hd E ⟨_⟩ ⟨t⟩ ⟨H ++ [some (.row 6 [.agg [n.x0, n.x1, n.x2, n.x3, n.x4, .int .i64 n.m]]), some (.row 1 (aj4 M0))]⟩ ⟨_⟩
    have hyo := hyv.one.2
    unfold EV.one at hyo
    have hk1 := hK (i + 1)
    clear hK hl2 hA0
    repeat' first | (simp (disch := first | omega | assumption) only [go_sem, simprocAttr, *]) | refine aa2 (fun hb=>?_) fun hb=>?_ | refine aa3 (fun hb=>?_) fun hb=>?_
    all_goals (try simp only [FX] at *)
    all_goals first | omega | skip
    refine ad5 (ι := Nat) (fun j => j ≤ (folP n p).length) (fun j => (folP n p).length - j) (fun j => [(1, x), (3, .int .u8 b), (4, .ptr H.length 6 0 0), (9, .own (H.length + 1) 1 0 k), (11, .int .i64 i), (12, .int .i64 j)]) (fun j => H ++ [some (.row 6 [.agg [n.x0, n.x1, n.x2, n.x3, n.x4, .int .i64 n.m]]), some (.row 1 (aj4 (aq9 M0 ((folP n p).take j))))]) 0 (by omega) ?_ rfl ?_
    ·simp (disch := omega) only [go_sem, simprocAttr, Sl, ht, and_self]
    ·intro j t2 hj ht2 K2 hK2
     simp (disch := omega) only [go_sem, simprocAttr, Sl] at ht2
     by_cases hjl : j < (folP n p).length
     ·obtain ⟨q, hq⟩ := ab5 hjl
      have hqi := hfi q (List.mem_of_getElem? hq)
      have hqa := hyv.at hq
      have hM1' : (aq9 M0 ((folP n p).take j)).length = k := by rw [bd1]; exact hM0
      obtain ⟨w, hw⟩ := ab5 (l := aq9 M0 ((folP n p).take j)) (i := q.toNat) (by rw [hM1']; simp only [k]; omega)
      have hwg := ba9 hw
      have hst := bq4 (aq9 M0 ((folP n p).take j)) q.toNat true
      rw [← by4 hq] at hst
      have hk2 := hK2 (j + 1)
      have hkk : q < (k : Int) := hqi.2
      have hkk0 := hqi.1
      clear hK2 hk1
      repeat' first | (simp (disch := first | omega | assumption) only [go_sem, simprocAttr, *]) | refine aa2 (fun hb=>?_) fun hb=>?_ | refine aa3 (fun hb=>?_) fun hb=>?_
      all_goals (try simp only [FX] at *)
      all_goals first | omega | skip
      refine hk2 _ _ (by omega) (by omega) ?_ rfl
      simp (disch := omega) only [go_sem, simprocAttr, Sl, ht2, and_self, ab6]
     ·have hje : j = (folP n p).length := by omega
      have htk : (folP n p).take j = folP n p := by rw [hje, List.take_length]
      clear hK2
      rw [htk]
      repeat' first | (simp (disch := first | omega | assumption) only [go_sem, simprocAttr, *]) | refine aa2 (fun hb=>?_) fun hb=>?_ | refine aa3 (fun hb=>?_) fun hb=>?_
      all_goals (try simp only [FX] at *)
      all_goals first | omega | skip
      refine hk1 _ _ (by omega) (by omega) ?_ (by rw [hsn])
      simp (disch := omega) only [go_sem, simprocAttr, Sl, ht2, and_self, ab6]
   ·have hie : i = l.length := by omega
    have hfin : az2 n M1 (l.take i) = MM := by rw [hie, List.take_length]
    rw [hfin]
    have hR0 : rowA n b MM 0 = MM := rfl
    clear hK hfin hA0
    repeat' first | (simp (disch := first | omega | assumption) only [go_sem, simprocAttr, *]) | refine aa2 (fun hb=>?_) fun hb=>?_ | refine aa3 (fun hb=>?_) fun hb=>?_
    all_goals (try simp only [FX] at *)
    all_goals first | omega | skip
    refine ad5 (ι := Nat) (fun j => j ≤ k) (fun j => k - j) (fun j => [(3, .int .u8 b), (4, .ptr H.length 6 0 0), (9, .own (H.length + 1) 1 0 k), (13, .int .i64 j)]) (fun j => H ++ [some (.row 6 [.agg [n.x0, n.x1, n.x2, n.x3, n.x4, .int .i64 n.m]]), some (.row 1 (aj4 (rowA n b MM j)))]) 0 (by omega) ?_ (by rw [hR0]) ?_
    ·simp (disch := omega) only [go_sem, simprocAttr, Sl, ht, and_self]
    ·intro j t2 hj ht2 K2 hK2
     simp (disch := omega) only [go_sem, simprocAttr, Sl] at ht2
     have hkN : k ≤ 2000 := hk
     by_cases hjl : j < k
     ·obtain ⟨v, hv⟩ := ab5 (l := MM) (i := j) (by rw [hMM]; exact hjl)
      obtain ⟨w, hw⟩ := ab5 (l := n.sets) (i := j) hjl
      have hg := ba9 (eq5 n b hv)
      have hst := bq4 (rowA n b MM j) j (v && hasP n b (j : Nat))
      rw [eq4 n b hv] at hst
      have he : ar2 4 (j : Int) n.x0 = some (.iptr (tab 4 fun i => .int .u64 ((w i : Nat) : Int)) 0) := n.h0.elem j (setE w) (by rw [List.getElem?_map, hw]; rfl)
      have hl4 : (tab 4 fun i => EV.int .u64 ((w i : Nat) : Int)).length = 4 := rfl
      have ht4 : List.take 4 (tab 4 fun i => EV.int .u64 ((w i : Nat) : Int)) = tab 4 fun i => EV.int .u64 ((w i : Nat) : Int) := rfl
      have hc := fun H => hR w b H (n.hw w (List.mem_of_getElem? hw)) hb256
      unfold setE at hc
      have hs : hasP n b (j : Nat) = ag6 w b := by unfold hasP; rw [Int.toNat_natCast, List.getD, hw]; rfl
      have hbw : IntKind.i64.wrap (b : Int) = b := di3 (by omega) (by omega)
      have hk2 := hK2 (j + 1)
      rw [hs] at hst
      clear hK2 hl2 hR0
      cases v with
      | true =>
       simp only [Bool.true_and] at hst
       repeat' first | (simp (disch := first | omega | assumption) only [go_sem, simprocAttr, *]) | refine aa2 (fun hb=>?_) fun hb=>?_ | refine aa3 (fun hb=>?_) fun hb=>?_
       all_goals (try simp only [FX] at *)
       all_goals first | omega | skip
       refine hk2 _ _ (by omega) (by omega) ?_ rfl
       simp (disch := omega) only [go_sem, simprocAttr, Sl, ht2, and_self, ab6]
      | false =>
       simp only [Bool.false_and] at hst
       repeat' first | (simp (disch := first | omega | assumption) only [go_sem, simprocAttr, *]) | refine aa2 (fun hb=>?_) fun hb=>?_ | refine aa3 (fun hb=>?_) fun hb=>?_
       all_goals (try simp only [FX] at *)
       all_goals first | omega | skip
       refine hk2 _ _ (by omega) (by omega) ?_ rfl
       simp (disch := omega) only [go_sem, simprocAttr, Sl, ht2, and_self, ab6]
     ·have hjk : j = k := by omega
      have hrw : rowA n b MM j = andM n b MM 0 := by unfold rowA; rw [hjk, ← hMM, List.take_length, List.drop_length, List.append_nil]
      rw [hrw]
      have hl3 := hl2 H
      simp only [EE] at hl3
      have hok : (slE 1 (ab3 ((ao0 MM 0).filter (hasP n b)))).ok H.length = true := (cd7 (l := (ao0 MM 0).filter (hasP n b)) (by have := List.length_filter_le (hasP n b) (ao0 MM 0); have := bv6 MM 0; omega)).ok _
      clear hK2 hR0 hl2 hrw
      repeat' first | (simp (disch := first | omega | assumption) only [go_sem, simprocAttr, *]) | refine aa2 (fun hb=>?_) fun hb=>?_ | refine aa3 (fun hb=>?_) fun hb=>?_
      all_goals (try simp only [FX] at *)
      all_goals first | omega | skip
      exact ab4 hok rfl
end
def endP (n : NF) (p : Int) : Bool := n.ends.getD p.toNat false
def rulP (n : NF) (p : Int) : Int := n.rules.getD p.toNat 0
def tagS (n : NF) (out p : Int) : Int := if endP n p = true ∧ (out < 0 ∨ rulP n p < out) then rulP n p else out
def tagF (n : NF) (l : List Int) : Int := l.foldl (tagS n) (-1)
def TagI (n : NF) (l : List Int) (t : Int) : Prop := (t = -1 ∧ ∀ p ∈ l, endP n p = false) ∨ (0 ≤ t ∧ (∃ p ∈ l, endP n p = true ∧ rulP n p = t) ∧ ∀ p ∈ l, endP n p = true → t ≤ rulP n p)
theorem TagI.step {n : NF} {l : List Int} {t p : Int} (h : TagI n l t) (hp : 0 ≤ rulP n p) : TagI n (l ++ [p]) (tagS n t p) := by
 unfold tagS
 cases he : endP n p with
 | false =>
  rw [if_neg (by simp)]
  rcases h with ⟨h1, h2⟩ | ⟨h0, ⟨q, hq, h1, h2⟩, h3⟩
  ·exact .inl ⟨h1, fun q hq => by
    rcases List.mem_append.1 hq with h | h
    ·exact h2 q h
    ·simp at h; subst h; exact he⟩
  ·exact .inr ⟨h0, ⟨q, List.mem_append_left _ hq, h1, h2⟩, fun r hr hre => by
    rcases List.mem_append.1 hr with h | h
    ·exact h3 r h hre
    ·simp at h; subst h; rw [he] at hre; simp at hre⟩
 | true =>
  rcases h with ⟨h1, h2⟩ | ⟨h0, ⟨q, hq, h1, h2⟩, h3⟩
  ·rw [if_pos ⟨rfl, by omega⟩]
   exact .inr ⟨hp, ⟨p, by simp, he, rfl⟩, fun r hr hre => by
    rcases List.mem_append.1 hr with h | h
    ·rw [h2 r h] at hre; simp at hre
    ·simp at h; subst h; exact Int.le_refl _⟩
  ·by_cases hlt : rulP n p < t
   ·rw [if_pos ⟨rfl, .inr hlt⟩]
    exact .inr ⟨hp, ⟨p, by simp, he, rfl⟩, fun r hr hre => by
     rcases List.mem_append.1 hr with h | h
     ·have := h3 r h hre; omega
     ·simp at h; subst h; exact Int.le_refl _⟩
   ·rw [if_neg (by omega)]
    exact .inr ⟨h0, ⟨q, List.mem_append_left _ hq, h1, h2⟩, fun r hr hre => by
     rcases List.mem_append.1 hr with h | h
     ·exact h3 r h hre
     ·simp at h; subst h; omega⟩
theorem ce5 {n : NF} {l : List Int} (hr : ∀ p ∈ l, 0 ≤ rulP n p) : TagI n l (tagF n l) := by
 have key : ∀ (l pre : List Int) (t : Int), (∀ p ∈ l, 0 ≤ rulP n p) → TagI n pre t → TagI n (pre ++ l) (l.foldl (tagS n) t) := by
  intro l
  induction l with
  | nil => intro pre t _ h; simpa using h
  | cons p l ih =>
   intro pre t hp h
   have := ih (pre ++ [p]) (tagS n t p) (fun q hq => hp q (List.mem_cons_of_mem _ hq)) (h.step (hp p (by simp)))
   simpa using this
 have := key l [] (-1) hr (.inl ⟨rfl, by simp⟩)
 simpa [tagF] using this
theorem dx2 {n : NF} {l : List Int} (hr : ∀ p ∈ l, 0 ≤ rulP n p) (h : ∀ p ∈ l, endP n p = false) : tagF n l = -1 := by
 rcases ce5 hr with h1 | ⟨_, ⟨p, hp, h2, _⟩, _⟩
 ·exact h1.1
 ·rw [h p hp] at h2; simp at h2
theorem do5 {n : NF} {l : List Int} (hr : ∀ p ∈ l, 0 ≤ rulP n p) {r : Int} (h1 : ∃ p ∈ l, endP n p = true ∧ rulP n p = r) (h2 : ∀ p ∈ l, endP n p = true → r ≤ rulP n p) : tagF n l = r := by
 obtain ⟨p, hp, he, hrp⟩ := h1
 rcases ce5 hr with h | ⟨_, ⟨q, hq, hqe, hqr⟩, h3⟩
 ·rw [h.2 p hp] at he; simp at he
 ·have a := h3 p hp he
  have b := h2 q hq hqe
  omega
theorem dx1 (n : NF) {l : List Int} {i : Nat} {v : Int} (hv : l[i]? = some v) : tagF n (l.take (i + 1)) = tagS n (tagF n (l.take i)) v := by
 unfold tagF
 rw [List.take_add_one, hv, List.foldl_append]; rfl
theorem NF.Good.at {n : NF} (g : n.Good) {p : Int} (hp : 0 ≤ p ∧ p < n.sets.length) : n.rules[p.toNat]? = some (rulP n p) ∧ n.ends[p.toNat]? = some (endP n p) ∧ 0 ≤ rulP n p ∧ rulP n p ≤ 39 := by
 obtain ⟨r, hr⟩ := ab5 (l := n.rules) (i := p.toNat) (by rw [g.r]; omega)
 obtain ⟨e, he⟩ := ab5 (l := n.ends) (i := p.toNat) (by rw [g.e]; omega)
 have e1 : rulP n p = r := by unfold rulP; rw [List.getD, hr]; rfl
 have e2 : endP n p = e := by unfold endP; rw [List.getD, he]; rfl
 rw [e1, e2]
 exact ⟨hr, he, g.rr r (List.mem_of_getElem? hr)⟩
section
variable {E : Env} [R : NfaR E]
theorem et4 (x y : EV) (a b : List Int) (hx : ai9 x a) (hy : ai9 y b) (H : Heap) : den E R.ae8 [x, y] H = some (.ret (.bool (decide (a = b))), H) := by
 have lx := hx.lenI
 have ly := hy.lenI
 have xle := hx.leI
 refine ah2 R.aq2 (by simp) ?_
 unfold Gn.ai1 Gn.ag2
 by_cases hl : a.length = b.length
 ·have hll : ((a.length : Int) != (b.length : Int)) = false := by simp [hl]
  rw [← hl] at ly
  have hll2 : ((a.length : Int) != (a.length : Int)) = false := by simp
  simp (disch := omega) only [go_sem, simprocAttr, lx, ly, hll2]
  refine ad5 (ι := Nat) (fun i => i ≤ a.length ∧ a.take i = b.take i) (fun i => a.length - i) (fun i => [(0, x), (1, y), (5, .int .i64 i)]) (fun _ => H) 0 ⟨by omega, rfl⟩ ?_ rfl ?_
  ·simp (disch := omega) only [go_sem, simprocAttr, Sl]
  ·rintro i t ⟨hi, hp⟩ ht K hK
   simp (disch := omega) only [go_sem, simprocAttr, Sl] at ht
   by_cases hlt : i < a.length
   ·obtain ⟨v, hv⟩ := ab5 hlt
    obtain ⟨w, hw⟩ := ab5 (l := b) (i := i) (by omega)
    have h1 := hx.at hv
    have h2 := hy.at hw
    by_cases e : v = w
    ·subst e
     have hk := hK (i + 1)
     have hnp : a.take (i + 1) = b.take (i + 1) := by rw [List.take_add_one, List.take_add_one, hv, hw, hp]
     have hne : (v != v) = false := by simp
     clear hK hp
     repeat' first | (simp (disch := first | omega | assumption) only [go_sem, simprocAttr, *]) | refine aa2 (fun hb=>?_) fun hb=>?_ | refine aa3 (fun hb=>?_) fun hb=>?_
     all_goals (try simp only [FX] at *)
     all_goals first | omega | skip
     refine hk _ _ ⟨by omega, hnp⟩ (by omega) ?_ rfl
     simp (disch := omega) only [go_sem, simprocAttr, Sl, ht, and_self, ab6]
    ·have hne : (v != w) = true := by simp [e]
     have hf : decide (a = b) = false := decide_eq_false fun h => by subst h; rw [hv] at hw; exact e (Option.some.inj hw)
     rw [hf]
     clear hK hp e hf
     repeat' first | (simp (disch := first | omega | assumption) only [go_sem, simprocAttr, *]) | refine aa2 (fun hb=>?_) fun hb=>?_ | refine aa3 (fun hb=>?_) fun hb=>?_
     all_goals (try simp only [FX] at *)
     all_goals first | omega | exact af3 rfl rfl
   ·have hie : i = a.length := by omega
    have he : decide (a = b) = true := decide_eq_true (by
     rw [hie, List.take_length, hl, List.take_length] at hp; exact hp)
    rw [he]
    clear hK hp he
    repeat' first | (simp (disch := first | omega | assumption) only [go_sem, simprocAttr, *]) | refine aa2 (fun hb=>?_) fun hb=>?_ | refine aa3 (fun hb=>?_) fun hb=>?_
    all_goals (try simp only [FX] at *)
    all_goals first | omega | exact af3 rfl rfl
 ·have hf : decide (a = b) = false := decide_eq_false fun h => hl (by rw [h])
  have hll : ((a.length : Int) != (b.length : Int)) = true := by simp; omega
  rw [hf]
  clear hf
  repeat' first | (simp (disch := first | omega | assumption) only [go_sem, simprocAttr, *]) | refine aa2 (fun hb=>?_) fun hb=>?_ | refine aa3 (fun hb=>?_) fun hb=>?_
  exact af3 rfl rfl
theorem ez7 (n : NF) (g : n.Good) (x : EV) (l : List Int) (hx : ai9 x l) (hin : InP n.sets.length l) (H : Heap) : den E R.ba1 [n.E, x] H = some (.ret (.int .i64 (tagF n l)), H) := by
 obtain ⟨o0, o1, o2, o3, o4⟩ := n.one
 have lx := hx.lenI
 have lle := hx.leI
 refine ah2 R.bx1 (by simp) ?_
 unfold Gn.bc8 Gn.au8
 unfold EV.one at o0 o1 o2 o3 o4
 unfold NF.E
 simp (disch := omega) only [go_sem, simprocAttr, o0, o1, o2, o3, o4, lx]
 refine ad5 (ι := Nat) (fun i => i ≤ l.length) (fun i => l.length - i) (fun i => [(2, .ptr H.length 6 0 0), (5, .int .i64 (tagF n (l.take i))), (8, x), (9, .int .i64 l.length), (10, .int .i64 i)]) (fun _ => H ++ [some (.row 6 [.agg [n.x0, n.x1, n.x2, n.x3, n.x4, .int .i64 n.m]])]) 0 (by omega) ?_ rfl ?_
 ·simp (disch := omega) only [go_sem, simprocAttr, Sl]
  simp [tagF]
 ·intro i t hi ht K hK
  simp (disch := omega) only [go_sem, simprocAttr, Sl] at ht
  by_cases hlt : i < l.length
  ·obtain ⟨p, hp⟩ := ab5 hlt
   have hpi := hin p (List.mem_of_getElem? hp)
   obtain ⟨hr, he, hr0, hr39⟩ := g.at hpi
   have hre : ar2 1 p n.x1 = some (.iptr [.int .i64 (rulP n p)] 0) := n.h1.elemI hpi.1 (ay3 hr)
   have hee : ar2 1 p n.x4 = some (.iptr [.bool (endP n p)] 0) := n.h4.elemI (e := .bool (endP n p)) hpi.1 (by rw [List.getElem?_map, he]; rfl)
   have hat := hx.at hp
   have hk := hK (i + 1)
   rw [dx1 n hp] at hk
   unfold tagS at hk
   cases hend : endP n p with
   | true =>
    rw [hend] at hk hee
    clear hK hr he
    by_cases hc : tagF n (l.take i) < 0 ∨ rulP n p < tagF n (l.take i)
    ·rw [if_pos ⟨rfl, hc⟩] at hk
     repeat' first | (simp (disch := first | omega | assumption) only [go_sem, simprocAttr, *]) | refine aa2 (fun hb=>?_) fun hb=>?_ | refine aa3 (fun hb=>?_) fun hb=>?_
     all_goals (try simp only [FX] at *)
     all_goals first | omega | (refine hk _ _ (by omega) (by omega) ?_ rfl; simp (disch := omega) only [go_sem, simprocAttr, Sl, ht, and_self, ab6])
    ·rw [if_neg (fun h => hc h.2)] at hk
     repeat' first | (simp (disch := first | omega | assumption) only [go_sem, simprocAttr, *]) | refine aa2 (fun hb=>?_) fun hb=>?_ | refine aa3 (fun hb=>?_) fun hb=>?_
     all_goals (try simp only [FX] at *)
     all_goals first | omega | (refine hk _ _ (by omega) (by omega) ?_ rfl; simp (disch := omega) only [go_sem, simprocAttr, Sl, ht, and_self, ab6])
   | false =>
    rw [hend] at hk hee
    rw [if_neg (by simp)] at hk
    clear hK hr he
    repeat' first | (simp (disch := first | omega | assumption) only [go_sem, simprocAttr, *]) | refine aa2 (fun hb=>?_) fun hb=>?_ | refine aa3 (fun hb=>?_) fun hb=>?_
    all_goals (try simp only [FX] at *)
    all_goals first | omega | skip
    refine hk _ _ (by omega) (by omega) ?_ rfl
    simp (disch := omega) only [go_sem, simprocAttr, Sl, ht, and_self, ab6]
  ·have hie : i = l.length := by omega
   rw [hie, List.take_length] at ht
   clear hK
   repeat' first | (simp (disch := first | omega | assumption) only [go_sem, simprocAttr, *]) | refine aa2 (fun hb=>?_) fun hb=>?_ | refine aa3 (fun hb=>?_) fun hb=>?_
   all_goals (try simp only [FX] at *)
   all_goals first | omega | exact ab4 rfl rfl
theorem dp5 (n : NF) (g : n.Good) (x : EV) (l : List Int) (hx : ai9 x l) (hin : InP n.sets.length l) (H : Heap) : den E R.ar5 [n.E, x] H = some (.ret (.int .i64 (tagF n l)), H) := by
 obtain ⟨o0, o1, o2, o3, o4⟩ := n.one
 have lx := hx.lenI
 have lle := hx.leI
 have hrl : ∀ p ∈ l, 0 ≤ rulP n p := fun p hp => (g.at (hin p hp)).2.2.1
 have hrl9 : ∀ p ∈ l, rulP n p ≤ 39 := fun p hp => (g.at (hin p hp)).2.2.2
 refine ah2 R.bj2 (by simp) ?_
 unfold Gn.ar0 Gn.an0
 unfold EV.one at o0 o1 o2 o3 o4
 unfold NF.E
 simp (disch := omega) only [go_sem, simprocAttr, o0, o1, o2, o3, o4]
 refine ad5 (ι := Nat) (fun r => r ≤ 40 ∧ ∀ p ∈ l, endP n p = true → (r : Int) ≤ rulP n p) (fun r => 40 - r) (fun r => [(1, x), (2, .ptr H.length 6 0 0), (5, .int .i64 r)]) (fun _ => H ++ [some (.row 6 [.agg [n.x0, n.x1, n.x2, n.x3, n.x4, .int .i64 n.m]])]) 0 ⟨by omega, fun p hp _ => by have := hrl p hp; simpa using this⟩ ?_ rfl ?_
 ·simp (disch := omega) only [go_sem, simprocAttr, Sl]
 ·rintro r t ⟨hr, hall⟩ ht K hK
  simp (disch := omega) only [go_sem, simprocAttr, Sl] at ht
  by_cases hlt : r < 40
  ·have hk := hK (r + 1)
   clear hK
   repeat' first | (simp (disch := first | omega | assumption) only [go_sem, simprocAttr, *]) | refine aa2 (fun hb=>?_) fun hb=>?_ | refine aa3 (fun hb=>?_) fun hb=>?_
   all_goals (try simp only [FX] at *)
   all_goals first | omega | skip
   refine ad5 (ι := Nat) (fun i => i ≤ l.length ∧ ∀ p ∈ l.take i, endP n p = true → (r : Int) + 1 ≤ rulP n p) (fun i => l.length - i) (fun i => [(1, x), (2, .ptr H.length 6 0 0), (5, .int .i64 r), (6, .int .i64 i)]) (fun _ => H ++ [some (.row 6 [.agg [n.x0, n.x1, n.x2, n.x3, n.x4, .int .i64 n.m]])]) 0 ⟨by omega, by simp⟩ ?_ rfl ?_
   ·simp (disch := omega) only [go_sem, simprocAttr, Sl, ht, and_self]
   ·rintro i t2 ⟨hi, hdone⟩ ht2 K2 hK2
    simp (disch := omega) only [go_sem, simprocAttr, Sl] at ht2
    by_cases hil : i < l.length
    ·obtain ⟨p, hp⟩ := ab5 hil
     have hpm := List.mem_of_getElem? hp
     have hpi := hin p hpm
     obtain ⟨hru, he, hr0, hr39⟩ := g.at hpi
     have hre : ar2 1 p n.x1 = some (.iptr [.int .i64 (rulP n p)] 0) := n.h1.elemI hpi.1 (ay3 hru)
     have hee : ar2 1 p n.x4 = some (.iptr [.bool (endP n p)] 0) := n.h4.elemI (e := .bool (endP n p)) hpi.1 (by rw [List.getElem?_map, he]; rfl)
     have hat := hx.at hp
     have hallp := hall p hpm
     have hk2 := hK2 (i + 1)
     have hstep : (endP n p = true → (r : Int) + 1 ≤ rulP n p) → ∀ q ∈ l.take (i + 1), endP n q = true → (r : Int) + 1 ≤ rulP n q := fun h q hq hqe => by
      rw [List.take_add_one, hp] at hq
      rcases List.mem_append.1 hq with h' | h'
      ·exact hdone q h' hqe
      ·simp at h'; subst h'; exact h hqe
     cases hend : endP n p with
     | true =>
      rw [hend] at hee hallp hstep
      have hle := hallp rfl
      by_cases heq : rulP n p = r
      ·have hres : tagF n l = r := do5 hrl ⟨p, hpm, hend, heq⟩ hall
       have hbe : (rulP n p == (r : Int)) = true := by simp [heq]
       rw [hres]
       clear hK2 hk2 hk hru he hstep hdone hall hallp hend
       repeat' first | (simp (disch := first | omega | assumption) only [go_sem, simprocAttr, *]) | refine aa2 (fun hb=>?_) fun hb=>?_ | refine aa3 (fun hb=>?_) fun hb=>?_
       all_goals (try simp only [FX] at *)
       all_goals first | omega | exact ab4 rfl rfl
      ·have hst := hstep fun _ => by omega
       have hbe : (rulP n p == (r : Int)) = false := by simp [heq]
       clear hK2 hk hru he hstep hdone hall hallp hend
       repeat' first | (simp (disch := first | omega | assumption) only [go_sem, simprocAttr, *]) | refine aa2 (fun hb=>?_) fun hb=>?_ | refine aa3 (fun hb=>?_) fun hb=>?_
       all_goals (try simp only [FX] at *)
       all_goals first | omega | skip
       refine hk2 _ _ ⟨by omega, hst⟩ (by omega) ?_ rfl
       simp (disch := omega) only [go_sem, simprocAttr, Sl, ht2, and_self, ab6]
     | false =>
      have hst := hstep (by rw [hend]; simp)
      rw [hend] at hee
      clear hK2 hk hru he hstep hdone hall hallp hend
      repeat' first | (simp (disch := first | omega | assumption) only [go_sem, simprocAttr, *]) | refine aa2 (fun hb=>?_) fun hb=>?_ | refine aa3 (fun hb=>?_) fun hb=>?_
      all_goals (try simp only [FX] at *)
      all_goals first
       | omega
       | (refine hk2 _ _ ⟨by omega, hst⟩ (by omega) ?_ rfl; simp (disch := omega) only [go_sem, simprocAttr, Sl, ht2, and_self, ab6])
    ·have hie : i = l.length := by omega
     rw [hie, List.take_length] at hdone
     clear hK2
     repeat' first | (simp (disch := first | omega | assumption) only [go_sem, simprocAttr, *]) | refine aa2 (fun hb=>?_) fun hb=>?_ | refine aa3 (fun hb=>?_) fun hb=>?_
     all_goals (try simp only [FX] at *)
     all_goals first | omega | skip
     refine hk _ _ ⟨by omega, fun p hp he => by have := hdone p hp he; push_cast; omega⟩ (by omega) ?_ rfl
     simp (disch := omega) only [go_sem, simprocAttr, Sl, ht2, and_self, ab6]
  ·have h40 : r = 40 := by omega
   have hres : tagF n l = -1 := dx2 hrl fun p hp => by
    cases he : endP n p with
    | false => rfl
    | true =>
     have a := hall p hp he
     have b := hrl9 p hp
     omega
   rw [hres]
   clear hK hall hres
   repeat' first | (simp (disch := first | omega | assumption) only [go_sem, simprocAttr, *]) | refine aa2 (fun hb=>?_) fun hb=>?_ | refine aa3 (fun hb=>?_) fun hb=>?_
   all_goals (try simp only [FX] at *)
   all_goals first | omega | exact ab4 rfl rfl
end
def do7 (n : NF) (l : List Int) (b : Nat) : List Int := (ao0 (az2 n (ag5 n.sets.length) l) 0).filter (hasP n b)
def begL (n : NF) (b : Nat) : List Int := n.first.filter (hasP n b)
theorem ee1 {l : List Int} {k : Nat} : ∀ {M : List Bool}, InP k l → ∀ (j : Nat) (v : Bool), M[j]? = some v → (aq9 M l)[j]? = some (v || decide ((j : Int) ∈ l)) := by
 induction l with
 | nil => intro M _ j v h; simpa [aq9] using h
 | cons q l ih =>
  intro M hin j v hv
  have hq := hin q (by simp)
  show (aq9 (M.set q.toNat true) l)[j]? = _
  by_cases hj : q.toNat = j
  ·have hjl := (List.getElem?_eq_some_iff.1 hv).1
   rw [ih (fun p hp => hin p (List.mem_cons_of_mem _ hp)) j true (by rw [hj]; exact List.getElem?_set_self hjl)]
   have : ((j : Nat) : Int) = q := by omega
   simp [this]
  ·rw [ih (fun p hp => hin p (List.mem_cons_of_mem _ hp)) j v (by rw [List.getElem?_set_ne hj]; exact hv)]
   have : ¬ ((j : Nat) : Int) = q := by omega
   simp [this]
theorem ea0 {K : Int} : ∀ {l : List Int} {a : Int}, risF K a l = true → ∀ p ∈ l, a < p
 | [], _, _, p, hp => by simp at hp
 | x :: l, a, h, p, hp => by
  simp only [risF, Bool.and_eq_true, decide_eq_true_eq] at h
  rcases List.mem_cons.1 hp with rfl | hp
  ·exact h.1
  ·have := ea0 h.2.2 p hp; omega
theorem by6 : ∀ (M : List Bool) (i : Int) (l : List Int), risF (i + M.length) (i - 1) l = true → (∀ j : Nat, j < M.length → M[j]? = some (decide (i + j ∈ l))) → ao0 M i = l
 | [], i, l, h, _ => by
  cases l with
  | nil => rfl
  | cons x l => simp [risF] at h; omega
 | b :: M, i, l, h, hm => by
  have h0 := hm 0 (by simp)
  simp only [List.getElem?_cons_zero, Option.some.injEq, Int.ofNat_eq_natCast, Int.natCast_zero, Int.add_zero] at h0
  have hrest : ∀ l' : List Int, (∀ p : Int, i < p → (p ∈ l ↔ p ∈ l')) → ∀ j : Nat, j < M.length → M[j]? = some (decide (i + 1 + j ∈ l')) := fun l' he j hj => by
   have := hm (j + 1) (by simpa using hj)
   simp only [List.getElem?_cons_succ] at this
   rw [this]
   have e : i + ((j + 1 : Nat) : Int) = i + 1 + (j : Int) := by push_cast; omega
   rw [e]
   congr 2
   exact propext (he _ (by omega))
  have hlen : i + ((b :: M).length : Int) = i + 1 + (M.length : Int) := by simp; omega
  rw [hlen] at h
  cases hb : b with
  | true =>
   rw [hb] at h0
   have hi : i ∈ l := by simpa using h0.symm
   cases l with
   | nil => simp at hi
   | cons x l' =>
    have h' := h
    simp only [risF, Bool.and_eq_true, decide_eq_true_eq] at h'
    have hx : x = i := by
     rcases List.mem_cons.1 hi with e | e
     ·exact e.symm
     ·have := ea0 h'.2.2 i e; omega
    subst hx
    have ih := by6 M (x + 1) l' (by rw [show x + 1 - 1 = x by omega]; exact h'.2.2) (hrest l' fun p hp => by simp; omega)
    simp [ao0, ih]
  | false =>
   rw [hb] at h0
   have hi : i ∉ l := by
    intro hc
    rw [decide_eq_true hc] at h0
    simp at h0
   have ih := by6 M (i + 1) l (by
    rw [show i + 1 - 1 = i by omega]
    cases l with
    | nil => rfl
    | cons x l' =>
     simp only [risF, Bool.and_eq_true, decide_eq_true_eq] at h ⊢
     have : x ≠ i := fun e => hi (by simp [e])
     exact ⟨by omega, h.2⟩) (hrest l fun p _ => Iff.rfl)
   simp [ao0, ih]
theorem de9 {k : Nat} {l : List Int} (h : ris k l = true) : ao0 (aq9 (ag5 k) l) 0 = l := by
 have hin := InP.ris (by omega) h
 have hl : (aq9 (ag5 k) l).length = k := by rw [bd1]; simp [ag5]
 refine by6 _ 0 l (by rw [hl]; simpa [ris] using h) fun j hj => ?_
 rw [hl] at hj
 have := ee1 (M := ag5 k) hin j false (by simp [ag5, hj])
 simpa using this
section
variable {E : Env} [R : NfaR E] (hH : bg0 E R.ar4 .u8) (hR : bg0 E R.ah0 .i64)
theorem fc2 (n : NF) (H : Heap) : den E R.as6 [n.E] H = some (.ret n.E, H) := by
 obtain ⟨o0, o1, o2, o3, o4⟩ := n.one
 have c0 := n.h0.one.1
 have c1 := n.h1.one.1
 have c2 := n.h2.one.1
 have c3 := n.h3.one.1
 have c4 := n.h4.one.1
 have hok : n.E.ok H.length = true := by
  unfold NF.E
  simp [EV.ok, okL, n.h0.ok, n.h1.ok, n.h2.ok, n.h3.ok, n.h4.ok]
 refine ah2 R.bl6 (by simp) ?_
 unfold Gn.as5 Gn.ao5
 unfold EV.one at o0 o1 o2 o3 o4
 unfold EV.cells at c0 c1 c2 c3 c4
 unfold NF.E at hok ⊢
 repeat' first | (simp (disch := first | omega | assumption) only [go_sem, simprocAttr, *]) | refine aa2 (fun hb=>?_) fun hb=>?_ | refine aa3 (fun hb=>?_) fun hb=>?_
 exact ab4 hok rfl
include hH in
theorem em1 (n : NF) (hm : mayB n = true) (hf : n.first.length ≤ 1000000) (b : Nat) (hb : b < 256) (H : Heap) : ∃ y, den E R.bk5 [n.E, .int .u8 b] H = some (.ret y, H) ∧ ai9 y (begL n b) := by
 have g := ay2 hm
 obtain ⟨y, hw, hy⟩ := di4 hH n n.x2 n.first (H ++ [some (.row 6 [n.E])]) (n.h2.arg _) hf g.fi b hb
 refine ⟨y, ?_, hy⟩
 have hmay := fun H => ch3 (E := E) n H
 rw [hm] at hmay
 obtain ⟨o0, o1, o2, o3, o4⟩ := n.one
 refine ah2 R.ci6 (by simp) ?_
 unfold Gn.bn8 Gn.bc9
 unfold EV.one at o0 o1 o2 o3 o4
 unfold NF.E at hw hmay ⊢
 repeat' first | (simp (disch := first | omega | assumption) only [go_sem, simprocAttr, *]) | refine aa2 (fun hb=>?_) fun hb=>?_ | refine aa3 (fun hb=>?_) fun hb=>?_
 exact ab4 (hy.ok _) rfl
include hH in
theorem fj5 (n : NF) (hm : mayB n = true) (x : EV) (l : List Int) (hx : ai9 x l) (hr : ris n.sets.length l = true) (b : Nat) (hb : b < 256) (H : Heap) : ∃ y, den E R.cd6 [n.E, x, .int .u8 b] H = some (.ret y, H) ∧ ai9 y (do7 n l b) := by
 have g := ay2 hm
 obtain ⟨y, hw, hy⟩ := et6 hH n g x l hx (InP.ris (by omega) hr) b hb (H ++ [some (.row 6 [n.E])])
 refine ⟨y, ?_, hy⟩
 have hmay := fun H => ch3 (E := E) n H
 have hris := fun H => cp7 (E := E) n x l hx H
 rw [hm] at hmay
 rw [hr] at hris
 obtain ⟨o0, o1, o2, o3, o4⟩ := n.one
 refine ah2 R.dn1 (by simp) ?_
 unfold Gn.cw7 Gn.bu9
 unfold EV.one at o0 o1 o2 o3 o4
 unfold NF.E at hw hmay hris ⊢
 repeat' first | (simp (disch := first | omega | assumption) only [go_sem, simprocAttr, *]) | refine aa2 (fun hb=>?_) fun hb=>?_ | refine aa3 (fun hb=>?_) fun hb=>?_
 exact ab4 (hy.ok _) rfl
theorem ep2 (n : NF) (x : EV) (l : List Int) (hx : ai9 x l) (H : Heap) : den E R.bv1 [n.E, x] H = some (.ret (.int .i64 (if mayB n = true ∧ ris n.sets.length l = true then tagF n l else -1)), H) := by
 have hmay := fun H => ch3 (E := E) n H
 have hris := fun H => cp7 (E := E) n x l hx H
 obtain ⟨o0, o1, o2, o3, o4⟩ := n.one
 by_cases hm : mayB n = true
 ·by_cases hr : ris n.sets.length l = true
  ·rw [if_pos ⟨hm, hr⟩]
   have ht := fun H => ez7 (E := E) n (ay2 hm) x l hx (InP.ris (by omega) hr) H
   rw [hm] at hmay
   rw [hr] at hris
   clear hm hr
   refine ah2 R.bx0 (by simp) ?_
   unfold Gn.bs2 Gn.bc7
   unfold EV.one at o0 o1 o2 o3 o4
   unfold NF.E at hmay hris ht ⊢
   repeat' first | (simp (disch := first | omega | assumption) only [go_sem, simprocAttr, *]) | refine aa2 (fun hb=>?_) fun hb=>?_ | refine aa3 (fun hb=>?_) fun hb=>?_
   exact ab4 rfl rfl
  ·rw [if_neg (fun h => hr h.2)]
   rw [hm] at hmay
   rw [Bool.not_eq_true] at hr
   rw [hr] at hris
   clear hm hr
   refine ah2 R.bx0 (by simp) ?_
   unfold Gn.bs2 Gn.bc7
   unfold EV.one at o0 o1 o2 o3 o4
   unfold NF.E at hmay hris ⊢
   repeat' first | (simp (disch := first | omega | assumption) only [go_sem, simprocAttr, *]) | refine aa2 (fun hb=>?_) fun hb=>?_ | refine aa3 (fun hb=>?_) fun hb=>?_
   exact ab4 rfl rfl
 ·rw [if_neg (fun h => hm h.1)]
  rw [Bool.not_eq_true] at hm
  rw [hm] at hmay
  clear hm
  refine ah2 R.bx0 (by simp) ?_
  unfold Gn.bs2 Gn.bc7
  unfold EV.one at o0 o1 o2 o3 o4
  unfold NF.E at hmay hris ⊢
  repeat' first | (simp (disch := first | omega | assumption) only [go_sem, simprocAttr, *]) | refine aa2 (fun hb=>?_) fun hb=>?_ | refine aa3 (fun hb=>?_) fun hb=>?_
  exact ab4 rfl rfl
end
section
variable {E : Env} [R : NfaR E] (hH : bg0 E R.ar4 .u8) (hR : bg0 E R.ah0 .i64)
include hR in
theorem dy1 (n : NF) (hm : mayB n = true) (x : EV) (l : List Int) (hx : ai9 x l) (hin : InP n.sets.length l) (b : Nat) (hb : b < 256) (H : Heap) : den E R.ah8 [n.E, x, .bool false, .int .u8 b] H = some (.ret (slE 1 (ab3 (do7 n l b))), H) := by
 have h := cw9 hR n (ay2 hm) x l hx hin false b hb H
 rw [h]; rfl
end
end Abs
