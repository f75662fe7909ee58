/- A part. -/
import Derived.Test.YtddgppmcbjjliaaGreatDoorDtA
set_option linter.all false
namespace Abs
open Go
set_option maxRecDepth 20000
abbrev PL := List (List Int)
def subT (p : PL × List Int) (x : List Int) : PL × List Int :=
 if x = [] then (p.1, p.2 ++ [-1]) else (if x ∈ p.1 then p.1 else p.1 ++ [x], p.2 ++ [(p.1.idxOf x : Int)])
def nxL (n : NF) (i : Nat) (l : List Int) (b : Nat) : List Int := if i = 0 then begL n b else do7 n l b
def subR (n : NF) (fs : List Nat) (i : Nat) (ps : PL) : PL × List Int := (fs.map (nxL n i (ps.getD i []))).foldl subT (ps, [])
def subP (n : NF) (fs : List Nat) (i : Nat) (ps : PL) (c : Nat) : PL × List Int := ((fs.take c).map (nxL n i (ps.getD i []))).foldl subT (ps, [])
structure SB where
 ps : PL
 rows : List (List Int)
def subB (n : NF) (fs : List Nat) : Nat → SB
 | 0 => ⟨[[]], []⟩
 | i + 1 => if i < (subB n fs i).ps.length then ⟨(subR n fs i (subB n fs i).ps).1, (subB n fs i).rows ++ [(subR n fs i (subB n fs i).ps).2]⟩ else subB n fs i
theorem bm1 {n : NF} {fs : List Nat} {i : Nat} (h : i < (subB n fs i).ps.length) : subB n fs (i + 1) = ⟨(subR n fs i (subB n fs i).ps).1, (subB n fs i).rows ++ [(subR n fs i (subB n fs i).ps).2]⟩ := by
 show (if i < (subB n fs i).ps.length then _ else _) = _
 rw [if_pos h]
theorem bm0 {n : NF} {fs : List Nat} {i : Nat} (h : (subB n fs i).ps.length ≤ i) : ∀ k, subB n fs (i + k) = subB n fs i
 | 0 => rfl
 | k + 1 => by
  have ih := bm0 h k
  show (if i + k < (subB n fs (i + k)).ps.length then _ else _) = _
  rw [ih, if_neg (by omega)]
  exact ih
theorem bb2 {n : NF} {fs : List Nat} {i : Nat} {ps : PL} : subP n fs i ps 0 = (ps, []) := by simp [subP]
theorem ce7 {n : NF} {fs : List Nat} {i : Nat} {ps : PL} {c b : Nat} (h : fs[c]? = some b) : subP n fs i ps (c + 1) = subT (subP n fs i ps c) (nxL n i (ps.getD i []) b) := by
 unfold subP
 rw [List.take_add_one, h, List.map_append, List.foldl_append]
 rfl
theorem bl9 {n : NF} {fs : List Nat} {i : Nat} {ps : PL} : subP n fs i ps fs.length = subR n fs i ps := by unfold subP subR; rw [List.take_length]
theorem dx5 (p : PL × List Int) (x : List Int) : ∃ q, (subT p x).1 = p.1 ++ q ∧ (subT p x).2.length = p.2.length + 1 ∧ ∀ y ∈ q, y = x ∧ x ≠ [] := by
 unfold subT
 split
 ·exact ⟨[], by simp, by simp, by simp⟩
 ·rename_i hx
  by_cases hm : x ∈ p.1
  ·refine ⟨[], ?_, by simp, by simp⟩
   simp only [if_pos hm, List.append_nil]
  ·refine ⟨[x], ?_, by simp, fun y hy => ?_⟩
   ·simp only [if_neg hm]
   ·simp only [List.mem_cons, List.not_mem_nil, or_false] at hy
    exact ⟨hy, hx⟩
theorem fd7 : ∀ (l : PL) (p : PL × List Int), ∃ q, (l.foldl subT p).1 = p.1 ++ q ∧ (l.foldl subT p).2.length = p.2.length + l.length ∧ ∀ y ∈ q, y ∈ l ∧ y ≠ []
 | [], p => ⟨[], by simp, by simp, by simp⟩
 | x :: l, p => by
  obtain ⟨q1, h1, h2, h3⟩ := dx5 p x
  obtain ⟨q2, g1, g2, g3⟩ := fd7 l (subT p x)
  refine ⟨q1 ++ q2, by rw [List.foldl_cons, g1, h1, List.append_assoc], by rw [List.foldl_cons, g2, h2, List.length_cons]; omega, fun y hy => ?_⟩
  rcases List.mem_append.1 hy with hy | hy
  ·obtain ⟨rfl, hne⟩ := h3 y hy
   exact ⟨by simp, hne⟩
  ·exact ⟨List.mem_cons_of_mem _ (g3 y hy).1, (g3 y hy).2⟩
theorem bt1 (n : NF) (fs : List Nat) (i : Nat) (ps : PL) (c : Nat) : ∃ q, (subP n fs i ps c).1 = ps ++ q ∧ (subP n fs i ps c).2.length = min c fs.length ∧ ∀ y ∈ q, (∃ b ∈ fs, y = nxL n i (ps.getD i []) b) ∧ y ≠ [] := by
 obtain ⟨q, h1, h2, h3⟩ := fd7 ((fs.take c).map (nxL n i (ps.getD i []))) (ps, [])
 refine ⟨q, h1, by rw [show (subP n fs i ps c).2.length = _ from h2]; simp, fun y hy => ?_⟩
 obtain ⟨hm, hne⟩ := h3 y hy
 obtain ⟨b, hb, rfl⟩ := List.mem_map.1 hm
 exact ⟨⟨b, List.mem_of_mem_take hb, rfl⟩, hne⟩
theorem cj7 (n : NF) (fs : List Nat) (i : Nat) (ps : PL) (c : Nat) : ∃ q, (subR n fs i ps).1 = (subP n fs i ps c).1 ++ q := by
 have e : subR n fs i ps = ((fs.drop c).map (nxL n i (ps.getD i []))).foldl subT (subP n fs i ps c) := by
  unfold subR subP
  rw [← List.foldl_append, ← List.map_append, List.take_append_drop]
 obtain ⟨q, h1, _⟩ := fd7 ((fs.drop c).map (nxL n i (ps.getD i []))) (subP n fs i ps c)
 exact ⟨q, by rw [e, h1]⟩
theorem cu4 {n : NF} {fs : List Nat} : ∀ (k i : Nat), ∃ q, (subB n fs (i + k)).ps = (subB n fs i).ps ++ q
 | 0, i => ⟨[], by simp⟩
 | k + 1, i => by
  obtain ⟨q, h⟩ := cu4 (n := n) (fs := fs) k i
  by_cases hl : i + k < (subB n fs (i + k)).ps.length
  ·rw [show i + (k + 1) = (i + k) + 1 by omega, bm1 hl]
   obtain ⟨q2, h2, _⟩ := bt1 n fs (i + k) (subB n fs (i + k)).ps fs.length
   rw [bl9] at h2
   exact ⟨q ++ q2, by simp only; rw [h2, h, List.append_assoc]⟩
  ·rw [show i + (k + 1) = (i + k) + 1 by omega, bm0 (i := i + k) (by omega) 1]
   exact ⟨q, h⟩
theorem dx6 {n : NF} {fs : List Nat} {i j : Nat} (h : i ≤ j) : (subB n fs i).ps.length ≤ (subB n fs j).ps.length := by
 obtain ⟨q, hq⟩ := cu4 (n := n) (fs := fs) (j - i) i
 rw [Nat.add_sub_cancel' h] at hq
 rw [hq]
 simp
def Big (n : NF) (fs : List Nat) : Prop := ∃ i, 600 < (subB n fs i).ps.length
theorem ed3 {n : NF} {fs : List Nat} {i : Nat} (h : (subB n fs i).ps.length ≤ i) (hl : (subB n fs i).ps.length ≤ 600) : ¬Big n fs := by
 rintro ⟨j, hj⟩
 by_cases hij : i ≤ j
 ·have := bm0 h (j - i)
  rw [Nat.add_sub_cancel' hij] at this
  rw [this] at hj
  omega
 ·have := dx6 (n := n) (fs := fs) (show j ≤ i by omega)
  omega
theorem dn6 {n : NF} {fs : List Nat} {i c : Nat} (h : i < (subB n fs i).ps.length) (hp : 600 < (subP n fs i (subB n fs i).ps c).1.length) : Big n fs := by
 refine ⟨i + 1, ?_⟩
 rw [bm1 h]
 obtain ⟨q, hq⟩ := cj7 n fs i (subB n fs i).ps c
 simp only
 rw [hq, List.length_append]
 omega
def bg7 (n : NF) (ps : PL) : List Int := n.m :: ps.tail.map (tagF n)
theorem bs9 {n : NF} {ps : PL} (h : 0 < ps.length) : (bg7 n ps).length = ps.length := by
 cases ps with
 | nil => simp at h
 | cons a ps => simp [bg7]
theorem ct7 {n : NF} {ps : PL} (h : 0 < ps.length) (x : List Int) : bg7 n (ps ++ [x]) = bg7 n ps ++ [tagF n x] := by
 cases ps with
 | nil => simp at h
 | cons a ps => simp [bg7]
/-! ### Rising lists -/
theorem bk2 {k : Int} (q : Int → Bool) : ∀ {l : List Int} {a : Int}, risF k a l = true → risF k a (l.filter q) = true
 | [], _, h => h
 | x :: l, a, h => by
  simp only [risF, Bool.and_eq_true, decide_eq_true_eq] at h
  rw [List.filter_cons]
  split
  ·simp only [risF, Bool.and_eq_true, decide_eq_true_eq]
   exact ⟨h.1, h.2.1, bk2 q h.2.2⟩
  ·have := bk2 q h.2.2
   have lower : ∀ {l : List Int} {a b : Int}, a ≤ b → risF k b l = true → risF k a l = true := by
    intro l a b hab hl
    cases l with
    | nil => rfl
    | cons y l =>
     simp only [risF, Bool.and_eq_true, decide_eq_true_eq] at hl ⊢
     exact ⟨by omega, hl.2⟩
   exact lower (by omega) this
theorem cm1 : ∀ (M : List Bool) (i : Int), risF (i + M.length) (i - 1) (ao0 M i) = true
 | [], i => rfl
 | b :: M, i => by
  have ih := cm1 M (i + 1)
  rw [show i + 1 + (M.length : Int) = i + ((b :: M).length : Nat) by simp only [List.length_cons]; omega, show i + 1 - 1 = i by omega] at ih
  have lower : ∀ {l : List Int} {k a b : Int}, a ≤ b → risF k b l = true → risF k a l = true := by
   intro l k a b hab hl
   cases l with
   | nil => rfl
   | cons y l =>
    simp only [risF, Bool.and_eq_true, decide_eq_true_eq] at hl ⊢
    exact ⟨by omega, hl.2⟩
  unfold ao0
  cases b with
  | true =>
   simp only [if_true, List.cons_append, List.nil_append, risF, Bool.and_eq_true, decide_eq_true_eq]
   exact ⟨by omega, by simp only [List.length_cons]; omega, ih⟩
  | false => exact lower (by omega) ih
theorem ca6 : ∀ (l : List Int) (M : List Bool), (aq9 M l).length = M.length
 | [], M => rfl
 | x :: l, M => by
  unfold aq9
  rw [List.foldl_cons]
  have := ca6 l (M.set x.toNat true)
  unfold aq9 at this
  rw [this, List.length_set]
theorem ca7 (n : NF) : ∀ (l : List Int) (M : List Bool), (az2 n M l).length = M.length
 | [], M => rfl
 | x :: l, M => by
  unfold az2
  rw [List.foldl_cons]
  have := ca7 n l (aq9 M (folP n x))
  unfold az2 at this
  rw [this, ca6]
theorem dz9 (n : NF) (l : List Int) (b : Nat) : ris n.sets.length (do7 n l b) = true := by
 unfold do7 ris
 refine bk2 _ ?_
 have := cm1 (az2 n (ag5 n.sets.length) l) 0
 rw [ca7] at this
 simpa [ag5] using this
theorem eq6 {n : NF} (h : ris n.sets.length n.first = true) (b : Nat) : ris n.sets.length (begL n b) = true := by
 unfold begL ris
 exact bk2 _ h
theorem dc9 {n : NF} (h : ris n.sets.length n.first = true) (i : Nat) (l : List Int) (b : Nat) : ris n.sets.length (nxL n i l b) = true := by
 unfold nxL
 split
 ·exact eq6 h b
 ·exact dz9 n l b
structure SI (n : NF) (fs : List Nat) (i : Nat) : Prop where
 pos : 0 < (subB n fs i).ps.length
 hd : (subB n fs i).ps[0]? = some []
 rl : (subB n fs i).rows.length = i
 ris : ∀ x ∈ (subB n fs i).ps, ris n.sets.length x = true
 ne : ∀ (j : Nat) (x : List Int), 0 < j → (subB n fs i).ps[j]? = some x → x ≠ []
 wid : ∀ l ∈ (subB n fs i).rows, l.length = fs.length
 le : i ≤ (subB n fs i).ps.length
 cel : ∀ l ∈ (subB n fs i).rows, ∀ v ∈ l, -1 ≤ v ∧ v < (subB n fs i).ps.length
structure SJ (n : NF) (fs : List Nat) (p : PL × List Int) : Prop where
 pos : 0 < p.1.length
 hd : p.1[0]? = some []
 ris : ∀ x ∈ p.1, Abs.ris n.sets.length x = true
 ne : ∀ (j : Nat) (x : List Int), 0 < j → p.1[j]? = some x → x ≠ []
 cel : ∀ v ∈ p.2, -1 ≤ v ∧ v < p.1.length
theorem SJ.step {n : NF} {fs : List Nat} {p : PL × List Int} (h : SJ n fs p) {x : List Int} (hx : Abs.ris n.sets.length x = true) : SJ n fs (subT p x) := by
 have hle : ∀ v ∈ p.2, -1 ≤ v ∧ v < ((p.1 ++ [x]).length : Int) := fun v hv => by
  have := h.cel v hv
  rw [List.length_append]
  simp only [List.length_singleton]
  omega
 unfold subT
 split
 ·refine ⟨h.pos, h.hd, h.ris, h.ne, fun v hv => ?_⟩
  rcases List.mem_append.1 hv with hv | hv
  ·exact h.cel v hv
  ·simp only [List.mem_cons, List.not_mem_nil, or_false] at hv
   subst hv
   have := h.pos
   simp only
   omega
 ·rename_i hne
  by_cases hm : x ∈ p.1
  ·simp only [if_pos hm]
   refine ⟨h.pos, h.hd, h.ris, h.ne, fun v hv => ?_⟩
   rcases List.mem_append.1 hv with hv | hv
   ·exact h.cel v hv
   ·simp only [List.mem_cons, List.not_mem_nil, or_false] at hv
    subst hv
    have := List.idxOf_lt_length_of_mem hm
    simp only
    omega
  ·simp only [if_neg hm]
   refine ⟨by simp, by rw [List.getElem?_append_left h.pos]; exact h.hd, fun y hy => ?_, fun j y hj hy => ?_, fun v hv => ?_⟩
   ·rcases List.mem_append.1 hy with hy | hy
    ·exact h.ris y hy
    ·simp only [List.mem_cons, List.not_mem_nil, or_false] at hy
     subst hy
     exact hx
   ·by_cases hlt : j < p.1.length
    ·rw [List.getElem?_append_left hlt] at hy
     exact h.ne j y hj hy
    ·rw [List.getElem?_append_right (by omega)] at hy
     have := List.mem_of_getElem? hy
     simp only [List.mem_cons, List.not_mem_nil, or_false] at this
     subst this
     exact hne
   ·rcases List.mem_append.1 hv with hv | hv
    ·exact hle v hv
    ·simp only [List.mem_cons, List.not_mem_nil, or_false] at hv
     subst hv
     have := List.idxOf_eq_length hm
     rw [this, List.length_append]
     simp only [List.length_singleton]
     omega
theorem SI.part {n : NF} {fs : List Nat} (hf : Abs.ris n.sets.length n.first = true) {i : Nat} (h : SI n fs i) : ∀ c, SJ n fs (subP n fs i (subB n fs i).ps c)
 | 0 => by
  rw [bb2]
  exact ⟨h.pos, h.hd, h.ris, h.ne, by simp⟩
 | c + 1 => by
  have ih := SI.part hf h c
  cases hc : fs[c]? with
  | none =>
   have : subP n fs i (subB n fs i).ps (c + 1) = subP n fs i (subB n fs i).ps c := by
    have hl := List.getElem?_eq_none_iff.1 hc
    unfold subP
    rw [List.take_of_length_le (by omega), List.take_of_length_le hl]
   rw [this]
   exact ih
  | some b =>
   rw [ce7 hc]
   exact ih.step (dc9 hf _ _ _)
theorem SI.zero (n : NF) (fs : List Nat) : SI n fs 0 := by
 refine ⟨by simp [subB], rfl, rfl, fun x hx => ?_, fun j x hj hx => ?_, fun l hl => by simp [subB] at hl, by simp, fun l hl => by simp [subB] at hl⟩
 ·simp only [subB, List.mem_cons, List.not_mem_nil, or_false] at hx
  subst hx
  rfl
 ·simp only [subB] at hx
  rw [List.getElem?_eq_none (by simp; omega)] at hx
  simp at hx
theorem SI.next {n : NF} {fs : List Nat} (hf : Abs.ris n.sets.length n.first = true) {i : Nat} (h : SI n fs i) (hi : i < (subB n fs i).ps.length) : SI n fs (i + 1) := by
 have hj := h.part hf fs.length
 obtain ⟨q, h1, h2, h3⟩ := bt1 n fs i (subB n fs i).ps fs.length
 rw [bl9] at hj h1 h2
 rw [Nat.min_self] at h2
 have e := bm1 hi
 have hle : (subB n fs i).ps.length ≤ (subR n fs i (subB n fs i).ps).1.length := by rw [h1]; simp
 refine ⟨by rw [e]; exact hj.pos, by rw [e]; exact hj.hd, by rw [e]; simp [h.rl], by rw [e]; exact hj.ris, by rw [e]; exact hj.ne, ?_, ?_, ?_⟩ <;> rw [e]
 ·intro l hl
  rcases List.mem_append.1 hl with hl | hl
  ·exact h.wid l hl
  ·simp only [List.mem_cons, List.not_mem_nil, or_false] at hl
   subst hl
   exact h2
 ·have := h.le
  simp only
  omega
 ·intro l hl v hv
  rcases List.mem_append.1 hl with hl | hl
  ·have := h.cel l hl v hv
   simp only
   omega
  ·simp only [List.mem_cons, List.not_mem_nil, or_false] at hl
   subst hl
   exact hj.cel v hv
def keyB (p : Int) : List UInt8 := [UInt8.ofNat (p.toNat / 256), UInt8.ofNat p.toNat]
def keyS (l : List Int) : List UInt8 := l.flatMap keyB
theorem bq0 : ∀ l : List Int, (keyS l).length = 2 * l.length
 | [] => rfl
 | p :: l => by
  show (keyB p ++ keyS l).length = _
  rw [List.length_append, bq0 l]
  simp [keyB]
  omega
theorem et2 {p q : Int} (hp : 0 ≤ p ∧ p < 65536) (hq : 0 ≤ q ∧ q < 65536) (h : keyB p = keyB q) : p = q := by
 unfold keyB at h
 simp only [List.cons.injEq, and_true] at h
 have h1 := congrArg UInt8.toNat h.1
 have h2 := congrArg UInt8.toNat h.2
 simp only [UInt8.toNat_ofNat'] at h1 h2
 omega
theorem cq9 : ∀ {l r : List Int}, (∀ p ∈ l, 0 ≤ p ∧ p < 65536) → (∀ p ∈ r, 0 ≤ p ∧ p < 65536) → keyS l = keyS r → l = r
 | [], [], _, _, _ => rfl
 | [], q :: r, _, _, h => by
  have := congrArg List.length h
  rw [bq0, bq0] at this
  simp at this
 | p :: l, [], _, _, h => by
  have := congrArg List.length h
  rw [bq0, bq0] at this
  simp at this
 | p :: l, q :: r, hl, hr, h => by
  have h' : keyB p ++ keyS l = keyB q ++ keyS r := h
  obtain ⟨h1, h2⟩ := List.append_inj h' rfl
  rw [et2 (hl p (by simp)) (hr q (by simp)) h1, cq9 (fun x hx => hl x (by simp [hx])) (fun x hx => hr x (by simp [hx])) h2]
def mapF : PL → Nat → List (EV × EV)
 | [], _ => []
 | x :: ps, j => (.str (keyS x), .int .i64 (j : Int)) :: mapF ps (j + 1)
def mapS (ps : PL) : List (EV × EV) := mapF ps.tail 1
theorem cx1 : ∀ (ps : PL) (j : Nat), av2 false [SK.s] (mapF ps j) = true
 | [], _ => rfl
 | x :: ps, j => by
  unfold mapF av2
  rw [List.all_cons]
  have := cx1 ps (j + 1)
  unfold av2 at this
  rw [this]
  rfl
def Sm (l : List Int) : Prop := ∀ p ∈ l, 0 ≤ p ∧ p < 65536
theorem ej7 {a b : List UInt8} : eqL (EV.str a).cells (EV.str b).cells = (a == b) := by
 simp [EV.cells, eqL, sceq]
theorem cx3 {x : List Int} (hx : Sm x) : ∀ (ps : PL) (j : Nat), (∀ y ∈ ps, Sm y) → bg2 (.str (keyS x)) (mapF ps j) = if x ∈ ps then some (.int .i64 ((j + ps.idxOf x : Nat) : Int)) else none
 | [], j, _ => by simp [mapF, bg2]
 | y :: ps, j, h => by
  have ih := cx3 hx ps (j + 1) fun z hz => h z (by simp [hz])
  unfold mapF bg2
  simp only
  rw [ej7]
  by_cases e : keyS x = keyS y
  ·have : x = y := cq9 hx (h y (by simp)) e
   subst this
   simp
  ·have hne : x ≠ y := fun e' => e (by rw [e'])
   have hne' : ¬(y = x) := fun e' => hne e'.symm
   rw [if_neg (by simpa using e), ih]
   simp only [List.mem_cons, hne, false_or]
   split
   ·rw [List.idxOf_cons]
    have : (y == x) = false := by simpa using hne'
    rw [this]
    simp only [cond_false]
    congr 3
    omega
   ·rfl
theorem dk2 {x : List Int} (hx : Sm x) (v : EV) : ∀ (ps : PL) (j : Nat), (∀ y ∈ ps, Sm y) → x ∉ ps → putE (.str (keyS x)) v (mapF ps j) = mapF ps j ++ [(.str (keyS x), v)]
 | [], j, _, _ => rfl
 | y :: ps, j, h, hn => by
  have ih := dk2 hx v ps (j + 1) (fun z hz => h z (by simp [hz])) fun hm => hn (by simp [hm])
  unfold mapF putE
  simp only
  rw [ej7]
  have e : keyS x ≠ keyS y := fun e => hn (by rw [cq9 hx (h y (by simp)) e]; simp)
  rw [if_neg (by simpa using e), ih]
  rfl
theorem cx0 (x : List Int) : ∀ (ps : PL) (j : Nat), mapF (ps ++ [x]) j = mapF ps j ++ [(.str (keyS x), .int .i64 ((j + ps.length : Nat) : Int))]
 | [], j => by simp [mapF]
 | y :: ps, j => by
  rw [List.cons_append]
  unfold mapF
  rw [cx0 x ps (j + 1), List.cons_append]
  simp only [List.length_cons]
  congr 5
  omega
theorem ee5 {ps : PL} (h : ∀ y ∈ ps, Sm y) (h0 : ps[0]? = some []) {x : List Int} (hx : Sm x) (hne : x ≠ []) : bg2 (.str (keyS x)) (mapS ps) = if x ∈ ps then some (.int .i64 (ps.idxOf x : Int)) else none := by
 cases ps with
 | nil => simp at h0
 | cons y ps =>
  simp only [List.getElem?_cons_zero, Option.some.injEq] at h0
  subst h0
  unfold mapS
  rw [List.tail_cons, cx3 hx ps 1 fun z hz => h z (by simp [hz])]
  simp only [List.mem_cons, hne, false_or]
  split
  ·rw [List.idxOf_cons]
   have : (([] : List Int) == x) = false := by
    cases x with
    | nil => exact absurd rfl hne
    | cons a x => rfl
   rw [this]
   simp only [cond_false]
   congr 3
   omega
  ·rfl
theorem eq9 {ps : PL} (h : ∀ y ∈ ps, Sm y) (h0 : ps[0]? = some []) {x : List Int} (hx : Sm x) (hn : x ∉ ps) : putE (.str (keyS x)) (.int .i64 (ps.length : Int)) (mapS ps) = mapS (ps ++ [x]) := by
 cases ps with
 | nil => simp at h0
 | cons y ps =>
  unfold mapS
  rw [List.cons_append, List.tail_cons, List.tail_cons, cx0, dk2 hx _ ps 1 (fun z hz => h z (by simp [hz])) fun hm => hn (by simp [hm])]
  simp only [List.length_cons]
  congr 5
  omega
theorem ee2 (ps : PL) : av2 false [SK.s] (mapS ps) = true := cx1 _ _
theorem ex6 {k : Nat} (hk : k ≤ 2000) {l : List Int} (h : ris k l = true) : Sm l := fun p hp => by
 have := InP.ris (by omega) h p hp
 omega
def u8E (s : List UInt8) : List EV := s.map fun b => .int .u8 ((b.toNat : Nat) : Int)
theorem co5 : ∀ s : List UInt8, bf8 (u8E s) = some s
 | [] => rfl
 | b :: s => by
  have ih := co5 s
  unfold u8E at ih ⊢
  simp only [List.map_cons, bf8, el6, ih]
  simp
theorem ez3 (s : List UInt8) : (u8E s).length = s.length := by simp [u8E]
theorem fj2 {v : Int} (h : 0 ≤ v ∧ v < 65536) : u8E (keyB v) = [.int .u8 (v / 256), .int .u8 (v % 256)] := by
 unfold u8E keyB
 simp only [List.map_cons, List.map_nil, UInt8.toNat_ofNat']
 congr 2
 ·omega
 ·congr 1
  congr 1
  omega
theorem co8 {v : Int} : IntKind.u8.wrap v = v % 256 := by
 unfold IntKind.wrap
 simp [IntKind.bits, IntKind.signed]
theorem Hl.toStr {W : Heap} {ow : Nat → Nat} {id : Nat} {X : EV} {s : List UInt8} (h : Hl W ow id 1 X (u8E s)) : bo6 X W = some (.str s) := by
 have he := h.elems
 rcases h with ⟨rfl, e⟩ | ⟨k, rfl, ha, _⟩
 ·have : s = [] := by
   cases s with
   | nil => rfl
   | cons b s => simp [u8E] at e
  subst this
  rfl
 ·unfold bo6
  simp only [he, co5, Option.map_some]
section
variable {E : Env} [R : SubR E]
theorem fc8 (x : EV) (l : List Int) (hx : ai9 x l) (hs : Sm l) (hl : l.length ≤ 100000) (H : Heap) : den E R.bv2 [x] H = some (.ret (.str (keyS l)), H) := by
 have hlen := hx.lenI
 have hle := hx.leI
 refine ah2 R.da1 (by simp) ?_
 unfold Gn.ci4 Gn.bo8
 refine an8 (fun t W => W = H ∧ Sl t [(0, x)]) ?_ ?_
 ·repeat' first | (simp (disch := first | omega | assumption) only [go_sem, simprocAttr, Sl, *]) | refine aa2 (fun hb=>?_) fun hb=>?_ | refine aa3 (fun hb=>?_) fun hb=>?_
 rintro t W ⟨e, ht⟩
 subst e
 simp (disch := omega) only [go_sem, simprocAttr, Sl] at ht
 refine an8 (fun t W' => W' = W ∧ Sl t [(0, x), (3, .nilsl)]) ?_ ?_
 ·repeat' first | (simp (disch := first | omega | assumption) only [go_sem, simprocAttr, Sl, *]) | refine aa2 (fun hb=>?_) fun hb=>?_ | refine aa3 (fun hb=>?_) fun hb=>?_
 rintro t2 H ⟨e, ht2⟩
 subst e
 simp (disch := omega) only [go_sem, simprocAttr, Sl] at ht2
 clear ht t
 refine an8 (fun t W => ∃ X ow, Sl t [(3, X)] ∧ Bs H W ow ∧ Hl W ow 1 1 X (u8E (keyS l))) ?_ ?_
 ·simp (disch := omega) only [go_sem, simprocAttr, *]
  refine ad5 (ι := Nat × EV × Heap × (Nat → Nat)) (fun p => p.1 ≤ l.length ∧ Bs H p.2.2.1 p.2.2.2 ∧ Hl p.2.2.1 p.2.2.2 1 1 p.2.1 (u8E (keyS (l.take p.1)))) (fun p => l.length - p.1) (fun p => [(3, p.2.1), (6, x), (7, .int .i64 l.length), (8, .int .i64 p.1)]) (fun p => p.2.2.1) (0, .nilsl, H, fun _ => 0) ⟨by omega, Bs.start H, .inl ⟨rfl, rfl⟩⟩ ?_ rfl ?_
  ·simp (disch := omega) only [go_sem, simprocAttr, Sl, ht2, and_self]
  ·rintro ⟨i, X, W, ow⟩ t ⟨hi, hB, hX⟩ ht K hK
   simp (disch := omega) only [go_sem, simprocAttr, Sl] at ht
   simp only at hi hB hX
   by_cases hlt : i < l.length
   ·obtain ⟨v, hv⟩ := ab5 hlt
    have hg := hx.at hv
    have hvr := hs v (List.mem_of_getElem? hv)
    have hkl : (u8E (keyS (l.take i))).length ≤ 1000000 := by rw [ez3, bq0, List.length_take]; omega
    obtain ⟨X', W', ow', ha, hX', _, hb'⟩ := hX.appends hB (by omega) [EV.int .u8 (v / 256), EV.int .u8 (v % 256)] (by simp) 1 (by omega) (fun e he => by
     simp only [List.mem_cons, List.not_mem_nil, or_false] at he
     rcases he with rfl | rfl <;> exact ⟨rfl, rfl⟩) hkl (by simp) (by omega)
    have e : u8E (keyS (l.take i)) ++ [EV.int .u8 (v / 256), EV.int .u8 (v % 256)] = u8E (keyS (l.take (i + 1))) := by
     rw [List.take_add_one, hv, ← fj2 hvr]
     simp [keyS, u8E, List.flatMap_append]
    rw [e] at hX'
    have go := fun s' => hK (i + 1, X', W', ow') s' W' ⟨by simp only; omega, hb', hX'⟩ (by simp only; omega)
    have w1 : IntKind.u8.wrap (v.fdiv (2 ^ min 8 64)) = v / 256 := by
     rw [show (2 : Int) ^ min 8 64 = 256 from rfl, Int.fdiv_eq_ediv_of_nonneg _ (by omega)]
     exact Abs.wrap_u8 (by omega) (by omega)
    have w2 : IntKind.u8.wrap v = v % 256 := co8
    clear hK hX hX' e hs
    repeat' first | (simp (disch := first | omega | assumption) only [go_sem, simprocAttr, *]) | refine aa2 (fun hb=>?_) fun hb=>?_ | refine aa3 (fun hb=>?_) fun hb=>?_
    all_goals (try simp only [FX] at *)
    all_goals first | omega | skip
    refine go _ ?_ trivial
    simp (disch := omega) only [go_sem, simprocAttr, Sl, ht, and_self, ab6]
   ·have : i = l.length := by omega
    subst this
    rw [List.take_length] at hX
    clear hK
    repeat' first | (simp (disch := first | omega | assumption) only [go_sem, simprocAttr, *]) | refine aa2 (fun hb=>?_) fun hb=>?_ | refine aa3 (fun hb=>?_) fun hb=>?_
    all_goals (try simp only [FX] at *)
    all_goals first | omega | skip
    refine ⟨X, ow, ?_, hB, hX⟩
    simp (disch := omega) only [go_sem, simprocAttr, Sl, ht, and_self]
 rintro t W ⟨X, ow, ht, hb, hX⟩
 simp (disch := omega) only [go_sem, simprocAttr, Sl] at ht
 have hts := hX.toStr
 clear hs hX
 repeat' first | (simp (disch := first | omega | assumption) only [go_sem, simprocAttr, *]) | refine aa2 (fun hb=>?_) fun hb=>?_ | refine aa3 (fun hb=>?_) fun hb=>?_
 all_goals (try simp only [FX] at *)
 exact hb.drop rfl rfl
theorem eu7 (W : Heap) (ow : Nat → Nat) (id : Nat) (lx : EV) (ys : List EV) (ps : PL) (hl : Hl W ow id 1 lx ys) (hy : ys.length = ps.length) (hp : ∀ (j : Nat) (y : EV) (l : List Int), ys[j]? = some y → ps[j]? = some l → ai9 y l) (h0 : ps[0]? = some [])
  (x : EV) (l : List Int) (hx : ai9 x l) (hne : l ≠ []) (hle : ps.length ≤ 100000) : den E R.ap8 [lx, x] W = some (.ret (.int .i64 (if l ∈ ps then (ps.idxOf l : Int) else -1)), W) := by
 have hlen := hl.len
 rw [hy] at hlen
 have hpos : 0 < ps.length := aa9 h0
 refine ah2 R.bf2 (by simp) ?_
 unfold Gn.ao1 Gn.ak7
 simp (disch := omega) only [go_sem, simprocAttr, *]
 refine ad5 (ι := Nat) (fun i => 1 ≤ i ∧ i ≤ ps.length ∧ l ∉ ps.take i) (fun i => ps.length - i) (fun i => [(0, lx), (1, x), (5, .int .i64 i)]) (fun _ => W) 1 ⟨by omega, by omega, ?_⟩ ?_ rfl ?_
 ·rw [show ps.take 1 = [[]] by rw [List.take_add_one, h0]; rfl]
  simpa using hne
 ·simp (disch := omega) only [go_sem, simprocAttr, Sl]
 ·rintro i t ⟨h1, hi, hn⟩ ht K hK
  simp (disch := omega) only [go_sem, simprocAttr, Sl] at ht
  by_cases hlt : i < ps.length
  ·obtain ⟨r, hr⟩ := ab5 hlt
   obtain ⟨y, hyi⟩ := ab5 (l := ys) (i := i) (by omega)
   have hv := hp i y r hyi hr
   obtain ⟨k, hk, hat, hel⟩ := hl.at hyi
   have hat1 := hat.1
   obtain ⟨ho1, ho2⟩ := hv.one
   unfold EV.cells at ho1
   have hint := fun H => et4 (R := R.toNfaR) y x r l hv hx H
   by_cases e : r = l
   ·subst e
    have hidx : ps.idxOf r = i := by
     have hm : r ∉ ps.take i := hn
     have := List.idxOf_append (l₁ := ps.take i) (l₂ := ps.drop i) (a := r)
     rw [List.take_append_drop, if_neg hm, ax1 hr, List.idxOf_cons_self, List.length_take] at this
     omega
    have hmem : r ∈ ps := List.mem_of_getElem? hr
    rw [if_pos hmem, hidx]
    rw [decide_eq_true rfl] at hint
    clear hK
    repeat' first | (simp (disch := first | omega | assumption) only [go_sem, simprocAttr, *]) | refine aa2 (fun hb=>?_) fun hb=>?_ | refine aa3 (fun hb=>?_) fun hb=>?_
    all_goals (try simp only [FX] at *)
    all_goals first | omega | exact af3 rfl rfl
   ·rw [decide_eq_false e] at hint
    have go := fun s' H' => hK (i + 1) s' H' ⟨by omega, by omega, by
     rw [List.take_add_one, hr]
     simp only [Option.toList_some, List.mem_append, List.mem_cons, List.not_mem_nil, or_false]
     rintro (h | h)
     ·exact hn h
     ·exact e h.symm⟩ (by omega)
    clear hK
    repeat' first | (simp (disch := first | omega | assumption) only [go_sem, simprocAttr, *]) | refine aa2 (fun hb=>?_) fun hb=>?_ | refine aa3 (fun hb=>?_) fun hb=>?_
    all_goals (try simp only [FX] at *)
    all_goals first
     | omega
     | (refine go _ _ ?_ rfl; simp (disch := omega) only [go_sem, simprocAttr, Sl, ht, and_self, ab6])
  ·have hie : i = ps.length := by omega
   subst hie
   rw [List.take_length] at hn
   rw [if_neg hn]
   clear hK
   repeat' first | (simp (disch := first | omega | assumption) only [go_sem, simprocAttr, *]) | refine aa2 (fun hb=>?_) fun hb=>?_ | refine aa3 (fun hb=>?_) fun hb=>?_
   all_goals (try simp only [FX] at *)
   all_goals first | omega | exact af3 rfl rfl
end
section
variable {E : Env} [R : SubR E]
theorem dx4 (n : NF) (hm : mayB n = false) (H : Heap) : den E R.ay0 [n.E] H = some (.ret (.tup [.agg (dfc (fun _ => 0) 0 .nilsl .nilsl), .int .i64 1]), H) := by
 have hmay := fun H => ch3 (R := R.toNfaR) n H
 rw [hm] at hmay
 have hfl := cd9 (of := fun _ => 0) (n := 0) (x1 := .nilsl) (x2 := .nilsl)
 refine ah2 R.bp0 (by simp) ?_
 unfold Gn.ba8 Gn.at7
 unfold NF.E at hmay ⊢
 obtain ⟨o0, o1, o2, o3, o4⟩ := n.one
 unfold EV.one at o0 o1 o2 o3 o4
 repeat' first | (simp (disch := first | omega | assumption) only [go_sem, simprocAttr, *]) | refine aa2 (fun hb=>?_) fun hb=>?_ | refine aa3 (fun hb=>?_) fun hb=>?_
 all_goals (try simp only [FX] at *)
 all_goals first | omega | skip
 rw [show List.take 259 ((tab 256 fun _ => EV.int .u8 0) ++ [EV.int .i64 0, EV.nilsl, EV.nilsl]) = dfc (fun _ => 0) 0 .nilsl .nilsl from hfl]
 exact ab4 rfl rfl
end
theorem dl3 (bytes : Nat) (z : EV) (k : Nat) (hk : k ≤ 1000000) (hb : bytes ≤ 1000) (W : Heap) : bw5 1 bytes z (.int .i64 k) (.int .i64 k) W = some (.own W.length 1 0 k, W ++ [some (.row 1 (List.replicate k z))]) := by
 have : (bytes : Int) * k ≤ 1000 * 1000000 := by
  have := Nat.mul_le_mul hb hk
  omega
 unfold bw5
 simp only
 rw [if_pos ⟨by omega, by omega, by omega, by omega⟩, Int.toNat_natCast]
def frow (fs : List Nat) (i : Nat) : List EV := (fs.take i).map (fun b => .int .u8 ((b : Nat) : Int)) ++ List.replicate (fs.length - i) (.int .u8 0)
theorem dl7 (fs : List Nat) (i : Nat) : (frow fs i).length = fs.length := by
 unfold frow
 rw [List.length_append, List.length_map, List.length_take, List.length_replicate]
 omega
theorem fd6 {fs : List Nat} {i : Nat} (h : i < fs.length) : (frow fs i)[i]? = some (.int .u8 0) := by
 unfold frow
 rw [List.getElem?_append_right (by rw [List.length_map, List.length_take]; omega), List.length_map, List.length_take, Nat.min_eq_left (by omega), Nat.sub_self, List.getElem?_replicate, if_pos (by omega)]
theorem et8 {fs : List Nat} {i b : Nat} (h : fs[i]? = some b) : (frow fs i).set i (.int .u8 ((b : Nat) : Int)) = frow fs (i + 1) := by
 have hi := aa9 h
 unfold frow
 rw [List.set_append_right _ _ (by rw [List.length_map, List.length_take]; omega), List.length_map, List.length_take, Nat.min_eq_left (by omega), Nat.sub_self, List.take_add_one, h, show fs.length - i = (fs.length - (i + 1)) + 1 by omega, List.replicate_succ]
 simp
theorem eg2 {fs : List Nat} {i b : Nat} (h : fs[i]? = some b) : (frow fs fs.length)[i]? = some (.int .u8 ((b : Nat) : Int)) := by
 unfold frow
 rw [List.take_length, List.getElem?_append_left (by rw [List.length_map]; exact aa9 h), List.getElem?_map, h]
 rfl
def dq4 (of : Nat → Nat) (k : Int) : EV := .agg (tab 256 (fun i => .int .u8 ((of i : Nat) : Int)) ++ [.int .i64 k])
structure SubK (n : NF) (of : Nat → Nat) (fs : List Nat) (H W : Heap) (ow : Nat → Nat) (X1 X2 P : EV) (xs ys : List EV) (rows : List (List Int)) (tags : List Int) (ps : PL) : Prop where
 bs : Bs H W ow
 a1 : At W ow 1 H.length (.row 6 [n.E])
 a2 : At W ow 2 (H.length + 1) (.row 259 [.agg ((tab 256 fun _ => EV.int .u8 0) ++ [EV.int .i64 0, EV.nilsl, EV.nilsl])])
 a4 : At W ow 4 (H.length + 3) (.row 259 [.agg (dfc of fs.length X1 X2)])
 a5 : At W ow 5 (H.length + 4) (.row 1 (frow fs fs.length))
 a6 : At W ow 6 (H.length + 5) (.map (mapS ps))
 hp : Hl W ow 7 1 P ys
 n1 : Hl W ow 8 1 X1 xs
 n2 : Hl W ow 3 1 X2 (ab3 tags)
 nr : ∀ (j : Nat) (z : EV) (l : List Int), xs[j]? = some z → rows[j]? = some l → Hl W ow (9 + j) 1 z (ab3 l)
 xl : xs.length = rows.length
 yl : ys.length = ps.length
 yv : ∀ (j : Nat) (y : EV) (l : List Int), ys[j]? = some y → ps[j]? = some l → ai9 y l
section
variable {n : NF} {of : Nat → Nat} {fs : List Nat} {H W W' : Heap} {ow ow' : Nat → Nat} {X1 X2 P : EV} {xs ys : List EV} {rows : List (List Int)} {tags : List Int} {ps : PL}
theorem SubK.kp (h : SubK n of fs H W ow X1 X2 P xs ys rows tags ps) {id : Nat} (hk : Kp id W ow W' ow') (hb : Bs H W' ow') (hid : 9 + rows.length ≤ id) : SubK n of fs H W' ow' X1 X2 P xs ys rows tags ps :=
 ⟨hb, hk.at h.a1 (by omega), hk.at h.a2 (by omega), hk.at h.a4 (by omega), hk.at h.a5 (by omega), hk.at h.a6 (by omega), hk.hl h.hp (by omega), hk.hl h.n1 (by omega), hk.hl h.n2 (by omega), fun j z l hz hl => hk.hl (h.nr j z l hz hl) (by have := aa9 hl; omega), h.xl, h.yl, h.yv⟩
theorem SubK.add (h : SubK n of fs H W ow X1 X2 P xs ys rows tags ps) (y : EV) (l : List Int) (hy : ai9 y l) (t : Int) (hps : ps.length ≤ 100000) (htg : tags.length ≤ 100000) {id sz : Nat} {x : EV} {es : List EV} (hr : Hl W ow id sz x es) (hid : 9 ≤ id) :
  ∃ P' X2' W1 W2 W3 W4 ow', W.set (H.length + 5) (some (.map (mapS (ps ++ [l])))) = W1 ∧ ad2 1 24 P (.imm 1 [y]) W1 = some (P', W2) ∧ ad2 1 8 X2 (.imm 1 [.int .i64 t]) W2 = some (X2', W3) ∧ W3.set (H.length + 3) (some (.row 259 [.agg (dfc of fs.length X1 X2')])) = W4 ∧
   W2[H.length]? = some (some (.row 6 [n.E])) ∧ W2[H.length + 3]? = some (some (.row 259 [.agg (dfc of fs.length X1 X2)])) ∧ W3[H.length + 3]? = some (some (.row 259 [.agg (dfc of fs.length X1 X2)])) ∧
   SubK n of fs H W4 ow' X1 X2' P' xs (ys ++ [y]) rows (tags ++ [t]) (ps ++ [l]) ∧ Hl W4 ow' id sz x es := by
 have k1 := Kp.set h.a6 (some (.map (mapS (ps ++ [l]))))
 have b1 := h.bs.set h.a6 (by omega) (some (.map (mapS (ps ++ [l]))))
 have m1 := h.a6.set (.map (mapS (ps ++ [l])))
 generalize W.set (H.length + 5) (some (.map (mapS (ps ++ [l])))) = W1 at k1 b1 m1
 obtain ⟨P', W2, ow2, e2, p2, k2, b2⟩ := (k1.hl h.hp (by omega)).append b1 (by omega) y 24 (by omega) (by rw [hy.one.1]; rfl) (by rw [hy.one.1]; simp [hy.one.2]) (by rw [h.yl]; omega) (by omega)
 obtain ⟨X2', W3, ow3, e3, t3, k3, b3⟩ := (k2.hl (k1.hl h.n2 (by omega)) (by omega)).append b2 (by omega) (.int .i64 t) 8 (by omega) rfl rfl (by rw [ad0]; omega) (by omega)
 have d3 := k3.at (k2.at (k1.at h.a4 (by omega)) (by omega)) (by omega)
 have k4 := Kp.set d3 (some (.row 259 [.agg (dfc of fs.length X1 X2')]))
 have b4 := b3.set d3 (by omega) (some (.row 259 [.agg (dfc of fs.length X1 X2')]))
 refine ⟨P', X2', W1, W2, W3, _, ow3, rfl, e2, e3, rfl, (k2.at (k1.at h.a1 (by omega)) (by omega)).1, (k2.at (k1.at h.a4 (by omega)) (by omega)).1, d3.1, ⟨b4, ?_, ?_, d3.set _, ?_, ?_, ?_, ?_, ?_, ?_, h.xl, ?_, ?_⟩, ?_⟩
 ·exact k4.at (k3.at (k2.at (k1.at h.a1 (by omega)) (by omega)) (by omega)) (by omega)
 ·exact k4.at (k3.at (k2.at (k1.at h.a2 (by omega)) (by omega)) (by omega)) (by omega)
 ·exact k4.at (k3.at (k2.at (k1.at h.a5 (by omega)) (by omega)) (by omega)) (by omega)
 ·exact k4.at (k3.at (k2.at m1 (by omega)) (by omega)) (by omega)
 ·exact k4.hl (k3.hl p2 (by omega)) (by omega)
 ·exact k4.hl (k3.hl (k2.hl (k1.hl h.n1 (by omega)) (by omega)) (by omega)) (by omega)
 ·have := k4.hl t3 (by omega)
  rwa [show ab3 tags ++ [EV.int .i64 t] = ab3 (tags ++ [t]) by simp [ab3]] at this
 ·exact fun j z r hz hr => k4.hl (k3.hl (k2.hl (k1.hl (h.nr j z r hz hr) (by omega)) (by omega)) (by omega)) (by omega)
 ·simp [h.yl]
 ·intro j z r hz hr
  by_cases e : j < ys.length
  ·rw [List.getElem?_append_left e] at hz
   rw [List.getElem?_append_left (by rw [← h.yl]; exact e)] at hr
   exact h.yv j z r hz hr
  ·have hj : j = ys.length := by
    have := aa9 hz
    rw [List.length_append, List.length_singleton] at this
    omega
   subst hj
   rw [List.getElem?_append_right (by omega), Nat.sub_self] at hz
   rw [List.getElem?_append_right (by rw [h.yl]; omega), h.yl, Nat.sub_self] at hr
   simp only [List.getElem?_cons_zero, Option.some.injEq] at hz hr
   subst hz hr
   exact hy
 ·exact k4.hl (k3.hl (k2.hl (k1.hl hr (by omega)) (by omega)) (by omega)) (by omega)
theorem SubK.addRow (h : SubK n of fs H W ow X1 X2 P xs ys rows tags ps) {X : EV} {l : List Int} (hr : Hl W ow (9 + rows.length) 1 X (ab3 l)) (hl : rows.length ≤ 100000) :
  ∃ X1' W1 W2 ow', ad2 1 24 X1 (.imm 1 [X]) W = some (X1', W1) ∧ W1[H.length + 3]? = some (some (.row 259 [.agg (dfc of fs.length X1 X2)])) ∧ W1.set (H.length + 3) (some (.row 259 [.agg (dfc of fs.length X1' X2)])) = W2 ∧
   SubK n of fs H W2 ow' X1' X2 P (xs ++ [X]) ys (rows ++ [l]) tags ps := by
 obtain ⟨X1', W1, ow1, e1, p1, k1, b1⟩ := h.n1.append h.bs (by omega) X 24 (by omega) (by rw [hr.one.2]; rfl) (by rw [hr.one.2]; simp [hr.one.1]) (by rw [h.xl]; omega) (by omega)
 have d1 := k1.at h.a4 (by omega)
 have k4 := Kp.set d1 (some (.row 259 [.agg (dfc of fs.length X1' X2)]))
 have b4 := b1.set d1 (by omega) (some (.row 259 [.agg (dfc of fs.length X1' X2)]))
 refine ⟨X1', W1, _, ow1, e1, d1.1, rfl, ⟨b4, k4.at (k1.at h.a1 (by omega)) (by omega), k4.at (k1.at h.a2 (by omega)) (by omega), d1.set _, k4.at (k1.at h.a5 (by omega)) (by omega), k4.at (k1.at h.a6 (by omega)) (by omega), k4.hl (k1.hl h.hp (by omega)) (by omega), k4.hl p1 (by omega), k4.hl (k1.hl h.n2 (by omega)) (by omega), fun j z r hz hr' => k4.hl (k1.hl ?_ (by omega)) (by omega), by simp [h.xl], h.yl, h.yv⟩⟩
 by_cases e : j < rows.length
 ·rw [List.getElem?_append_left (by rw [h.xl]; exact e)] at hz
  rw [List.getElem?_append_left e] at hr'
  exact h.nr j z r hz hr'
 ·have hj : j = rows.length := by
   have := aa9 hr'
   rw [List.length_append, List.length_singleton] at this
   omega
  subst hj
  rw [List.getElem?_append_right (by rw [h.xl]; omega), h.xl, Nat.sub_self] at hz
  rw [List.getElem?_append_right (by omega), Nat.sub_self] at hr'
  simp only [List.getElem?_cons_zero, Option.some.injEq] at hz hr'
  subst hz hr'
  exact hr
theorem SubK.nw (h : SubK n of fs H W ow X1 X2 P xs ys rows tags ps) (l : List Int) (hl : 0 < l.length) : ∃ ow', SubK n of fs H (W ++ [some (.row 1 (ab3 l))]) ow' X1 X2 P xs ys rows tags ps ∧ Hl (W ++ [some (.row 1 (ab3 l))]) ow' (9 + rows.length) 1 (.own W.length 1 0 l.length) (ab3 l) :=
 ⟨_, h.kp (Kp.new ow (9 + rows.length) (9 + rows.length) _) (h.bs.new _ _) (by omega), .inr ⟨W.length, by rw [ad0], At.new ow _ _, dl5 hl⟩⟩
theorem SubK.wr (h : SubK n of fs H W ow X1 X2 P xs ys rows tags ps) {rb k : Nat} {l l' : List Int} (hr : Hl W ow (9 + rows.length) 1 (.own rb 1 0 k) (ab3 l)) (hl : l'.length = l.length) :
  k = l.length ∧ W[rb]? = some (some (.row 1 (ab3 l))) ∧ ∃ W1, W.set rb (some (.row 1 (ab3 l'))) = W1 ∧ SubK n of fs H W1 ow X1 X2 P xs ys rows tags ps ∧ Hl W1 ow (9 + rows.length) 1 (.own rb 1 0 k) (ab3 l') := by
 rcases hr with ⟨e, _⟩ | ⟨b, e, ha, hne⟩
 ·cases e
 ·simp only [EV.own.injEq, true_and] at e
  obtain ⟨e1, e2⟩ := e
  subst e1 e2
  rw [ad0]
  refine ⟨rfl, ha.1, _, rfl, h.kp (Kp.set ha _) (h.bs.set ha (by omega) _) (by omega), .inr ⟨rb, by rw [ad0, hl], ha.set _, dl5 ?_⟩⟩
  rw [hl]
  refine Nat.pos_of_ne_zero fun e => hne ?_
  have := List.length_eq_zero_iff.1 e
  subst this
  rfl
theorem ex8 (hb : Bs H W ow) (hn1 : Hl W ow 8 1 X1 xs) (hn2 : Hl W ow 3 1 X2 (ab3 tags)) (hnr : ∀ (j : Nat) (z : EV) (l : List Int), xs[j]? = some z → rows[j]? = some l → Hl W ow (9 + j) 1 z (ab3 l)) (hxl : xs.length = rows.length) (c : EV) (hc : ∀ L, c.ok L = true) {k : Nat} : Abs.fz H.length W 8 (.tup [.agg (dfc of k X1 X2), c]) = some (.tup [.agg (dfc of k (slE 1 (rows.map fun l => slE 1 (ab3 l))) (slE 1 (ab3 tags))), c]) := by
 have hge : ∀ id : Nat, 0 < id → ∀ k, ow k = id → H.length ≤ k := fun id hid k hk => by
  rcases Nat.lt_or_ge k H.length with hlt | hle
  ·have := hb.ow0 k hlt
   omega
  ·exact hle
 have f1 : Abs.fz H.length W 6 X1 = some (slE 1 (rows.map fun l => slE 1 (ab3 l))) :=
  hn1.fz (n := 5) (hge 8 (by omega)) (ee3 (by rw [List.length_map, hxl]) fun j x y hx hy => by
   rw [List.getElem?_map] at hy
   cases hr : rows[j]? with
   | none => rw [hr] at hy; simp at hy
   | some l =>
    rw [hr] at hy
    simp only [Option.map_some, Option.some.injEq] at hy
    subst hy
    exact (hnr j x l hx hr).fz (n := 4) (hge (9 + j) (by omega)) (bo4 fun e he => by
     obtain ⟨v, _, rfl⟩ := List.mem_map.1 he
     exact bz0 rfl))
 have f2 : Abs.fz H.length W 6 X2 = some (slE 1 (ab3 tags))   := hn2.fz (n := 5) (hge 3 (by omega)) (bo4 fun e he => by
  obtain ⟨v, _, rfl⟩ := List.mem_map.1 he
  exact bz0 rfl)
 have fi : ∀ (k : IntKind) (z : Int), Abs.fz H.length W 6 (.int k z) = some (.int k z) := fun k z => bz0 rfl
 have fa : Abs.fz H.length W 7 (.agg (dfc of k X1 X2)) = some (.agg (dfc of k (slE 1 (rows.map fun l => slE 1 (ab3 l))) (slE 1 (ab3 tags)))) := by
  unfold Abs.fz
  split
  ·rename_i hok
   have h12 : X1.ok H.length = true ∧ X2.ok H.length = true := by
    simp only [dfc, EV.ok, ab2, okL, Bool.and_eq_true] at hok
    exact ⟨hok.2.1, hok.2.2.1⟩
   rw [bz0 h12.1] at f1
   rw [bz0 h12.2] at f2
   rw [← Option.some.inj f1, ← Option.some.inj f2]
  ·simp only
   rw [show mapO (Abs.fz H.length W 6) (dfc of k X1 X2) = some (dfc of k (slE 1 (rows.map fun l => slE 1 (ab3 l))) (slE 1 (ab3 tags))) from by
    unfold dfc
    refine cq6 (cq6 (bo4 fun x hx => ?_) ?_) ?_
    ·obtain ⟨q, _, rfl⟩ := dh4 (n := 0) hx
     exact fi _ _
    ·simp only [mapO]
     rw [fi]
    ·simp only [mapO]
     rw [f1, f2]]
   rfl
 have f8 : Abs.fz H.length W 7 c = some c := bz0 (hc _)
 unfold Abs.fz
 split
 ·rename_i hok
  simp only [EV.ok, okL, Bool.and_eq_true] at hok
  have h1 : (EV.agg (dfc of k X1 X2)).ok H.length = true := by simp only [EV.ok]; exact hok.1
  rw [bz0 h1] at fa
  rw [Option.some.inj fa]
 ·simp only [mapO]
  rw [fa, f8]
  rfl
theorem SubK.fin (h : SubK n of fs H W ow X1 X2 P xs ys rows tags ps) (c : Int) : (∀ b : Option EB, (W.set (H.length + 1) b)[H.length + 1]? = some b) ∧ ∀ b : Option EB, Bs H (W.set (H.length + 1) b) ow ∧ Abs.fz H.length (W.set (H.length + 1) b) 8 (.tup [.agg (dfc of fs.length X1 X2), .int .i64 c]) = some (.tup [.agg (dfc of fs.length (slE 1 (rows.map fun l => slE 1 (ab3 l))) (slE 1 (ab3 tags))), .int .i64 c]) :=
 ⟨fun b => List.getElem?_set_self (aa9 h.a2.1), fun b => ⟨h.bs.set h.a2 (by omega) b, ex8 (h.bs.set h.a2 (by omega) b) ((Kp.set h.a2 b).hl h.n1 (by omega)) ((Kp.set h.a2 b).hl h.n2 (by omega)) (fun j z l hz hl => (Kp.set h.a2 b).hl (h.nr j z l hz hl) (by omega)) h.xl (.int .i64 c) fun _ => rfl⟩⟩
def ow0 (L k : Nat) : Nat := if k < L then 0 else [1, 2, 3, 4, 5, 6, 7].getD (k - L) 0
theorem cg4 (L j : Nat) : ow0 L (L + j) = [1, 2, 3, 4, 5, 6, 7].getD j 0 := by unfold ow0; rw [if_neg (by omega), Nat.add_sub_cancel_left]
theorem SubK.start (n : NF) (of : Nat → Nat) (fs : List Nat) (H : Heap) : SubK n of fs H (H ++ [some (.row 6 [.agg [n.x0, n.x1, n.x2, n.x3, n.x4, .int .i64 n.m]]), some (.row 259 [.agg ((tab 256 fun _ => EV.int .u8 0) ++ [EV.int .i64 0, EV.nilsl, EV.nilsl])]), some (.row 1 [.int .i64 n.m]), some (.row 259 [.agg ((tab 256 fun i => EV.int .u8 ((of i : Nat) : Int)) ++ [EV.int .i64 (fs.length : Nat), EV.nilsl, .own (H.length + 2) 1 0 1])]), some (.row 1 (frow fs fs.length)), some (.map []), some (.row 1 [.nilsl])]) (ow0 H.length) .nilsl (.own (H.length + 2) 1 0 1) (.own (H.length + 6) 1 0 1) [] [.nilsl] [] [n.m] [[]] := by
 have e : (tab 256 fun i => EV.int .u8 ((of i : Nat) : Int)) ++ [EV.int .i64 (fs.length : Nat), EV.nilsl, .own (H.length + 2) 1 0 1] = dfc of fs.length .nilsl (.own (H.length + 2) 1 0 1) := by unfold dfc; rw [List.append_assoc]; rfl
 rw [e]
 have g : ∀ (G : Heap) (j : Nat), (H ++ G)[H.length + j]? = G[j]? := fun G j => by rw [List.getElem?_append_right (by omega), Nat.add_sub_cancel_left]
 have g0 : ∀ (G : Heap), (H ++ G)[H.length]? = G[0]? := fun G => g G 0
 refine ⟨⟨by simp, by simp, fun k hk => by unfold ow0; rw [if_pos hk]⟩, ⟨by rw [g0]; rfl, cg4 H.length 0⟩, ⟨by rw [g]; rfl, cg4 H.length 1⟩, ⟨by rw [g]; rfl, cg4 H.length 3⟩, ⟨by rw [g]; rfl, cg4 H.length 4⟩, ⟨by rw [g]; rfl, cg4 H.length 5⟩, .inr ⟨H.length + 6, rfl, ⟨by rw [g]; rfl, cg4 H.length 6⟩, by simp⟩, .inl ⟨rfl, rfl⟩, .inr ⟨H.length + 2, rfl, ⟨by rw [g]; rfl, cg4 H.length 2⟩, by simp [ab3]⟩, fun j z l hz => by simp at hz, rfl, rfl, fun j y l hy hl => ?_⟩
 cases j with
 | zero =>
  simp only [List.getElem?_cons_zero, Option.some.injEq] at hy hl
  subst hy hl
  exact .nil
 | succ j => simp at hy
theorem dj4 {k : Int} : ∀ {l : List Int} {a : Int}, -1 ≤ a → risF k a l = true → (l.length : Int) ≤ k - a - 1 ∨ l = []
 | [], _, _, _ => .inr rfl
 | x :: l, a, ha, h => by
  simp only [risF, Bool.and_eq_true, decide_eq_true_eq] at h
  left
  rcases dj4 (by omega) h.2.2 with h' | h'
  ·simp only [List.length_cons]; omega
  ·subst h'; simp only [List.length_cons, List.length_nil]; omega
theorem dd0 {k : Nat} {l : List Int} (h : ris k l = true) : l.length ≤ k := by
 rcases dj4 (by omega) h with h | h
 ·omega
 ·subst h; simp
end
section
variable {E : Env} [R : SubR E]
def slS (L wl k : Nat) (P : EV) (i c : Nat) : List (Nat × EV) := [(1, .ptr L 6 0 0), (2, .ptr (L + 1) 259 0 0), (4, .ptr (L + 3) 259 0 0), (5, .own (L + 4) 1 0 k), (7, .map (L + 5)), (8, P), (9, .int .i64 i), (10, .own wl 1 0 k), (57, .own (L + 4) 1 0 k), (58, .int .i64 k), (59, .int .i64 c)]
theorem dm6 {of : Nat → Nat} {n : Int} {x1 x2 y : EV} : List.take 257 (dfc of n x1 x2) ++ y :: List.drop 258 (dfc of n x1 x2) = dfc of n y x2 := by
 rw [ci3]
 have : List.drop 258 (dfc of n x1 x2) = [x2] := by
  unfold dfc
  rw [List.drop_append, List.drop_eq_nil_of_le (by simp [ab9])]
  simp [ab9]
 rw [this]
 unfold dfc
 rfl
theorem dm5 {of : Nat → Nat} {n : Int} {x1 x2 y : EV} : List.take 258 (dfc of n x1 x2) ++ y :: List.drop 259 (dfc of n x1 x2) = dfc of n x1 y := by
 have h1 : List.take 258 (dfc of n x1 x2) = tab 256 (fun i => .int .u8 ((of i : Nat) : Int)) ++ [.int .i64 n] ++ [x1] := by
  unfold dfc
  rw [List.take_append, List.take_of_length_le (by simp [ab9])]
  simp [ab9]
 have h2 : List.drop 259 (dfc of n x1 x2) = [] := List.drop_eq_nil_of_le (by rw [bg3]; omega)
 rw [h1, h2]
 unfold dfc
 simp
set_option maxHeartbeats 4000000 in
theorem ck7 (hH : bg0 E R.ar4 .u8) (n : NF) (hm : mayB n = true) (of : Nat → Nat) (fs : List Nat) (hk0 : 0 < fs.length) (hk : fs.length ≤ 256) (hb : ∀ b ∈ fs, b < 256)
  (hP : ∀ H, den E R.be8 [n.x0] H = some (.ret (dq4 of fs.length), H)) (hF : ∀ (c b : Nat) (H : Heap), fs[c]? = some b → den E R.au9 [dq4 of fs.length, .int .i64 c] H = some (.ret (.int .i64 b), H)) (H : Heap)
  (v : EV) (hv1 : Big n fs → v = .tup [.agg (dfc (fun _ => 0) 0 .nilsl .nilsl), .int .i64 4])
  (hv2 : ∀ i, (subB n fs i).ps.length ≤ i → (subB n fs i).ps.length ≤ 600 → v = .tup [.agg (dfc of fs.length (slE 1 ((subB n fs i).rows.map fun l => slE 1 (ab3 l))) (slE 1 (ab3 (bg7 n (subB n fs i).ps)))), .int .i64 0]) :
  den E R.ay0 [n.E] H = some (.ret v, H) := by
 have hmay := fun H => ch3 (R := R.toNfaR) n H
 rw [hm] at hmay
 have hG := ay2 hm
 have hkn := hG.k
 have hris : ris n.sets.length n.first = true := by
  unfold mayB at hm
  simp only [Bool.and_eq_true, decide_eq_true_eq] at hm
  exact hm.1.2.2.2.2.2.2
 have hfl := dd0 hris
 obtain ⟨o0, o1, o2, o3, o4⟩ := n.one
 have h258 : List.take 258 ((tab 256 fun i => EV.int .u8 ((of i : Nat) : Int)) ++ [EV.int .i64 (fs.length : Nat), EV.nilsl, EV.nilsl]) = (tab 256 fun i => EV.int .u8 ((of i : Nat) : Int)) ++ [EV.int .i64 (fs.length : Nat), .nilsl] := by
  rw [List.take_append, List.take_of_length_le (by rw [ab9]; omega), ab9]; rfl
 have h258l : ((tab 256 fun i => EV.int .u8 ((of i : Nat) : Int)) ++ [EV.int .i64 (fs.length : Nat), .nilsl]).length = 258 := by rw [List.length_append, ab9]; rfl
 have h258a : ((tab 256 fun i => EV.int .u8 ((of i : Nat) : Int)) ++ [EV.int .i64 (fs.length : Nat), .nilsl]).all EV.one = true := by
  rw [List.all_append, Bool.and_eq_true]
  exact ⟨List.all_eq_true.2 fun x hx => by
   obtain ⟨i, hi⟩ := List.getElem?_of_mem hx
   have hl := aa9 hi
   rw [ab9] at hl
   rw [bj7 hl, Option.some.injEq] at hi
   subst hi
   rfl, rfl⟩
 refine ah2 R.bp0 (by simp) ?_
 unfold Gn.ba8 Gn.at7
 unfold NF.E at hmay ⊢
 unfold EV.one at o0 o1 o2 o3 o4
 unfold dq4 at hP hF
 have hmk := fun W => dl3 1 (.int .u8 0) fs.length (by omega) (by omega) W
 repeat' first | (simp (disch := first | omega | assumption) only [go_sem, simprocAttr, *]) | refine aa2 (fun hb=>?_) fun hb=>?_ | refine aa3 (fun hb=>?_) fun hb=>?_
 skip
 clear h258 h258l h258a hP
 refine ad5 (ι := Nat) (fun i => i ≤ fs.length) (fun i => fs.length - i) (fun i => [(1, .ptr H.length 6 0 0), (2, .ptr (H.length + 1) 259 0 0), (4, .ptr (H.length + 3) 259 0 0), (5, .own (H.length + 4) 1 0 fs.length), (32, .int .i64 fs.length), (33, .int .i64 i)])
  (fun i => H ++ [some (.row 6 [.agg [n.x0, n.x1, n.x2, n.x3, n.x4, .int .i64 n.m]]), some (.row 259 [.agg ((tab 256 fun _ => EV.int .u8 0) ++ [EV.int .i64 0, EV.nilsl, EV.nilsl])]), some (.row 1 [.int .i64 n.m]), some (.row 259 [.agg ((tab 256 fun i => EV.int .u8 ((of i : Nat) : Int)) ++ [EV.int .i64 (fs.length : Nat), EV.nilsl, .own (H.length + 2) 1 0 1])]), some (.row 1 (frow fs i))]) 0 (by omega) ?_ rfl ?_
 ·simp (disch := omega) only [go_sem, simprocAttr, Sl]
 ·rintro i t hi ht K hK
  simp (disch := omega) only [go_sem, simprocAttr, Sl] at ht
  by_cases hlt : i < fs.length
  ·obtain ⟨b, hbi⟩ := ab5 hlt
   have hF' := fun H => hF i b H hbi
   have hbl := hb b (List.mem_of_getElem? hbi)
   have hfl' := dl7 fs i
   have hst := et8 hbi
   have hat := fd6 hlt
   have h257 : List.take 257 ((tab 256 fun i => EV.int .u8 ((of i : Nat) : Int)) ++ [EV.int .i64 (fs.length : Nat), EV.nilsl, EV.own (List.length H + 2) 1 0 1]) = (tab 256 fun i => EV.int .u8 ((of i : Nat) : Int)) ++ [EV.int .i64 (fs.length : Nat)] := by
    rw [List.take_append, List.take_of_length_le (by rw [ab9]; omega), ab9]; rfl
   have hw : IntKind.u8.wrap ((b : Nat) : Int) = ((b : Nat) : Int) := by rw [co8]; omega
   have go := fun s' H' => hK (i + 1) s' H' (by omega) (by omega)
   clear hK
   repeat' first | (simp (disch := first | omega | assumption) only [go_sem, simprocAttr, *]) | refine aa2 (fun hb=>?_) fun hb=>?_ | refine aa3 (fun hb=>?_) fun hb=>?_
   all_goals (try simp only [FX] at *)
   all_goals first | omega | skip
   refine go _ _ ?_ ?_
   ·simp (disch := omega) only [go_sem, simprocAttr, Sl, ht, and_self, ab6]
   ·rfl
  ·have : i = fs.length := by omega
   subst this
   clear hK hF hmk hlt
   repeat' first | (simp (disch := first | omega | assumption) only [go_sem, simprocAttr, *]) | refine aa2 (fun hb=>?_) fun hb=>?_ | refine aa3 (fun hb=>?_) fun hb=>?_
   all_goals (try simp only [FX] at *)
   all_goals first | omega | skip
   clear hi hb o0 o1 o2 o3 o4 hmay
   refine ad5 (ι := Nat × Heap × (Nat → Nat) × EV × EV × EV × List EV × List EV) (fun p => SI n fs p.1 ∧ (subB n fs p.1).ps.length ≤ 600 ∧ SubK n of fs H p.2.1 p.2.2.1 p.2.2.2.1 p.2.2.2.2.1 p.2.2.2.2.2.1 p.2.2.2.2.2.2.1 p.2.2.2.2.2.2.2 (subB n fs p.1).rows (bg7 n (subB n fs p.1).ps) (subB n fs p.1).ps) (fun p => 601 - p.1)
    (fun p => [(1, .ptr H.length 6 0 0), (2, .ptr (H.length + 1) 259 0 0), (4, .ptr (H.length + 3) 259 0 0), (5, .own (H.length + 4) 1 0 fs.length), (7, .map (H.length + 5)), (8, p.2.2.2.2.2.1), (9, .int .i64 p.1)]) (fun p => p.2.1) (0, _, _, _, _, _, _, _) ⟨SI.zero n fs, by simp [subB], SubK.start n of fs H⟩ ?_ rfl ?_
   ·simp (disch := omega) only [go_sem, simprocAttr, Sl, ht, and_self]
   clear ht t
   rintro ⟨i, W, ow, X1, X2, P, xs, ys⟩ t ⟨hI, h6, hS⟩ ht K hK
   simp only at hI h6 hS
   simp (disch := omega) only [go_sem, simprocAttr, Sl] at ht
   have hIl := hI.le
   have lP := hS.hp.len
   rw [hS.yl] at lP
   have dX1 := dm4 (of := of) (n := fs.length) (x1 := X1) (x2 := X2)
   have dXn := fe4 (of := of) (n := fs.length) (x1 := X1) (x2 := X2)
   have dXL := bg3 (of := of) (n := fs.length) (x1 := X1) (x2 := X2)
   have w3 := hS.a4.1
   show @Hd E ⟨_⟩ ⟨t⟩ ⟨W⟩ ⟨_⟩
   by_cases hlt : i < (subB n fs i).ps.length
   ·have hmk := dl3 8 (.int .i64 0) fs.length (by omega) (by omega) W
    rw [show List.replicate fs.length (EV.int .i64 0) = ab3 (au7 [] fs.length) by simp [au7, ab3]] at hmk
    obtain ⟨ow1, hS1, hR1⟩ := hS.nw (au7 [] fs.length) (by rw [bm9 (by simp)]; exact hk0)
    rw [bm9 (by simp), hI.rl] at hR1
    obtain ⟨W1, eW1⟩ : ∃ W1, W ++ [some (EB.row 1 (ab3 (au7 [] fs.length)))] = W1 := ⟨_, rfl⟩
    rw [eW1] at hmk hS1 hR1
    clear eW1
    have w5 := hS1.a5.1
    repeat' first | (simp (disch := first | omega | assumption) only [go_sem, simprocAttr, *]) | refine aa2 (fun hb=>?_) fun hb=>?_ | refine aa3 (fun hb=>?_) fun hb=>?_
    all_goals (try simp only [FX] at *)
    all_goals first | omega | skip
    clear hb lP dX1 dXn dXL w3 w5 hmk hS
    refine ad5 (ι := Nat × Heap × (Nat → Nat) × EV × EV × List EV) (fun q => q.1 ≤ fs.length ∧ (subP n fs i (subB n fs i).ps q.1).1.length ≤ 600 ∧ SubK n of fs H q.2.1 q.2.2.1 X1 q.2.2.2.1 q.2.2.2.2.1 xs q.2.2.2.2.2 (subB n fs i).rows (bg7 n (subP n fs i (subB n fs i).ps q.1).1) (subP n fs i (subB n fs i).ps q.1).1 ∧ Hl q.2.1 q.2.2.1 (9 + i) 1 (.own W.length 1 0 fs.length) (ab3 (au7 (subP n fs i (subB n fs i).ps q.1).2 fs.length))) (fun q => fs.length - q.1)
     (fun q => [(1, .ptr H.length 6 0 0), (2, .ptr (H.length + 1) 259 0 0), (4, .ptr (H.length + 3) 259 0 0), (5, .own (H.length + 4) 1 0 fs.length), (7, .map (H.length + 5)), (8, q.2.2.2.2.1), (9, .int .i64 i), (10, .own W.length 1 0 fs.length), (57, .own (H.length + 4) 1 0 fs.length), (58, .int .i64 fs.length), (59, .int .i64 q.1)]) (fun q => q.2.1) (0, _, _, _, _, _) ⟨by omega, by rw [bb2]; exact h6, by rw [bb2]; exact hS1, by rw [bb2]; exact hR1⟩ ?_ rfl ?_
    ·simp (disch := omega) only [go_sem, simprocAttr, Sl, ht, and_self]
    clear ht t hS1 hR1 ow1 W1
    rintro ⟨c, V, ow1, X2, P, ys⟩ t ⟨hc, h6c, hS, hR⟩ ht K2 hK2
    simp only at hc h6c hS hR
    simp (disch := omega) only [go_sem, simprocAttr, Sl] at ht
    have hJ := hI.part hris c
    obtain ⟨q, hg1, hg2, _⟩ := bt1 n fs i (subB n fs i).ps c
    rw [Nat.min_eq_left hc] at hg2
    show @Hd E ⟨_⟩ ⟨t⟩ ⟨V⟩ ⟨_⟩
    by_cases hcl : c < fs.length
    ·obtain ⟨b, hbc⟩ := ab5 hcl
     have hb0 := hb b (List.mem_of_getElem? hbc)
     have hrow := eg2 hbc
     have hrl := dl7 fs fs.length
     have hpn := ce7 (n := n) (i := i) (ps := (subB n fs i).ps) hbc
     have hxr := dc9 hris i ((subB n fs i).ps.getD i []) b
     obtain ⟨l, hl⟩ := ab5 hlt
     have hgl : (subP n fs i (subB n fs i).ps c).1[i]? = some l := by rw [hg1, List.getElem?_append_left hlt]; exact hl
     rw [List.getD_eq_getElem?_getD, hl, Option.getD_some] at hpn hxr
     generalize hx : nxL n i l b = x at hpn hxr
     generalize subP n fs i (subB n fs i).ps c = p at hg1 hg2 hgl hJ h6c hS hR hpn
     have hxs := ex6 hkn hxr
     have hxl := dd0 hxr
     have lP := hS.hp.len
     rw [hS.yl] at lP
     have w1 := hS.a1.1
     unfold NF.E at w1
     have w5 := hS.a5.1
     refine an8 (fun t' W' => V = W' ∧ Sl t' ((60, .bool true) :: slS H.length W.length fs.length P i c)) ?_ ?_
     ·clear hK hK2 hv1 hv2
      repeat' first | (simp (disch := first | omega | assumption) only [go_sem, simprocAttr, Sl, slS, *]) | refine aa2 (fun hb=>?_) fun hb=>?_ | refine aa3 (fun hb=>?_) fun hb=>?_
      all_goals (try simp only [FX] at *)
      all_goals first | omega | skip
      all_goals simp [ht, hcl]
     rintro t2 _ ⟨rfl, ht2⟩
     simp (disch := omega) only [go_sem, simprocAttr, Sl, slS] at ht2
     clear ht t
     refine an8 (fun t' W' => V = W' ∧ Sl t' (slS H.length W.length fs.length P i c)) ?_ ?_
     ·clear hK hK2 hv1 hv2
      repeat' first | (simp (disch := first | omega | assumption) only [go_sem, simprocAttr, Sl, slS, *]) | refine aa2 (fun hb=>?_) fun hb=>?_ | refine aa3 (fun hb=>?_) fun hb=>?_
      all_goals (try simp only [FX] at *)
      all_goals first | omega | skip
      all_goals simp [ht2]
     rintro t _ ⟨rfl, ht⟩
     simp (disch := omega) only [go_sem, simprocAttr, Sl, slS] at ht
     clear ht2 t2
     rw [db2, cs9]
     refine an8 (fun t' W' => V = W' ∧ Sl t' ((11, .int .i64 c) :: (12, .int .u8 b) :: slS H.length W.length fs.length P i c)) ?_ ?_
     ·clear hK hK2 hv1 hv2
      repeat' first | (simp (disch := first | omega | assumption) only [go_sem, simprocAttr, Sl, slS, *]) | refine aa2 (fun hb=>?_) fun hb=>?_ | refine aa3 (fun hb=>?_) fun hb=>?_
      all_goals (try simp only [FX] at *)
      all_goals first | omega | skip
      all_goals simp [ht]
     rintro t2 _ ⟨rfl, ht2⟩
     simp (disch := omega) only [go_sem, simprocAttr, Sl, slS] at ht2
     clear ht t
     refine an8 (fun t' W' => V = W' ∧ Sl t' ((11, .int .i64 c) :: (12, .int .u8 b) :: slS H.length W.length fs.length P i c)) ?_ ?_
     ·clear hK hK2 hv1 hv2
      repeat' first | (simp (disch := first | omega | assumption) only [go_sem, simprocAttr, Sl, slS, *]) | refine aa2 (fun hb=>?_) fun hb=>?_ | refine aa3 (fun hb=>?_) fun hb=>?_
      all_goals (try simp only [FX] at *)
      all_goals first | omega | skip
      all_goals simp [ht2]
     rintro t _ ⟨rfl, ht⟩
     simp (disch := omega) only [go_sem, simprocAttr, Sl, slS] at ht
     clear ht2 t2
     refine an8 (fun t' W' => V = W' ∧ ∃ y, ai9 y x ∧ Sl t' ((11, .int .i64 c) :: (12, .int .u8 b) :: (13, y) :: slS H.length W.length fs.length P i c)) ?_ ?_
     ·clear hK hK2 hv1 hv2 hpn
      by_cases hi0 : i = 0
      ·subst hi0
       obtain ⟨y, hy1, hy2⟩ := em1 (R := R.toNfaR) hH n hm (by omega) b hb0 V
       unfold NF.E at hy1
       repeat' first | (simp (disch := first | omega | assumption) only [go_sem, simprocAttr, *]) | refine aa2 (fun hb=>?_) fun hb=>?_ | refine aa3 (fun hb=>?_) fun hb=>?_
       all_goals (try simp only [FX] at *)
       all_goals first | omega | skip
       refine ⟨y, ?_, ?_⟩
       ·rw [← hx]; exact hy2
       ·simp (disch := omega) only [go_sem, simprocAttr, Sl, slS, ht, and_self]
      ·obtain ⟨yi, hyi⟩ := ab5 (l := ys) (i := i) (by rw [hS.yl, hg1]; simp; omega)
       have hyl := hS.yv i yi l hyi hgl
       obtain ⟨kp, ekp, hap, hep⟩ := hS.hp.at hyi
       have wp := hap.1
       have lyi := hyl.one.1
       have hi1 : (0 : Int) ≤ i := by omega
       have hi2 : (i : Int) < (ys.length : Int) := by have := aa9 hyi; omega
       obtain ⟨y, hy1, hy2⟩ := fj5 (R := R.toNfaR) hH n hm yi l hyl (hJ.ris l (List.mem_of_getElem? hgl)) b hb0 V
       unfold NF.E at hy1
       have oyi := hyl.one.2
       unfold EV.one at oyi
       unfold EV.cells at lyi
       repeat' first | (simp (disch := first | omega | assumption) only [go_sem, simprocAttr, *]) | refine aa2 (fun hb=>?_) fun hb=>?_ | refine aa3 (fun hb=>?_) fun hb=>?_
       all_goals (try simp only [FX] at *)
       all_goals first | omega | skip
       refine ⟨y, ?_, ?_⟩
       ·rw [← hx]; unfold nxL; rw [if_neg hi0]; exact hy2
       ·simp (disch := omega) only [go_sem, simprocAttr, Sl, slS, ht, and_self]
        exact ekp
     rintro t2 _ ⟨rfl, y, hy, ht2⟩
     simp (disch := omega) only [go_sem, simprocAttr, Sl, slS] at ht2
     clear ht t
     have ly := hy.lenI
     have oy := hy.one.2
     have cy := hy.one.1
     unfold EV.one at oy
     unfold EV.cells at cy
     -- the row's cell
     have hpl : (au7 p.2 fs.length).length = fs.length := bm9 (by omega)
     have hpl1 : (au7 (p.2 ++ [-1]) fs.length).length = fs.length := bm9 (by simp; omega)
     obtain ⟨ek, wR, V1, eV1, hS1, hR1⟩ := hS.wr (l' := au7 (p.2 ++ [-1]) fs.length) (by rw [hI.rl]; exact hR) (by rw [hpl, hpl1])
     have hst1 : (ab3 (au7 p.2 fs.length)).set c (.int .i64 (-1)) = ab3 (au7 (p.2 ++ [-1]) fs.length) := by
      rw [cx8]
      conv => lhs; rw [← hg2]
      rw [eb4 (by omega)]
     obtain ⟨z0, hz0⟩ := ab5 (l := au7 p.2 fs.length) (i := c) (by omega)
     have hgz := ay3 hz0
     have hil : (ab3 (au7 p.2 fs.length)).length = fs.length := by rw [ad0, hpl]
     clear hz0 ek
     have hc0 : (0 : Int) ≤ c := by omega
     have hc1 : (c : Int) < (fs.length : Int) := by omega
     refine an8 (fun t' W' => V1 = W' ∧ Sl t' ((11, .int .i64 c) :: (12, .int .u8 b) :: (13, y) :: slS H.length W.length fs.length P i c)) ?_ ?_
     ·clear hK hK2 hv1 hv2 hpn
      repeat' first | (simp (disch := first | omega | assumption) only [go_sem, simprocAttr, Sl, slS, *]) | refine aa2 (fun hb=>?_) fun hb=>?_ | refine aa3 (fun hb=>?_) fun hb=>?_
      all_goals (try simp only [FX] at *)
      all_goals first | omega | skip
      all_goals simp [ht2, hcl]
     rintro t _ ⟨rfl, ht⟩
     simp (disch := omega) only [go_sem, simprocAttr, Sl, slS] at ht
     clear ht2 t2 hst1 hgz hil wR eV1 w5 w1 hS hR
     by_cases hx0 : x = []
     ·subst hx0
      have hpn' : subP n fs i (subB n fs i).ps (c + 1) = (p.1, p.2 ++ [-1]) := by rw [hpn]; unfold subT; rw [if_pos rfl]
      have go := fun s' => hK2 (c + 1, V1, ow1, X2, P, ys) s' V1 ⟨by simp only; omega, by rw [hpn']; exact h6c, by rw [hpn']; exact hS1, by rw [hpn']; rw [hI.rl] at hR1; exact hR1⟩ (by simp only; omega)
      rw [List.length_nil] at ly
      clear hK hK2 hv1 hv2 hpn
      repeat' first | (simp (disch := first | omega | assumption) only [go_sem, simprocAttr, *]) | refine aa2 (fun hb=>?_) fun hb=>?_ | refine aa3 (fun hb=>?_) fun hb=>?_
      all_goals (try simp only [FX] at *)
      all_goals first | omega | skip
      refine go _ ?_ trivial
      simp (disch := omega) only [go_sem, simprocAttr, Sl, ht, and_self, ab6]
     have hxp : 0 < x.length := List.length_pos_iff.2 hx0
     have hkey := fun H => fc8 (R := R) y x hy hxs (by omega) H
     have hsm : ∀ z ∈ p.1, Sm z := fun z hz => ex6 hkn (hJ.ris z hz)
     have hlk := ee5 hsm hJ.hd hxs hx0
     have w6 := hS1.a6.1
     have hfit := ee2 p.1
     have hkf : av0 false [SK.s] (.str (keyS x)) = true := rfl
     have hst2 : ∀ v : Int, (ab3 (au7 (p.2 ++ [-1]) fs.length)).set c (.int .i64 v) = ab3 (au7 (p.2 ++ [v]) fs.length) := fun v => by
      rw [cx8]
      conv => lhs; rw [← hg2]
      rw [dq2]
     have hpl2 : ∀ v : Int, (au7 (p.2 ++ [v]) fs.length).length = fs.length := fun v => bm9 (by simp; omega)
     obtain ⟨z0, hz0⟩ := ab5 (l := au7 (p.2 ++ [-1]) fs.length) (i := c) (by omega)
     have hgz := ay3 hz0
     have hil : (ab3 (au7 (p.2 ++ [-1]) fs.length)).length = fs.length := by rw [ad0, hpl1]
     clear hz0
     by_cases hmm : x ∈ p.1
     ·have hlook : an7 false [SK.s] (.int .i64 0) true (.map (H.length + 5)) (.str (keyS x)) V1 = some (.tup [.int .i64 (p.1.idxOf x : Int), .bool true]) := by
       rw [if_pos hmm] at hlk
       unfold an7
       simp only [w6, hkf, hfit, hlk, Bool.and_self, if_true]
      have hpn' : subP n fs i (subB n fs i).ps (c + 1) = (p.1, p.2 ++ [(p.1.idxOf x : Int)]) := by rw [hpn]; unfold subT; rw [if_neg hx0, if_pos hmm]
      have hidx := List.idxOf_lt_length_of_mem hmm
      generalize p.1.idxOf x = g at hlook hpn' hidx
      obtain ⟨ek, wR, V2, eV2, hS2, hR2⟩ := hS1.wr (l' := au7 (p.2 ++ [(g : Int)]) fs.length) hR1 (by rw [hpl1, hpl2])
      clear ek
      have hst3 := hst2 g
      have go := fun s' => hK2 (c + 1, V2, ow1, X2, P, ys) s' V2 ⟨by simp only; omega, by rw [hpn']; exact h6c, by rw [hpn']; exact hS2, by rw [hpn']; rw [hI.rl] at hR2; exact hR2⟩ (by simp only; omega)
      clear hK hK2 hv1 hv2 hpn hpn' hst2 hpl2 hlk hsm w6 hfit hkf hg1 hgl
      repeat' first | (simp (disch := first | omega | assumption) only [go_sem, simprocAttr, *]) | refine aa2 (fun hb=>?_) fun hb=>?_ | refine aa3 (fun hb=>?_) fun hb=>?_
      all_goals (try simp only [FX] at *)
      all_goals first | omega | skip
      refine go _ ?_ trivial
      simp (disch := omega) only [go_sem, simprocAttr, Sl, ht, and_self, ab6]
     have hlook : an7 false [SK.s] (.int .i64 0) true (.map (H.length + 5)) (.str (keyS x)) V1 = some (.tup [.int .i64 0, .bool false]) := by
      rw [if_neg hmm] at hlk
      unfold an7
      simp only [w6, hkf, hfit, hlk, Bool.and_self, if_true]
     have hpn' : subP n fs i (subB n fs i).ps (c + 1) = (p.1 ++ [x], p.2 ++ [(p.1.length : Int)]) := by rw [hpn]; unfold subT; rw [if_neg hx0, if_neg hmm, List.idxOf_eq_length hmm]
     have hp0 := hJ.pos
     have htl := bs9 (n := n) hp0
     obtain ⟨P', X2', U1, U2, U3, U4, ow2, eU1, eU2, eU3, eU4, u1, u4, u5, hS2, hR2⟩ := hS1.add y x hy (tagF n x) (by omega) (by omega) hR1 (by omega)
     rw [← ct7 hp0] at hS2
     have hms : ba3 false [SK.s] (.map (H.length + 5)) (.str (keyS x)) (.int .i64 p.1.length) V1 = some U1 := by
      unfold ba3
      simp only [w6, hkf, hfit, Bool.and_self, if_true]
      rw [eq9 hsm hJ.hd hxs hmm, eU1]
     have htg := fun H => ep2 (R := R.toNfaR) n y x hy H
     rw [if_pos ⟨hm, hxr⟩] at htg
     unfold NF.E at htg u1
     have dX2 := ek1 (of := of) (n := fs.length) (x1 := X1) (x2 := X2)
     have dXL := bg3 (of := of) (n := fs.length) (x1 := X1) (x2 := X2)
     have dT : List.take 258 (dfc of fs.length X1 X2) ++ X2' :: List.drop 259 (dfc of fs.length X1 X2) = dfc of fs.length X1 X2' := dm5
     have o1 := hS2.n2.one.1
     have c1 := hS2.n2.one.2
     unfold EV.one at o1
     unfold EV.cells at c1
     by_cases h600 : p.1.length = 600
     ·have hbig : Big n fs := dn6 (c := c + 1) hlt (by rw [hpn']; simp; omega)
      have hv := hv1 hbig
      obtain ⟨hset, _⟩ := hS2.fin 0
      have w2 := hS2.a2.1
      have hB2 := fun b : Option EB => hS2.bs.set hS2.a2 (by omega) b
      have hge : 600 ≤ p.1.length := by omega
      clear hK hK2 hv1 hv2 hpn hpn' hst2 hpl2 hlk hsm w6 hfit hkf hg1 h600 hgl
      rw [hv]
      clear hv
      repeat' first | (simp (disch := first | omega | assumption) only [go_sem, simprocAttr, *]) | refine aa2 (fun hb=>?_) fun hb=>?_ | refine aa3 (fun hb=>?_) fun hb=>?_
      all_goals (try simp only [FX] at *)
      all_goals first | omega | skip
      rw [show List.take 259 ((tab 256 fun _ => EV.int .u8 0) ++ [EV.int .i64 0, EV.nilsl, EV.nilsl]) = dfc (fun _ => 0) 0 .nilsl .nilsl from cd9 (of := fun _ => 0) (n := 0) (x1 := .nilsl) (x2 := .nilsl)]
      exact (hB2 _).drop rfl rfl
     have hp6 : p.1.length < 600 := by omega
     obtain ⟨ek, wR, V2, eV2, hS3, hR3⟩ := hS2.wr (l' := au7 (p.2 ++ [(p.1.length : Int)]) fs.length) hR2 (by rw [hpl1, hpl2])
     clear ek
     have hst3 := hst2 p.1.length
     have go := fun s' => hK2 (c + 1, V2, ow2, X2', P', ys ++ [y]) s' V2 ⟨by simp only; omega, by rw [hpn']; simp; omega, by rw [hpn']; exact hS3, by rw [hpn']; rw [hI.rl] at hR3; exact hR3⟩ (by simp only; omega)
     clear hK hK2 hv1 hv2 hpn hpn' hst2 hpl2 hlk hsm w6 hfit hkf hg1 hgl
     repeat' first | (simp (disch := first | omega | assumption) only [go_sem, simprocAttr, *]) | refine aa2 (fun hb=>?_) fun hb=>?_ | refine aa3 (fun hb=>?_) fun hb=>?_
     all_goals (try simp only [FX] at *)
     all_goals first | omega | skip
     refine go _ ?_ trivial
     simp (disch := omega) only [go_sem, simprocAttr, Sl, ht, and_self, ab6]
    ·have hce : c = fs.length := by omega
     subst hce
     obtain ⟨X1', V1, V2, ow2, e1, d1, e2, hS2⟩ := hS.addRow (l := (subP n fs i (subB n fs i).ps fs.length).2) (by rw [hI.rl]; rwa [dq3 hg2] at hR) (by rw [hI.rl]; omega)
     rw [bl9] at hS2 h6c
     have hn := bm1 hlt
     have go := fun s' => hK (i + 1, V2, ow2, X1', X2, P, xs ++ [.own W.length 1 0 fs.length], ys) s' V2 ⟨hI.next hris hlt, by rw [hn]; exact h6c, by rw [hn]; exact hS2⟩ (by simp only; omega)
     have dX1 := dm4 (of := of) (n := fs.length) (x1 := X1) (x2 := X2)
     have dXL := bg3 (of := of) (n := fs.length) (x1 := X1) (x2 := X2)
     have dT : List.take 257 (dfc of fs.length X1 X2) ++ X1' :: List.drop 258 (dfc of fs.length X1 X2) = dfc of fs.length X1' X2 := dm6
     have w3 := hS.a4.1
     have o1 := hS2.n1.one.1
     have c1 := hS2.n1.one.2
     unfold EV.one at o1
     unfold EV.cells at c1
     clear hK hK2 hv1 hv2
     repeat' first | (simp (disch := first | omega | assumption) only [go_sem, simprocAttr, *]) | refine aa2 (fun hb=>?_) fun hb=>?_ | refine aa3 (fun hb=>?_) fun hb=>?_
     all_goals (try simp only [FX] at *)
     all_goals first | omega | skip
     refine go _ ?_ trivial
     simp (disch := omega) only [go_sem, simprocAttr, Sl, ht, and_self, ab6]
   ·have hw2 := bw9 259 (of := of) (n := fs.length) (x1 := X1) (x2 := X2) (by omega)
    have hall : (dfc of fs.length X1 X2).all EV.one = true := by
     have q1 := hS.n1.one.1
     have q2 := hS.n2.one.1
     unfold dfc
     rw [List.all_append, List.all_append, Bool.and_eq_true, Bool.and_eq_true]
     exact ⟨⟨bj6, rfl⟩, by simp [q1, q2]⟩
    obtain ⟨hset, hfin⟩ := hS.fin 0
    have w2 := hS.a2.1
    rw [hv2 i (by omega) h6]
    clear hK hv1 hv2
    repeat' first | (simp (disch := first | omega | assumption) only [go_sem, simprocAttr, *]) | refine aa2 (fun hb=>?_) fun hb=>?_ | refine aa3 (fun hb=>?_) fun hb=>?_
    all_goals (try simp only [FX] at *)
    all_goals first | omega | skip
    exact (hfin _).1.fz rfl (hfin _).2 rfl
end
structure SubD (n : NF) (of : Nat → Nat) (k : Nat) (H W : Heap) (ow : Nat → Nat) (X1 X2 P : EV) (xs ys : List EV) (rows : List (List Int)) (tags : List Int) (ps : PL) : Prop where
 bs : Bs H W ow
 a1 : At W ow 1 H.length (.row 6 [n.E])
 a2 : At W ow 2 (H.length + 1) (.row 259 [.agg ((tab 256 fun _ => EV.int .u8 0) ++ [EV.int .i64 0, EV.nilsl, EV.nilsl])])
 a4 : At W ow 4 (H.length + 3) (.row 259 [.agg (dfc of k X1 X2)])
 hp : Hl W ow 7 1 P ys
 n1 : Hl W ow 8 1 X1 xs
 n2 : Hl W ow 3 1 X2 (ab3 tags)
 nr : ∀ (j : Nat) (z : EV) (l : List Int), xs[j]? = some z → rows[j]? = some l → Hl W ow (9 + j) 1 z (ab3 l)
 xl : xs.length = rows.length
 yl : ys.length = ps.length
 yv : ∀ (j : Nat) (y : EV) (l : List Int), ys[j]? = some y → ps[j]? = some l → ai9 y l
section
variable {n : NF} {of : Nat → Nat} {k : Nat} {H W W' : Heap} {ow ow' : Nat → Nat} {X1 X2 P : EV} {xs ys : List EV} {rows : List (List Int)} {tags : List Int} {ps : PL}
theorem SubD.kp (h : SubD n of k H W ow X1 X2 P xs ys rows tags ps) {id : Nat} (hk : Kp id W ow W' ow') (hb : Bs H W' ow') (hid : 9 + rows.length ≤ id) : SubD n of k H W' ow' X1 X2 P xs ys rows tags ps :=
 ⟨hb, hk.at h.a1 (by omega), hk.at h.a2 (by omega), hk.at h.a4 (by omega), hk.hl h.hp (by omega), hk.hl h.n1 (by omega), hk.hl h.n2 (by omega), fun j z l hz hl => hk.hl (h.nr j z l hz hl) (by have := aa9 hl; omega), h.xl, h.yl, h.yv⟩
theorem SubD.add (h : SubD n of k H W ow X1 X2 P xs ys rows tags ps) (y : EV) (l : List Int) (hy : ai9 y l) (t : Int) (hps : ps.length ≤ 100000) (htg : tags.length ≤ 100000) {id sz : Nat} {x : EV} {es : List EV} (hr : Hl W ow id sz x es) (hid : 9 ≤ id) :
  ∃ P' X2' W2 W3 W4 ow', ad2 1 24 P (.imm 1 [y]) W = some (P', W2) ∧ ad2 1 8 X2 (.imm 1 [.int .i64 t]) W2 = some (X2', W3) ∧ W3.set (H.length + 3) (some (.row 259 [.agg (dfc of k X1 X2')])) = W4 ∧
   W2[H.length]? = some (some (.row 6 [n.E])) ∧ W2[H.length + 3]? = some (some (.row 259 [.agg (dfc of k X1 X2)])) ∧ W3[H.length + 3]? = some (some (.row 259 [.agg (dfc of k X1 X2)])) ∧
   SubD n of k H W4 ow' X1 X2' P' xs (ys ++ [y]) rows (tags ++ [t]) (ps ++ [l]) ∧ Hl W4 ow' id sz x es := by
 obtain ⟨P', W2, ow2, e2, p2, k2, b2⟩ := h.hp.append h.bs (by omega) y 24 (by omega) (by rw [hy.one.1]; rfl) (by rw [hy.one.1]; simp [hy.one.2]) (by rw [h.yl]; omega) (by omega)
 obtain ⟨X2', W3, ow3, e3, t3, k3, b3⟩ := (k2.hl h.n2 (by omega)).append b2 (by omega) (.int .i64 t) 8 (by omega) rfl rfl (by rw [ad0]; omega) (by omega)
 have d3 := k3.at (k2.at h.a4 (by omega)) (by omega)
 have k4 := Kp.set d3 (some (.row 259 [.agg (dfc of k X1 X2')]))
 have b4 := b3.set d3 (by omega) (some (.row 259 [.agg (dfc of k X1 X2')]))
 refine ⟨P', X2', W2, W3, _, ow3, e2, e3, rfl, (k2.at h.a1 (by omega)).1, (k2.at h.a4 (by omega)).1, d3.1, ⟨b4, k4.at (k3.at (k2.at h.a1 (by omega)) (by omega)) (by omega), k4.at (k3.at (k2.at h.a2 (by omega)) (by omega)) (by omega), d3.set _, k4.hl (k3.hl p2 (by omega)) (by omega), k4.hl (k3.hl (k2.hl h.n1 (by omega)) (by omega)) (by omega), ?_, fun j z r hz hr => k4.hl (k3.hl (k2.hl (h.nr j z r hz hr) (by omega)) (by omega)) (by omega), h.xl, by simp [h.yl], fun j z r hz hr => ?_⟩, k4.hl (k3.hl (k2.hl hr (by omega)) (by omega)) (by omega)⟩
 ·have := k4.hl t3 (by omega)
  rwa [show ab3 tags ++ [EV.int .i64 t] = ab3 (tags ++ [t]) by simp [ab3]] at this
 ·by_cases e : j < ys.length
  ·rw [List.getElem?_append_left e] at hz
   rw [List.getElem?_append_left (by rw [← h.yl]; exact e)] at hr
   exact h.yv j z r hz hr
  ·have hj : j = ys.length := by
    have := aa9 hz
    rw [List.length_append, List.length_singleton] at this
    omega
   subst hj
   rw [List.getElem?_append_right (by omega), Nat.sub_self] at hz
   rw [List.getElem?_append_right (by rw [h.yl]; omega), h.yl, Nat.sub_self] at hr
   simp only [List.getElem?_cons_zero, Option.some.injEq] at hz hr
   subst hz hr
   exact hy
theorem SubD.addRow (h : SubD n of k H W ow X1 X2 P xs ys rows tags ps) {X : EV} {l : List Int} (hr : Hl W ow (9 + rows.length) 1 X (ab3 l)) (hl : rows.length ≤ 100000) :
  ∃ X1' W1 W2 ow', ad2 1 24 X1 (.imm 1 [X]) W = some (X1', W1) ∧ W1[H.length + 3]? = some (some (.row 259 [.agg (dfc of k X1 X2)])) ∧ W1.set (H.length + 3) (some (.row 259 [.agg (dfc of k X1' X2)])) = W2 ∧
   SubD n of k H W2 ow' X1' X2 P (xs ++ [X]) ys (rows ++ [l]) tags ps := by
 obtain ⟨X1', W1, ow1, e1, p1, k1, b1⟩ := h.n1.append h.bs (by omega) X 24 (by omega) (by rw [hr.one.2]; rfl) (by rw [hr.one.2]; simp [hr.one.1]) (by rw [h.xl]; omega) (by omega)
 have d1 := k1.at h.a4 (by omega)
 have k4 := Kp.set d1 (some (.row 259 [.agg (dfc of k X1' X2)]))
 have b4 := b1.set d1 (by omega) (some (.row 259 [.agg (dfc of k X1' X2)]))
 refine ⟨X1', W1, _, ow1, e1, d1.1, rfl, ⟨b4, k4.at (k1.at h.a1 (by omega)) (by omega), k4.at (k1.at h.a2 (by omega)) (by omega), d1.set _, k4.hl (k1.hl h.hp (by omega)) (by omega), k4.hl p1 (by omega), k4.hl (k1.hl h.n2 (by omega)) (by omega), fun j z r hz hr' => k4.hl (k1.hl ?_ (by omega)) (by omega), by simp [h.xl], h.yl, h.yv⟩⟩
 by_cases e : j < rows.length
 ·rw [List.getElem?_append_left (by rw [h.xl]; exact e)] at hz
  rw [List.getElem?_append_left e] at hr'
  exact h.nr j z r hz hr'
 ·have hj : j = rows.length := by
   have := aa9 hr'
   rw [List.length_append, List.length_singleton] at this
   omega
  subst hj
  rw [List.getElem?_append_right (by rw [h.xl]; omega), h.xl, Nat.sub_self] at hz
  rw [List.getElem?_append_right (by omega), Nat.sub_self] at hr'
  simp only [List.getElem?_cons_zero, Option.some.injEq] at hz hr'
  subst hz hr'
  exact hr
theorem SubD.cell (h : SubD n of k H W ow X1 X2 P xs ys rows tags ps) {X : EV} {l : List Int} (hr : Hl W ow (9 + rows.length) 1 X (ab3 l)) (hl : l.length ≤ 100000) (v : Int) :
  ∃ X' W1 ow', ad2 1 8 X (.imm 1 [.int .i64 v]) W = some (X', W1) ∧ SubD n of k H W1 ow' X1 X2 P xs ys rows tags ps ∧ Hl W1 ow' (9 + rows.length) 1 X' (ab3 (l ++ [v])) := by
 obtain ⟨X', W1, ow1, e1, p1, k1, b1⟩ := hr.append h.bs (by omega) (.int .i64 v) 8 (by omega) rfl rfl (by rw [ad0]; omega) (by omega)
 rw [show ab3 l ++ [EV.int .i64 v] = ab3 (l ++ [v]) by simp [ab3]] at p1
 exact ⟨X', W1, ow1, e1, h.kp k1 b1 (by omega), p1⟩
theorem SubD.fin (h : SubD n of k H W ow X1 X2 P xs ys rows tags ps) (c : EV) (hc : ∀ L, c.ok L = true) : (∀ b : Option EB, (W.set (H.length + 1) b)[H.length + 1]? = some b) ∧ ∀ b : Option EB, Bs H (W.set (H.length + 1) b) ow ∧ Abs.fz H.length (W.set (H.length + 1) b) 8 (.tup [.agg (dfc of k X1 X2), c]) = some (.tup [.agg (dfc of k (slE 1 (rows.map fun l => slE 1 (ab3 l))) (slE 1 (ab3 tags))), c]) :=
 ⟨fun b => List.getElem?_set_self (aa9 h.a2.1), fun b => ⟨h.bs.set h.a2 (by omega) b, ex8 (h.bs.set h.a2 (by omega) b) ((Kp.set h.a2 b).hl h.n1 (by omega)) ((Kp.set h.a2 b).hl h.n2 (by omega)) (fun j z l hz hl => (Kp.set h.a2 b).hl (h.nr j z l hz hl) (by omega)) h.xl c hc⟩⟩
def ow1 (L k : Nat) : Nat := if k < L then 0 else [1, 2, 3, 4, 7].getD (k - L) 0
theorem cw4 (L j : Nat) : ow1 L (L + j) = [1, 2, 3, 4, 7].getD j 0 := by unfold ow1; rw [if_neg (by omega), Nat.add_sub_cancel_left]
theorem SubD.start (n : NF) (of : Nat → Nat) (k : Nat) (H : Heap) : SubD n of k H (H ++ [some (.row 6 [.agg [n.x0, n.x1, n.x2, n.x3, n.x4, .int .i64 n.m]]), some (.row 259 [.agg ((tab 256 fun _ => EV.int .u8 0) ++ [EV.int .i64 0, EV.nilsl, EV.nilsl])]), some (.row 1 [.int .i64 n.m]), some (.row 259 [.agg ((tab 256 fun i => EV.int .u8 ((of i : Nat) : Int)) ++ [EV.int .i64 (k : Nat), EV.nilsl, .own (H.length + 2) 1 0 1])]), some (.row 1 [.nilsl])]) (ow1 H.length) .nilsl (.own (H.length + 2) 1 0 1) (.own (H.length + 4) 1 0 1) [] [.nilsl] [] [n.m] [[]] := by
 have e : (tab 256 fun i => EV.int .u8 ((of i : Nat) : Int)) ++ [EV.int .i64 (k : Nat), EV.nilsl, .own (H.length + 2) 1 0 1] = dfc of k .nilsl (.own (H.length + 2) 1 0 1) := by unfold dfc; rw [List.append_assoc]; rfl
 rw [e]
 have g : ∀ (G : Heap) (j : Nat), (H ++ G)[H.length + j]? = G[j]? := fun G j => by rw [List.getElem?_append_right (by omega), Nat.add_sub_cancel_left]
 have g0 : ∀ (G : Heap), (H ++ G)[H.length]? = G[0]? := fun G => g G 0
 refine ⟨⟨by simp, by simp, fun k hk => by unfold ow1; rw [if_pos hk]⟩, ⟨by rw [g0]; rfl, cw4 H.length 0⟩, ⟨by rw [g]; rfl, cw4 H.length 1⟩, ⟨by rw [g]; rfl, cw4 H.length 3⟩, .inr ⟨H.length + 4, rfl, ⟨by rw [g]; rfl, cw4 H.length 4⟩, by simp⟩, .inl ⟨rfl, rfl⟩, .inr ⟨H.length + 2, rfl, ⟨by rw [g]; rfl, cw4 H.length 2⟩, by simp [ab3]⟩, fun j z l hz => by simp at hz, rfl, rfl, fun j y l hy hl => ?_⟩
 cases j with
 | zero =>
  simp only [List.getElem?_cons_zero, Option.some.injEq] at hy hl
  subst hy hl
  exact .nil
 | succ j => simp at hy
end
section
variable {E : Env} [R : SubR E] (hR : bg0 E R.ah0 .i64)
include hR in
theorem dy3 (n : NF) (hm : mayB n = true) (x : EV) (hx : ai9 x []) (b : Nat) (hb : b < 256) (H : Heap) : den E R.ah8 [n.E, x, .bool true, .int .u8 b] H = some (.ret (slE 1 (ab3 (begL n b))), H) := by
 have h := cw9 hR n (ay2 hm) x [] hx (fun p hp => by simp at hp) true b hb H
 rw [h]
 have hr : ris n.sets.length n.first = true := by
  unfold mayB at hm
  simp only [Bool.and_eq_true, decide_eq_true_eq] at hm
  exact hm.1.2.2.2.2.2.2
 simp only [if_true]
 rw [show az2 n (aq9 (ag5 n.sets.length) n.first) [] = aq9 (ag5 n.sets.length) n.first from rfl, de9 hr]
 rfl
def slD (L : Nat) (P : EV) (i : Nat) (X : EV) (c : Nat) : List (Nat × EV) := [(1, .ptr L 6 0 0), (2, .ptr (L + 1) 259 0 0), (4, .ptr (L + 3) 259 0 0), (5, P), (6, .int .i64 i), (7, X), (8, .int .i64 c)]
include hR in
set_option maxHeartbeats 4000000 in
theorem bu1 (n : NF) (hm : mayB n = true) (of : Nat → Nat) (fs : List Nat) (hk0 : 0 < fs.length) (hk : fs.length ≤ 256) (hof : ∀ b, b < 256 → of b < 256) (hfs : ∀ (c b : Nat), fs[c]? = some b → b < 256 ∧ of b = c ∧ ∀ a, a < b → of a ≠ c)
  (hP : ∀ H, den E R.ak5 [n.x0] H = some (.ret (dq4 of fs.length), H)) (H : Heap)
  (v : EV) (hv1 : Big n fs → v = .tup [.agg (dfc (fun _ => 0) 0 .nilsl .nilsl), .bool false])
  (hv2 : ∀ i, (subB n fs i).ps.length ≤ i → (subB n fs i).ps.length ≤ 600 → v = .tup [.agg (dfc of fs.length (slE 1 ((subB n fs i).rows.map fun l => slE 1 (ab3 l))) (slE 1 (ab3 (bg7 n (subB n fs i).ps)))), .bool true]) :
  den E R.am0 [n.E] H = some (.ret v, H) := by
 have hG := ay2 hm
 have hkn := hG.k
 have hris : ris n.sets.length n.first = true := by
  unfold mayB at hm
  simp only [Bool.and_eq_true, decide_eq_true_eq] at hm
  exact hm.1.2.2.2.2.2.2
 obtain ⟨o0, o1, o2, o3, o4⟩ := n.one
 have h258 : List.take 258 ((tab 256 fun i => EV.int .u8 ((of i : Nat) : Int)) ++ [EV.int .i64 (fs.length : Nat), EV.nilsl, EV.nilsl]) = (tab 256 fun i => EV.int .u8 ((of i : Nat) : Int)) ++ [EV.int .i64 (fs.length : Nat), .nilsl] := by
  rw [List.take_append, List.take_of_length_le (by rw [ab9]; omega), ab9]; rfl
 have h258l : ((tab 256 fun i => EV.int .u8 ((of i : Nat) : Int)) ++ [EV.int .i64 (fs.length : Nat), .nilsl]).length = 258 := by rw [List.length_append, ab9]; rfl
 have h258a : ((tab 256 fun i => EV.int .u8 ((of i : Nat) : Int)) ++ [EV.int .i64 (fs.length : Nat), .nilsl]).all EV.one = true := by
  rw [List.all_append, Bool.and_eq_true]
  exact ⟨bj6, rfl⟩
 refine ah2 R.az4 (by simp) ?_
 unfold Gn.ak8 Gn.ai2
 unfold NF.E
 unfold EV.one at o0 o1 o2 o3 o4
 unfold dq4 at hP
 repeat' first | (simp (disch := first | omega | assumption) only [go_sem, simprocAttr, *]) | refine aa2 (fun hb=>?_) fun hb=>?_ | refine aa3 (fun hb=>?_) fun hb=>?_
 all_goals (try simp only [FX] at *)
 all_goals first | omega | skip
 clear h258 h258l h258a hP o0 o1 o2 o3 o4
 refine ad5 (ι := Nat × Heap × (Nat → Nat) × EV × EV × EV × List EV × List EV) (fun p => SI n fs p.1 ∧ (subB n fs p.1).ps.length ≤ 600 ∧ SubD n of fs.length H p.2.1 p.2.2.1 p.2.2.2.1 p.2.2.2.2.1 p.2.2.2.2.2.1 p.2.2.2.2.2.2.1 p.2.2.2.2.2.2.2 (subB n fs p.1).rows (bg7 n (subB n fs p.1).ps) (subB n fs p.1).ps) (fun p => 601 - p.1)
  (fun p => [(1, .ptr H.length 6 0 0), (2, .ptr (H.length + 1) 259 0 0), (4, .ptr (H.length + 3) 259 0 0), (5, p.2.2.2.2.2.1), (6, .int .i64 p.1)]) (fun p => p.2.1) (0, _, _, _, _, _, _, _) ⟨SI.zero n fs, by simp [subB], SubD.start n of fs.length H⟩ ?_ rfl ?_
 ·simp (disch := omega) only [go_sem, simprocAttr, Sl]
 rintro ⟨i, W, ow, X1, X2, P, xs, ys⟩ t ⟨hI, h6, hS⟩ ht K hK
 simp only at hI h6 hS
 simp (disch := omega) only [go_sem, simprocAttr, Sl] at ht
 have hIl := hI.le
 have lP := hS.hp.len
 rw [hS.yl] at lP
 show @Hd E ⟨_⟩ ⟨t⟩ ⟨W⟩ ⟨_⟩
 by_cases hlt : i < (subB n fs i).ps.length
 ·repeat' first | (simp (disch := first | omega | assumption) only [go_sem, simprocAttr, *]) | refine aa2 (fun hb=>?_) fun hb=>?_ | refine aa3 (fun hb=>?_) fun hb=>?_
  all_goals (try simp only [FX] at *)
  all_goals first | omega | skip
  clear hb lP
  refine ad5 (ι := Nat × Heap × (Nat → Nat) × EV × EV × List EV × EV) (fun q => q.1 ≤ fs.length ∧ (subP n fs i (subB n fs i).ps q.1).1.length ≤ 600 + q.1 ∧ SubD n of fs.length H q.2.1 q.2.2.1 X1 q.2.2.2.1 q.2.2.2.2.1 xs q.2.2.2.2.2.1 (subB n fs i).rows (bg7 n (subP n fs i (subB n fs i).ps q.1).1) (subP n fs i (subB n fs i).ps q.1).1 ∧ Hl q.2.1 q.2.2.1 (9 + (subB n fs i).rows.length) 1 q.2.2.2.2.2.2 (ab3 (subP n fs i (subB n fs i).ps q.1).2)) (fun q => fs.length - q.1)
   (fun q => slD H.length q.2.2.2.2.1 i q.2.2.2.2.2.2 q.1) (fun q => q.2.1) (0, W, ow, X2, P, ys, .nilsl) ⟨by omega, by rw [bb2]; exact h6, by rw [bb2]; exact hS, by rw [bb2]; exact .inl ⟨rfl, rfl⟩⟩ ?_ rfl ?_
  ·simp (disch := omega) only [go_sem, simprocAttr, Sl, slD, ht, and_self]
  clear ht t hS ow X2 P ys W
  rintro ⟨c, V, ow1, X2, P, ys, X⟩ t ⟨hc, h6c, hS, hR1⟩ ht K2 hK2
  simp only at hc h6c hS hR1
  simp (disch := omega) only [go_sem, simprocAttr, Sl, slD] at ht
  have hJ := hI.part hris c
  obtain ⟨q, hg1, hg2, _⟩ := bt1 n fs i (subB n fs i).ps c
  rw [Nat.min_eq_left hc] at hg2
  have dX1 := dm4 (of := of) (n := fs.length) (x1 := X1) (x2 := X2)
  have dXn := fe4 (of := of) (n := fs.length) (x1 := X1) (x2 := X2)
  have dXL := bg3 (of := of) (n := fs.length) (x1 := X1) (x2 := X2)
  have w3 := hS.a4.1
  show @Hd E ⟨_⟩ ⟨t⟩ ⟨V⟩ ⟨_⟩
  by_cases hcl : c < fs.length
  ·obtain ⟨b, hbc⟩ := ab5 hcl
   have hpn := ce7 (n := n) (i := i) (ps := (subB n fs i).ps) hbc
   have hxr := dc9 hris i ((subB n fs i).ps.getD i []) b
   obtain ⟨hb0, hb1, hb2⟩ := hfs c b hbc
   obtain ⟨l, hl⟩ := ab5 hlt
   have hgl : (subP n fs i (subB n fs i).ps c).1[i]? = some l := by rw [hg1, List.getElem?_append_left hlt]; exact hl
   rw [List.getD_eq_getElem?_getD, hl, Option.getD_some] at hpn hxr
   generalize hx : nxL n i l b = x at hpn hxr
   generalize subP n fs i (subB n fs i).ps c = p at hg1 hg2 hgl hJ h6c hS hR1 hpn
   have hxl := dd0 hxr
   have lP := hS.hp.len
   rw [hS.yl] at lP
   have w1 := hS.a1.1
   unfold NF.E at w1
   refine an8 (fun t' W' => V = W' ∧ Sl t' (slD H.length P i X c)) ?_ ?_
   ·clear hK hK2 hv1 hv2
    repeat' first | (simp (disch := first | omega | assumption) only [go_sem, simprocAttr, Sl, slD, *]) | refine aa2 (fun hb=>?_) fun hb=>?_ | refine aa3 (fun hb=>?_) fun hb=>?_
    all_goals (try simp only [FX] at *)
    all_goals first | omega | skip
    all_goals simp [ht, hcl]
   rintro t2 _ ⟨rfl, ht2⟩
   simp (disch := omega) only [go_sem, simprocAttr, Sl, slD] at ht2
   clear ht t
   rw [db2, cs9]
   refine an8 (fun t' W' => V = W' ∧ Sl t' ((9, .int .i64 0) :: slD H.length P i X c)) ?_ ?_
   ·clear hK hK2 hv1 hv2
    repeat' first | (simp (disch := first | omega | assumption) only [go_sem, simprocAttr, Sl, slD, *]) | refine aa2 (fun hb=>?_) fun hb=>?_ | refine aa3 (fun hb=>?_) fun hb=>?_
    all_goals (try simp only [FX] at *)
    all_goals first | omega | skip
    all_goals simp [ht2, hcl]
   rintro t _ ⟨rfl, ht⟩
   simp (disch := omega) only [go_sem, simprocAttr, Sl, slD] at ht
   clear ht2 t2
   refine an8 (fun t' W' => V = W' ∧ Sl t' ((9, .int .i64 b) :: slD H.length P i X c)) ?_ ?_
   ·clear hK hK2 hv1 hv2 hpn
    repeat' first | (simp (disch := first | omega | assumption) only [go_sem, simprocAttr, *]) | refine aa2 (fun hb=>?_) fun hb=>?_ | refine aa3 (fun hb=>?_) fun hb=>?_
    refine ad5 (ι := Nat) (fun a => a ≤ b) (fun a => b - a) (fun a => (9, .int .i64 a) :: slD H.length P i X c) (fun _ => V) 0 (by omega) ?_ rfl ?_
    ·simp (disch := omega) only [go_sem, simprocAttr, Sl, slD, ht, and_self]
    clear ht t
    rintro a t ha ht K hK
    simp (disch := omega) only [go_sem, simprocAttr, Sl, slD] at ht
    have dXo := fk2 (of := of) (n := fs.length) (x1 := X1) (x2 := X2) (b := a) (by omega)
    have ha0 : (0 : Int) ≤ a := by omega
    have ha1 : (a : Int) < 256 := by omega
    have hofa := hof a (by omega)
    by_cases hab : a < b
    ·have hne := hb2 a hab
     have go := fun s' => hK (a + 1) s' V (by omega) (by omega)
     clear hK
     repeat' first | (simp (disch := first | omega | assumption) only [go_sem, simprocAttr, *]) | refine aa2 (fun hb=>?_) fun hb=>?_ | refine aa3 (fun hb=>?_) fun hb=>?_
     all_goals (try simp only [FX] at *)
     all_goals first | omega | skip
     refine go _ ?_ trivial
     simp (disch := omega) only [go_sem, simprocAttr, Sl, slD, ht, and_self, ab6]
    ·have hae : a = b := by omega
     subst hae
     clear hK
     repeat' first | (simp (disch := first | omega | assumption) only [go_sem, simprocAttr, *]) | refine aa2 (fun hb=>?_) fun hb=>?_ | refine aa3 (fun hb=>?_) fun hb=>?_
     all_goals (try simp only [FX] at *)
     all_goals first | omega | exact (hb trivial).elim | skip
     simp (disch := omega) only [go_sem, simprocAttr, Sl, slD, ht, and_self, ab6]
   rintro t2 _ ⟨rfl, ht2⟩
   simp (disch := omega) only [go_sem, simprocAttr, Sl, slD] at ht2
   clear ht t
   obtain ⟨yi, hyi⟩ := ab5 (l := ys) (i := i) (by rw [hS.yl, hg1]; simp; omega)
   have hyl := hS.yv i yi l hyi hgl
   obtain ⟨y, hye⟩ : ∃ y, y = slE 1 (ab3 x) := ⟨_, rfl⟩
   have hy : ai9 y x := by rw [hye]; exact cd7 (by omega)
   refine an8 (fun t' W' => V = W' ∧ Sl t' ((10, y) :: slD H.length P i X c)) ?_ ?_
   ·obtain ⟨kp, ekp, hap, hep⟩ := hS.hp.at hyi
    have wp := hap.1
    have lyi := hyl.one.1
    have hi1 : (0 : Int) ≤ i := by omega
    have hi2 : (i : Int) < (ys.length : Int) := by have := aa9 hyi; omega
    have oyi := hyl.one.2
    unfold EV.one at oyi
    unfold EV.cells at lyi
    have hw : IntKind.u8.wrap ((b : Nat) : Int) = ((b : Nat) : Int) := by rw [co8]; omega
    by_cases hi0 : i = 0
    ·have hl0 : l = [] := by
      have h0 := hI.hd
      subst hi0
      rw [h0] at hl
      exact (Option.some.inj hl).symm
     subst hl0
     have hst := dy3 (R := R) hR n hm yi hyl b hb0 V
     rw [show begL n b = x by rw [← hx]; unfold nxL; rw [if_pos hi0], ← hye] at hst
     unfold NF.E at hst
     have hi0' : ((i : Int) == 0) = true := by simp [hi0]
     clear hK hK2 hv1 hv2 hpn hye hx hi0 hb2
     repeat' first | (simp (disch := first | omega | assumption) only [go_sem, simprocAttr, *]) | refine aa2 (fun hb=>?_) fun hb=>?_ | refine aa3 (fun hb=>?_) fun hb=>?_
     all_goals (try simp only [FX] at *)
     all_goals first | omega | skip
     try simp (disch := omega) only [go_sem, simprocAttr, Sl, slD, ht2, and_self]
     try exact ekp
    ·have hst := dy1 (R := R.toNfaR) hR n hm yi l hyl (InP.ris (by omega) (hJ.ris l (List.mem_of_getElem? hgl))) b hb0 V
     rw [show do7 n l b = x by rw [← hx]; unfold nxL; rw [if_neg hi0], ← hye] at hst
     unfold NF.E at hst
     have hi0' : ((i : Int) == 0) = false := by simp [hi0]
     clear hK hK2 hv1 hv2 hpn hye hx hi0 hb2
     repeat' first | (simp (disch := first | omega | assumption) only [go_sem, simprocAttr, *]) | refine aa2 (fun hb=>?_) fun hb=>?_ | refine aa3 (fun hb=>?_) fun hb=>?_
     all_goals (try simp only [FX] at *)
     all_goals first | omega | skip
     try simp (disch := omega) only [go_sem, simprocAttr, Sl, slD, ht2, and_self]
     try exact ekp
   rintro t _ ⟨rfl, ht⟩
   simp (disch := omega) only [go_sem, simprocAttr, Sl, slD] at ht
   clear ht2 t2 hye
   have ly := hy.lenI
   have oy := hy.one.2
   have cy := hy.one.1
   unfold EV.one at oy
   unfold EV.cells at cy
   refine an8 (fun t' W' => V = W' ∧ Sl t' ((11, .int .i64 (-1)) :: (10, y) :: slD H.length P i X c)) ?_ ?_
   ·clear hK hK2 hv1 hv2
    repeat' first | (simp (disch := first | omega | assumption) only [go_sem, simprocAttr, Sl, slD, *]) | refine aa2 (fun hb=>?_) fun hb=>?_ | refine aa3 (fun hb=>?_) fun hb=>?_
    all_goals (try simp only [FX] at *)
    all_goals first | omega | skip
   rintro t2 _ ⟨rfl, ht2⟩
   simp (disch := omega) only [go_sem, simprocAttr, Sl, slD] at ht2
   clear ht t
   have hp0 := hJ.pos
   refine an8 (fun t' W' => ∃ V2 ow2 X2' P' ys' v, V2 = W' ∧ (subP n fs i (subB n fs i).ps (c + 1)).2 = p.2 ++ [v] ∧ (subP n fs i (subB n fs i).ps (c + 1)).1.length ≤ 600 + (c + 1) ∧ SubD n of fs.length H V2 ow2 X1 X2' P' xs ys' (subB n fs i).rows (bg7 n (subP n fs i (subB n fs i).ps (c + 1)).1) (subP n fs i (subB n fs i).ps (c + 1)).1 ∧ Hl V2 ow2 (9 + (subB n fs i).rows.length) 1 X (ab3 p.2) ∧ Sl t' ((11, .int .i64 v) :: slD H.length P' i X c)) ?_ ?_
   ·clear hK hK2 hv1 hv2
    by_cases hx0 : x = []
    ·subst hx0
     have hpn' : subP n fs i (subB n fs i).ps (c + 1) = (p.1, p.2 ++ [-1]) := by rw [hpn]; unfold subT; rw [if_pos rfl]
     rw [hpn']
     rw [List.length_nil] at ly
     clear hpn hpn' hg1 hgl
     repeat' first | (simp (disch := first | omega | assumption) only [go_sem, simprocAttr, *]) | refine aa2 (fun hb=>?_) fun hb=>?_ | refine aa3 (fun hb=>?_) fun hb=>?_
     all_goals (try simp only [FX] at *)
     all_goals first | omega | skip
     refine ⟨V, ow1, X2, P, ys, -1, rfl, rfl, by first | omega | (simp only; omega), hS, hR1, ?_⟩
     simp (disch := omega) only [go_sem, simprocAttr, Sl, slD, ht2, and_self]
    have hxp : 0 < x.length := List.length_pos_iff.2 hx0
    have hfind := eu7 (R := R) V ow1 7 P ys p.1 hS.hp hS.yl hS.yv hJ.hd y x hy hx0 (by omega)
    by_cases hmm : x ∈ p.1
    ·rw [if_pos hmm] at hfind
     have hpn' : subP n fs i (subB n fs i).ps (c + 1) = (p.1, p.2 ++ [(p.1.idxOf x : Int)]) := by rw [hpn]; unfold subT; rw [if_neg hx0, if_pos hmm]
     rw [hpn']
     have hidx := List.idxOf_lt_length_of_mem hmm
     generalize p.1.idxOf x = g at hfind hidx
     clear hpn hpn' hg1 hgl
     repeat' first | (simp (disch := first | omega | assumption) only [go_sem, simprocAttr, *]) | refine aa2 (fun hb=>?_) fun hb=>?_ | refine aa3 (fun hb=>?_) fun hb=>?_
     all_goals (try simp only [FX] at *)
     all_goals first | omega | skip
     refine ⟨V, ow1, X2, P, ys, g, rfl, rfl, by first | omega | (simp only; omega), hS, hR1, ?_⟩
     simp (disch := omega) only [go_sem, simprocAttr, Sl, slD, ht2, and_self]
    rw [if_neg hmm] at hfind
    have hpn' : subP n fs i (subB n fs i).ps (c + 1) = (p.1 ++ [x], p.2 ++ [(p.1.length : Int)]) := by rw [hpn]; unfold subT; rw [if_neg hx0, if_neg hmm, List.idxOf_eq_length hmm]
    rw [hpn']
    have htl := bs9 (n := n) hp0
    obtain ⟨P', X2', U2, U3, U4, ow2, eU2, eU3, eU4, u1, u4, u5, hS2, hR2⟩ := hS.add y x hy (tagF n x) (by omega) (by omega) hR1 (by omega)
    rw [← ct7 hp0] at hS2
    have htg := fun H => dp5 (R := R.toNfaR) n hG y x hy (InP.ris (by omega) hxr) H
    unfold NF.E at htg u1
    have dX2 := ek1 (of := of) (n := fs.length) (x1 := X1) (x2 := X2)
    have dT : List.take 258 (dfc of fs.length X1 X2) ++ X2' :: List.drop 259 (dfc of fs.length X1 X2) = dfc of fs.length X1 X2' := dm5
    have o1 := hS2.n2.one.1
    have c1 := hS2.n2.one.2
    unfold EV.one at o1
    unfold EV.cells at c1
    clear hpn hpn' hg1 hgl
    repeat' first | (simp (disch := first | omega | assumption) only [go_sem, simprocAttr, *]) | refine aa2 (fun hb=>?_) fun hb=>?_ | refine aa3 (fun hb=>?_) fun hb=>?_
    all_goals (try simp only [FX] at *)
    all_goals first | omega | skip
    refine ⟨U4, ow2, X2', P', ys ++ [y], p.1.length, rfl, rfl, by first | omega | (simp; omega), hS2, hR2, ?_⟩
    simp (disch := omega) only [go_sem, simprocAttr, Sl, slD, ht2, and_self]
   clear hS hR1 dX1 dXn dXL w3 w1 lP hyl hyi
   rintro t _ ⟨V2, ow2, X2', P', ys', v', rfl, hv', h6', hS, hR1, ht⟩
   simp (disch := omega) only [go_sem, simprocAttr, Sl, slD] at ht
   obtain ⟨X', V3, ow3, e3, hS3, hR3⟩ := hS.cell hR1 (by omega) v'
   rw [← hv'] at hR3
   have go := fun s' => hK2 (c + 1, V3, ow3, X2', P', ys', X') s' V3 ⟨by simp only; omega, h6', hS3, hR3⟩ (by simp only; omega)
   clear hK hK2 hv1 hv2 hpn hv'
   repeat' first | (simp (disch := first | omega | assumption) only [go_sem, simprocAttr, *]) | refine aa2 (fun hb=>?_) fun hb=>?_ | refine aa3 (fun hb=>?_) fun hb=>?_
   all_goals (try simp only [FX] at *)
   all_goals first | omega | skip
   refine go _ ?_ trivial
   simp (disch := omega) only [go_sem, simprocAttr, Sl, slD, ht, and_self, ab6]
  ·have hce : c = fs.length := by omega
   subst hce
   obtain ⟨X1', V1, V2, ow2, e1, d1, e2, hS2⟩ := hS.addRow (l := (subP n fs i (subB n fs i).ps fs.length).2) hR1 (by rw [hI.rl]; omega)
   rw [bl9] at hS2 h6c
   have hn := bm1 hlt
   have dT : List.take 257 (dfc of fs.length X1 X2) ++ X1' :: List.drop 258 (dfc of fs.length X1 X2) = dfc of fs.length X1' X2 := dm6
   have o1 := hS2.n1.one.1
   have c1 := hS2.n1.one.2
   have lP := hS2.hp.len
   rw [hS2.yl] at lP
   have oX := hR1.one.1
   have cX := hR1.one.2
   unfold EV.one at o1 oX
   unfold EV.cells at c1 cX
   by_cases h600 : 600 < (subR n fs i (subB n fs i).ps).1.length
   ·have hbig : Big n fs := dn6 (c := fs.length) hlt (by rw [bl9]; exact h600)
    have hv := hv1 hbig
    obtain ⟨hset, _⟩ := hS2.fin (.int .i64 0) fun _ => rfl
    have w2 := hS2.a2.1
    have hB2 := fun b : Option EB => hS2.bs.set hS2.a2 (by omega) b
    rw [hv]
    clear hK hK2 hv1 hv2 hv hn hg1
    repeat' first | (simp (disch := first | omega | assumption) only [go_sem, simprocAttr, *]) | refine aa2 (fun hb=>?_) fun hb=>?_ | refine aa3 (fun hb=>?_) fun hb=>?_
    all_goals (try simp only [FX] at *)
    all_goals first | omega | skip
    rw [show List.take 259 ((tab 256 fun _ => EV.int .u8 0) ++ [EV.int .i64 0, EV.nilsl, EV.nilsl]) = dfc (fun _ => 0) 0 .nilsl .nilsl from cd9 (of := fun _ => 0) (n := 0) (x1 := .nilsl) (x2 := .nilsl)]
    exact (hB2 _).drop rfl rfl
   ·have go := fun s' => hK (i + 1, V2, ow2, X1', X2, P, xs ++ [X], ys) s' V2 ⟨hI.next hris hlt, by rw [hn]; simp only; omega, by rw [hn]; exact hS2⟩ (by simp only; omega)
    clear hK hK2 hv1 hv2 hn hg1
    repeat' first | (simp (disch := first | omega | assumption) only [go_sem, simprocAttr, *]) | refine aa2 (fun hb=>?_) fun hb=>?_ | refine aa3 (fun hb=>?_) fun hb=>?_
    all_goals (try simp only [FX] at *)
    all_goals first | omega | skip
    refine go _ ?_ trivial
    simp (disch := omega) only [go_sem, simprocAttr, Sl, ht, and_self, ab6]
 ·have dXL := bg3 (of := of) (n := fs.length) (x1 := X1) (x2 := X2)
  have w3 := hS.a4.1
  have hw2 := bw9 259 (of := of) (n := fs.length) (x1 := X1) (x2 := X2) (by omega)
  have hall : (dfc of fs.length X1 X2).all EV.one = true := by
   have q1 := hS.n1.one.1
   have q2 := hS.n2.one.1
   unfold dfc
   rw [List.all_append, List.all_append, Bool.and_eq_true, Bool.and_eq_true]
   exact ⟨⟨bj6, rfl⟩, by simp [q1, q2]⟩
  obtain ⟨hset, hfin⟩ := hS.fin (.bool true) fun _ => rfl
  have w2 := hS.a2.1
  rw [hv2 i (by omega) h6]
  clear hK hv1 hv2
  repeat' first | (simp (disch := first | omega | assumption) only [go_sem, simprocAttr, *]) | refine aa2 (fun hb=>?_) fun hb=>?_ | refine aa3 (fun hb=>?_) fun hb=>?_
  all_goals (try simp only [FX] at *)
  all_goals first | omega | skip
  exact (hfin _).1.fz rfl (hfin _).2 rfl
end
theorem ez9 {n : NF} {fs : List Nat} (hf : ris n.sets.length n.first = true) (hb : ¬Big n fs) : ∃ i, SI n fs i ∧ (subB n fs i).ps.length = i ∧ i ≤ 600 := by
 have key : ∀ j : Nat, (∃ i, SI n fs i ∧ (subB n fs i).ps.length = i) ∨ (SI n fs j ∧ j < (subB n fs j).ps.length) := by
  intro j
  induction j with
  | zero => exact .inr ⟨SI.zero n fs, (SI.zero n fs).pos⟩
  | succ j ih =>
   rcases ih with h | ⟨h1, h2⟩
   ·exact .inl h
   ·have h3 := h1.next hf h2
    have := h3.le
    by_cases e : (subB n fs (j + 1)).ps.length = j + 1
    ·exact .inl ⟨_, h3, e⟩
    ·exact .inr ⟨h3, by omega⟩
 rcases key 601 with ⟨i, h1, h2⟩ | ⟨_, h2⟩
 ·refine ⟨i, h1, h2, Nat.le_of_not_lt fun h => hb ⟨i, by omega⟩⟩
 ·exact absurd ⟨601, by omega⟩ hb
theorem di6 {n : NF} {fs : List Nat} {i j : Nat} (hi : (subB n fs i).ps.length ≤ i) (hj : (subB n fs j).ps.length ≤ j) : subB n fs i = subB n fs j := by
 rcases Nat.le_total i j with h | h
 ·have := bm0 hi (j - i)
  rw [Nat.add_sub_cancel' h] at this
  exact this.symm
 ·have := bm0 hj (i - j)
  rwa [Nat.add_sub_cancel' h] at this
theorem ep3 {n : NF} (g : n.Good) {l : List Int} (h : InP n.sets.length l) : -1 ≤ tagF n l ∧ tagF n l ≤ 39 := by
 have hr : ∀ p ∈ l, 0 ≤ rulP n p := fun p hp => (g.at (h p hp)).2.2.1
 rcases ce5 (n := n) hr with ⟨e, _⟩ | ⟨h0, ⟨p, hp, _, e⟩, _⟩
 ·omega
 ·have := (g.at (h p hp)).2.2.2
  omega
def subD (n : NF) (fs : List Nat) (of : Nat → Nat) (hof : ∀ b, b < 256 → of b < 256) (i : Nat) (h1 : (subB n fs i).rows.length ≤ 1000000) (h2 : ∀ l ∈ (subB n fs i).rows, l.length ≤ 1000000) (h3 : (bg7 n (subB n fs i).ps).length ≤ 1000000) : DF :=
 ⟨of, fs.length, slE 1 ((subB n fs i).rows.map fun l => slE 1 (ab3 l)), slE 1 (ab3 (bg7 n (subB n fs i).ps)), (subB n fs i).rows.map fun l => slE 1 (ab3 l), (subB n fs i).rows, bg7 n (subB n fs i).ps, hof,
  fh3 (fun n => dk5 n _) (by rw [List.length_map]; omega), by simp, fun j y l hy hl => by
   rw [List.getElem?_map, hl] at hy
   simp only [Option.map_some, Option.some.injEq] at hy
   subst hy
   exact cd7 (by have := h2 l (List.mem_of_getElem? hl); omega), cd7 (by omega)⟩
theorem cv7 {N : Nat} {k : Int} : ∀ {ls : List (List Int)} {ts : List Int}, (∀ l ∈ ls, (l.length : Int) = k ∧ ∀ x ∈ l, -1 ≤ x ∧ x ≤ (N : Int) - 1) → (∀ t ∈ ts, -1 ≤ t ∧ t ≤ 39) → br8 N k ls ts = true
 | [], _, _, _ => by unfold br8; rfl
 | _ :: _, [], _, _ => rfl
 | l :: ls, t :: ts, h1, h2 => by
  rw [cm0, cv7 (fun l hl => h1 l (List.mem_cons_of_mem _ hl)) fun t ht => h2 t (List.mem_cons_of_mem _ ht), Bool.and_true]
  obtain ⟨e, hx⟩ := h1 l (by simp)
  have ht := h2 t (by simp)
  unfold rowB
  rw [decide_eq_true e, decide_eq_true ht.1, decide_eq_true ht.2]
  have hn : (l.any fun x => !(decide (-1 ≤ x) && decide (x ≤ (N : Int) - 1))) = false := List.any_eq_false.2 fun x hxm => by
   have := hx x hxm
   rw [decide_eq_true this.1, decide_eq_true this.2]
   simp
  rw [hn]
  rfl
theorem ep5 {n : NF} {fs : List Nat} {of : Nat → Nat} {hof : ∀ b, b < 256 → of b < 256} {i : Nat} {h1 : (subB n fs i).rows.length ≤ 1000000} {h2 : ∀ l ∈ (subB n fs i).rows, l.length ≤ 1000000} {h3 : (bg7 n (subB n fs i).ps).length ≤ 1000000}
  (hm : mayB n = true) (hI : SI n fs i) (hi : (subB n fs i).ps.length = i) (h6 : i ≤ 600) (hc : mayC of fs.length = true) : (subD n fs of hof i h1 h2 h3).may = true := by
 have hG := ay2 hm
 have hmr : -1 ≤ n.m ∧ n.m ≤ 39 := by
  unfold mayB at hm
  simp only [Bool.and_eq_true, decide_eq_true_eq] at hm
  exact ⟨hm.1.2.2.2.2.1, hm.1.2.2.2.2.2.1⟩
 have htl := bs9 (n := n) hI.pos
 unfold DF.may
 simp only [Bool.and_eq_true, decide_eq_true_eq]
 refine ⟨⟨⟨hc, ?_⟩, ?_⟩, cv7 (fun l hl => ⟨?_, fun x hx => ?_⟩) fun t ht => ?_⟩
 ·show (subB n fs i).rows.length ≤ 600
  rw [hI.rl]; exact h6
 ·show (bg7 n (subB n fs i).ps).length = (subB n fs i).rows.length
  rw [htl, hI.rl, hi]
 ·show (l.length : Int) = (fs.length : Nat)
  rw [hI.wid l hl]
 ·have := hI.cel l hl x hx
  have e : (subD n fs of hof i h1 h2 h3).rows.length = i := hI.rl
  rw [e]
  omega
 ·have ht' : t ∈ bg7 n (subB n fs i).ps := ht
  unfold bg7 at ht'
  rcases List.mem_cons.1 ht' with rfl | hmem
  ·exact hmr
  ·obtain ⟨l, hl, rfl⟩ := List.mem_map.1 hmem
   exact ep3 hG (InP.ris (by omega) (hI.ris l (List.mem_of_mem_tail hl)))
def fsL (of : Nat → Nat) (k : Nat) : List Nat := (List.range k).map fun c => ((List.range 256).find? fun b => of b == c).getD 0
theorem eg1 (of : Nat → Nat) (k : Nat) : (fsL of k).length = k := by simp [fsL]
theorem ci9 {of : Nat → Nat} (hc : ∀ i, i < 256 → clsN (al7 of) i = of i) : ∀ b, b ≤ 256 → ∀ c, c < cntN of b → ∃ a, a < b ∧ of a = c
 | 0, _, c, h => by rw [bj4] at h; omega
 | b + 1, hb, c, h => by
  by_cases ho : ∃ a, a < b ∧ of a = of b
  ·obtain ⟨a, ha, e⟩ := ho
   rw [bf6 ha e] at h
   obtain ⟨a', h1, h2⟩ := ci9 hc b (by omega) c h
   exact ⟨a', by omega, h2⟩
  ·obtain ⟨p1, p2⟩ := bf7 (of := of) (b := b) fun a ha e => ho ⟨a, ha, e⟩
   rw [p1] at h
   rcases Nat.lt_or_ge c (cntN of b) with h' | h'
   ·obtain ⟨a', h1, h2⟩ := ci9 hc b (by omega) c h'
    exact ⟨a', by omega, h2⟩
   ·exact ⟨b, by omega, by rw [← hc b (by omega), p2]; omega⟩
theorem fd5 {of : Nat → Nat} {k : Nat} (hs : ∀ c, c < k → ∃ a, a < 256 ∧ of a = c) {c b : Nat} (h : (fsL of k)[c]? = some b) : b < 256 ∧ of b = c ∧ ∀ a, a < b → of a ≠ c := by
 have hck := aa9 h
 rw [eg1] at hck
 unfold fsL at h
 rw [List.getElem?_map, List.getElem?_range hck] at h
 simp only [Option.map_some, Option.some.injEq] at h
 obtain ⟨a, ha, e⟩ := hs c hck
 cases hf : (List.range 256).find? fun b => of b == c with
 | none =>
  rw [List.find?_eq_none] at hf
  have := hf a (by simpa using ha)
  simp [e] at this
 | some b' =>
  rw [hf] at h
  simp only [Option.getD_some] at h
  subst h
  rw [List.find?_range_eq_some] at hf
  simp only [beq_iff_eq, List.mem_range] at hf
  exact ⟨hf.2.1, hf.1, fun a ha => by simpa using hf.2.2 a ha⟩
theorem eb5 (xs : List (Nat → Nat)) : ∀ c, c < (af1 xs).2 → ∃ a, a < 256 ∧ (af1 xs).1 a = c := fun c hc => ci9 (aq6 xs).2 256 (Nat.le_refl _) c (by have := (aq6 xs).1; unfold cntN; omega)
theorem eb6 (xs : List (Nat → Nat)) : 0 < (af1 xs).2 := by
 have h := (aq6 xs).1
 obtain ⟨p1, _⟩ := bf7 (of := (af1 xs).1) (b := 0) fun a ha => by omega
 rw [bj4] at p1
 have mono : ∀ k, 1 ≤ cntN (af1 xs).1 (k + 1) := fun k => by
  induction k with
  | zero => omega
  | succ k ih =>
   by_cases ho : ∃ a, a < k + 1 ∧ (af1 xs).1 a = (af1 xs).1 (k + 1)
   ·obtain ⟨a, ha, e⟩ := ho
    rw [bf6 ha e]; exact ih
   ·rw [(bf7 fun a ha e => ho ⟨a, ha, e⟩).1]; omega
 have := mono 255
 unfold cntN at this
 rw [show (255 + 1 : Nat) = 256 from rfl] at this
 omega
def zeroDF : DF := ⟨fun _ => 0, 0, .nilsl, .nilsl, [], [], [], fun _ _ => by omega, .nil, rfl, fun i y l h => by simp at h, .nil⟩
section
variable {E : Env} [R : SubR E]
set_option maxHeartbeats 4000000 in
theorem ck2 (hH : bg0 E R.ar4 .u8) (hR : bg0 E R.ah0 .i64) (hC : en4 E R.bk6) (ha : ∀ H, den E R.at2 [] H = some (.ret (.bool true), H)) (n : NF)
  (hP : ∀ H, den E R.be8 [n.x0] H = some (.ret (aa1 (af1 n.sets).1 (af1 n.sets).2), H)) (hP2 : ∀ H, den E R.ak5 [n.x0] H = some (.ret (aa1 (af1 n.sets).1 (af1 n.sets).2), H))
  (hF : ∀ (of : Nat → Nat) (m k : Int) (b : Nat) (H : Heap), (∀ b, b < 256 → of b < 256) → mayC of m = true → b < 256 → ((of b : Nat) : Int) = k → (∀ a, a < b → ((of a : Nat) : Int) ≠ k) → den E R.au9 [aa1 of m, .int .i64 k] H = some (.ret (.int .i64 b), H)) :
  den E R.am8 [n.E] [] = some (.ret (.bool true), []) := by
 have al := fun H => ha H
 have hof := fun H => fc2 (R := R.toNfaR) n H
 have hrmay := fun H => dp7 (R := R.toNfaR) n H
 have k0 := n.k
 have k2 := n.k2
 have k3 := n.k3
 have l2 := n.h2.leI
 have l3 : n.follow.length ≤ 9223372036854775807 := by rw [← n.hl]; exact n.h3.le
 have l0 : n.sets.length ≤ 9223372036854775807 := by have := n.h0.le; rwa [List.length_map] at this
 obtain ⟨o0, o1, o2, o3, o4⟩ := n.one
 have hPf := cq1 n.sets
 have hPm : mayC (af1 n.sets).1 (af1 n.sets).2 = true := by rw [← ed9]; exact eb7 n.sets
 have hPs := eb5 n.sets
 have hPp := eb6 n.sets
 generalize hof' : (af1 n.sets).1 = of at hP hP2 hPf hPm hPs
 generalize hN' : (af1 n.sets).2 = N at hP hP2 hPm hPs hPp
 have hpk : ((tab 256 fun i => EV.int .u8 ((of i : Nat) : Int)) ++ [EV.int .i64 (N : Int)]).drop 256 = [.int .i64 (N : Int)] := by
  rw [List.drop_append, List.drop_eq_nil_of_le (by rw [ab9]; omega), ab9]; rfl
 refine ah2 R.at8 (by simp) ?_
 unfold Gn.ag8 Gn.af8
 unfold NF.E at hof hrmay ⊢
 have hP2' := hP2
 unfold aa1 at hP2'
 unfold EV.one at o0 o1 o2 o3 o4
 refine an8 (fun t H' => Sl t [(1, .ptr 0 6 0 0)] ∧ H' = [some (.row 6 [.agg [n.x0, n.x1, n.x2, n.x3, n.x4, .int .i64 n.m]])]) ?_ ?_
 ·repeat' first | (simp (disch := first | omega | assumption) only [go_sem, simprocAttr, Sl, *]) | refine aa2 (fun hb=>?_) fun hb=>?_ | refine aa3 (fun hb=>?_) fun hb=>?_
 rintro t _ ⟨ht, rfl⟩
 simp (disch := omega) only [go_sem, simprocAttr, Sl] at ht
 refine an8 (fun t H' => Sl t [(1, .ptr 0 6 0 0)] ∧ H' = [some (.row 6 [.agg [n.x0, n.x1, n.x2, n.x3, n.x4, .int .i64 n.m]])]) ?_ ?_
 ·repeat' first | (simp (disch := first | omega | assumption) only [go_sem, simprocAttr, Sl, *]) | refine aa2 (fun hb=>?_) fun hb=>?_ | refine aa3 (fun hb=>?_) fun hb=>?_
  all_goals simp [ht]
 rintro t2 _ ⟨ht2, rfl⟩
 simp (disch := omega) only [go_sem, simprocAttr, Sl] at ht2
 clear ht t al ha
 by_cases b1 : 25 < n.sets.length
 ·clear hof hrmay hP hF hP2
  repeat' first | (simp (disch := first | omega | assumption) only [go_sem, simprocAttr, *]) | refine aa2 (fun hb=>?_) fun hb=>?_ | refine aa3 (fun hb=>?_) fun hb=>?_
  all_goals (try simp only [FX] at *)
  all_goals first | omega | exact ab4 (H := []) rfl rfl
 by_cases b2 : 80 < n.follow.length
 ·clear hof hrmay hP hF hP2
  repeat' first | (simp (disch := first | omega | assumption) only [go_sem, simprocAttr, *]) | refine aa2 (fun hb=>?_) fun hb=>?_ | refine aa3 (fun hb=>?_) fun hb=>?_
  all_goals (try simp only [FX] at *)
  all_goals first | omega | exact ab4 (H := []) rfl rfl
 by_cases b3 : 100 < n.first.length
 ·clear hof hrmay hP hF hP2
  repeat' first | (simp (disch := first | omega | assumption) only [go_sem, simprocAttr, *]) | refine aa2 (fun hb=>?_) fun hb=>?_ | refine aa3 (fun hb=>?_) fun hb=>?_
  all_goals (try simp only [FX] at *)
  all_goals first | omega | exact ab4 (H := []) rfl rfl
 by_cases b4 : 20 < N
 ·clear hof hrmay hP hF hP2
  repeat' first | (simp (disch := first | omega | assumption) only [go_sem, simprocAttr, *]) | refine aa2 (fun hb=>?_) fun hb=>?_ | refine aa3 (fun hb=>?_) fun hb=>?_
  all_goals (try simp only [FX] at *)
  all_goals first | omega | exact ab4 (H := []) rfl rfl
 refine an8 (fun t H' => Sl t [(1, .ptr 0 6 0 0)] ∧ H' = [some (.row 6 [.agg [n.x0, n.x1, n.x2, n.x3, n.x4, .int .i64 n.m]])]) ?_ ?_
 ·clear hof hrmay hP hF hP2
  repeat' first | (simp (disch := first | omega | assumption) only [go_sem, simprocAttr, Sl, *]) | refine aa2 (fun hb=>?_) fun hb=>?_ | refine aa3 (fun hb=>?_) fun hb=>?_
  all_goals (try simp only [FX] at *)
  all_goals first | omega | skip
  all_goals simp [ht2]
 rintro t _ ⟨ht, rfl⟩
 simp (disch := omega) only [go_sem, simprocAttr, Sl] at ht
 clear ht2 t2
 refine an8 (fun t H' => Sl t [(1, .ptr 0 6 0 0)] ∧ H' = [some (.row 6 [.agg [n.x0, n.x1, n.x2, n.x3, n.x4, .int .i64 n.m]])]) ?_ ?_
 ·clear hof hrmay hP hF hP2' hpk
  repeat' first | (simp (disch := first | omega | assumption) only [go_sem, simprocAttr, *]) | refine aa2 (fun hb=>?_) fun hb=>?_ | refine aa3 (fun hb=>?_) fun hb=>?_
  refine ad5 (ι := Nat) (fun i => i ≤ n.follow.length) (fun i => n.follow.length - i) (fun i => [(1, .ptr 0 6 0 0), (3, .int .i64 i)]) (fun _ => [some (.row 6 [.agg [n.x0, n.x1, n.x2, n.x3, n.x4, .int .i64 n.m]])]) 0 (by omega) ?_ rfl ?_
  ·simp (disch := omega) only [go_sem, simprocAttr, Sl, ht]
  clear ht t
  rintro i t hi ht K hK
  simp (disch := omega) only [go_sem, simprocAttr, Sl] at ht
  by_cases hlt : i < n.follow.length
  ·obtain ⟨r, hr⟩ := ab5 hlt
   obtain ⟨y, hy, hyv, hat⟩ := n.fol hr
   have hyl := hyv.lenI
   have hyo := hyv.one.2
   unfold EV.one at hyo
   have go := fun s' H' => hK (i + 1) s' H' (by omega) (by omega)
   clear hK
   by_cases h60 : 60 < r.length
   ·clear go
    repeat' first | (simp (disch := first | omega | assumption) only [go_sem, simprocAttr, *]) | refine aa2 (fun hb=>?_) fun hb=>?_ | refine aa3 (fun hb=>?_) fun hb=>?_
    all_goals (try simp only [FX] at *)
    all_goals first | omega | exact ab4 (H := []) rfl rfl
   ·repeat' first | (simp (disch := first | omega | assumption) only [go_sem, simprocAttr, *]) | refine aa2 (fun hb=>?_) fun hb=>?_ | refine aa3 (fun hb=>?_) fun hb=>?_
    all_goals (try simp only [FX] at *)
    all_goals first | omega | skip
    refine go _ _ ?_ rfl
    simp (disch := omega) only [go_sem, simprocAttr, Sl, ht, and_self, ab6]
  ·clear hK
   repeat' first | (simp (disch := first | omega | assumption) only [go_sem, simprocAttr, *]) | refine aa2 (fun hb=>?_) fun hb=>?_ | refine aa3 (fun hb=>?_) fun hb=>?_
   all_goals (try simp only [FX] at *)
   all_goals first | omega | skip
   simp (disch := omega) only [go_sem, simprocAttr, Sl, ht, and_self, ab6]
 rintro t2 _ ⟨ht2, rfl⟩
 simp (disch := omega) only [go_sem, simprocAttr, Sl] at ht2
 clear ht t hP2' hpk
 cases hm : mayB n with
 | false =>
  have hs := fun H => dx4 (R := R) n hm H
  have hpl : ∀ H, den E R.af5 [zeroDF.E] H = some (.ret zeroDF.E, H) := fun H => cg1 (R := R.toDfaR) zeroDF H
  have hsm : ∀ H, den E R.ag1 [zeroDF.E, zeroDF.E] H = some (.ret (.bool true), H) := fun H => bm7 (R := R.toDfaR) zeroDF zeroDF ⟨rfl, rfl, rfl, rfl⟩ H
  have hz : (tab 256 fun _ => EV.int .u8 0) ++ [EV.int .i64 0, EV.nilsl, EV.nilsl] = dfc (fun _ => 0) 0 .nilsl .nilsl := by unfold dfc; rw [List.append_assoc]; rfl
  have hzl := bg3 (of := fun _ => 0) (n := 0) (x1 := .nilsl) (x2 := .nilsl)
  have hza : (dfc (fun _ => 0) 0 .nilsl .nilsl).all EV.one = true := zeroDF.all
  have hzt := bw9 259 (of := fun _ => 0) (n := 0) (x1 := .nilsl) (x2 := .nilsl) (by omega)
  have hzd : List.drop 259 (dfc (fun _ => 0) 0 .nilsl .nilsl) = [] := List.drop_eq_nil_of_le (by rw [hzl]; omega)
  unfold NF.E at hs
  unfold DF.E zeroDF at hpl hsm
  simp only at hpl hsm
  rw [hm] at hrmay
  clear hP hF hm hP2
  repeat' first | (simp (disch := first | omega | assumption) only [go_sem, simprocAttr, *]) | refine aa2 (fun hb=>?_) fun hb=>?_ | refine aa3 (fun hb=>?_) fun hb=>?_
  all_goals (try simp only [FX] at *)
  all_goals first | omega | skip
  exact ab4 (H := []) rfl rfl
 | true =>
  have hris : ris n.sets.length n.first = true := by
   unfold mayB at hm
   simp only [Bool.and_eq_true, decide_eq_true_eq] at hm
   exact hm.1.2.2.2.2.2.2
  rw [hm] at hrmay
  obtain ⟨fs, hfs⟩ : ∃ fs, fs = fsL of N := ⟨_, rfl⟩
  have hfl : fs.length = N := by rw [hfs, eg1]
  have hfg : ∀ (c b : Nat), fs[c]? = some b → b < 256 ∧ of b = c ∧ ∀ a, a < b → of a ≠ c := fun c b h => by rw [hfs] at h; exact fd5 hPs h
  have hfm : ∀ b ∈ fs, b < 256 := fun b hb => by
   obtain ⟨c, hc⟩ := List.getElem?_of_mem hb
   exact (hfg c b hc).1
  have hFs : ∀ (c b : Nat) (H : Heap), fs[c]? = some b → den E R.au9 [dq4 of fs.length, .int .i64 c] H = some (.ret (.int .i64 b), H) := fun c b H h => by
   obtain ⟨h1, h2, h3⟩ := hfg c b h
   rw [hfl]
   exact hF of N c b H hPf hPm h1 (by rw [h2]) fun a ha e => h3 a ha (by omega)
  rw [← hfl] at hP hP2 hPm
  by_cases hB : Big n fs
  ·have hs := fun H => ck7 (R := R) hH n hm of fs (by omega) (by omega) hfm hP hFs H _ (fun _ => rfl) fun i h1 h2 => absurd hB (ed3 h1 h2)
   have hs2 := fun H => bu1 (R := R) hR n hm of fs (by omega) (by omega) hPf hfg hP2 H _ (fun _ => rfl) fun i h1 h2 => absurd hB (ed3 h1 h2)
   have hpl : ∀ H, den E R.af5 [zeroDF.E] H = some (.ret zeroDF.E, H) := fun H => cg1 (R := R.toDfaR) zeroDF H
   have hsm : ∀ H, den E R.ag1 [zeroDF.E, zeroDF.E] H = some (.ret (.bool true), H) := fun H => bm7 (R := R.toDfaR) zeroDF zeroDF ⟨rfl, rfl, rfl, rfl⟩ H
   have hz : (tab 256 fun _ => EV.int .u8 0) ++ [EV.int .i64 0, EV.nilsl, EV.nilsl] = dfc (fun _ => 0) 0 .nilsl .nilsl := by unfold dfc; rw [List.append_assoc]; rfl
   have hzl := bg3 (of := fun _ => 0) (n := 0) (x1 := .nilsl) (x2 := .nilsl)
   have hza : (dfc (fun _ => 0) 0 .nilsl .nilsl).all EV.one = true := zeroDF.all
   have hzt := bw9 259 (of := fun _ => 0) (n := 0) (x1 := .nilsl) (x2 := .nilsl) (by omega)
   have hzd : List.drop 259 (dfc (fun _ => 0) 0 .nilsl .nilsl) = [] := List.drop_eq_nil_of_le (by rw [hzl]; omega)
   unfold NF.E at hs hs2
   unfold DF.E zeroDF at hpl hsm
   simp only at hpl hsm
   clear hP hF hm hFs hfm hfg hfs hPs hPf hB hP2
   repeat' first | (simp (disch := first | omega | assumption) only [go_sem, simprocAttr, *]) | refine aa2 (fun hb=>?_) fun hb=>?_ | refine aa3 (fun hb=>?_) fun hb=>?_
   all_goals (try simp only [FX] at *)
   all_goals first | omega | skip
   exact ab4 (H := []) rfl rfl
  ·obtain ⟨i, hI, hi, hi6⟩ := ez9 hris hB
   have e1 : (subB n fs i).rows.length ≤ 1000000 := by rw [hI.rl]; omega
   have e2 : ∀ l ∈ (subB n fs i).rows, l.length ≤ 1000000 := fun l hl => by rw [hI.wid l hl]; omega
   have e3 : (bg7 n (subB n fs i).ps).length ≤ 1000000 := by rw [bs9 hI.pos]; omega
   have hs := fun H => ck7 (R := R) hH n hm of fs (by omega) (by omega) hfm hP hFs H (.tup [(subD n fs of hPf i e1 e2 e3).E, .int .i64 0]) (fun h => absurd h hB) fun j h1 h2 => by
    rw [di6 h1 (Nat.le_of_eq hi)]
    rfl
   have hs2 := fun H => bu1 (R := R) hR n hm of fs (by omega) (by omega) hPf hfg hP2 H (.tup [(subD n fs of hPf i e1 e2 e3).E, .bool true]) (fun h => absurd h hB) fun j h1 h2 => by
    rw [di6 h1 (Nat.le_of_eq hi)]
    rfl
   have hmay := ep5 (hof := hPf) (h1 := e1) (h2 := e2) (h3 := e3) hm hI hi hi6 (by exact hPm)
   generalize subD n fs of hPf i e1 e2 e3 = d at hs hs2 hmay
   obtain ⟨j1, j2, hle, hle2, p1, p2, hA, hL, hx1, hx2, hn, htk⟩ := d.facts
   have hpl : ∀ H, den E R.af5 [d.E] H = some (.ret d.E, H) := fun H => cg1 (R := R.toDfaR) d H
   have hsm : ∀ H, den E R.ag1 [d.E, d.E] H = some (.ret (.bool true), H) := fun H => bm7 (R := R.toDfaR) d d ⟨rfl, rfl, rfl, rfl⟩ H
   have hdm : ∀ H, den E R.bn9 [d.E] H = some (.ret (.bool d.may), H) := fun H => du4 (R := R.toDfaR) hC d H
   have hdd : List.drop 259 (dfc d.of d.n d.x1 d.x2) = [] := List.drop_eq_nil_of_le (by rw [hL]; omega)
   have hz : List.drop 259 ((tab 256 fun _ => EV.int .u8 0) ++ [EV.int .i64 0, EV.nilsl, EV.nilsl]) = [] := List.drop_eq_nil_of_le (by rw [List.length_append, ab9]; simp)
   rw [hmay] at hdm
   unfold NF.E at hs hs2
   unfold DF.E at hpl hsm hdm hs hs2
   clear hP hF hm hFs hfm hfg hfs hPs hPf hB hP2 hmay
   repeat' first | (simp (disch := first | omega | assumption) only [go_sem, simprocAttr, *]) | refine aa2 (fun hb=>?_) fun hb=>?_ | refine aa3 (fun hb=>?_) fun hb=>?_
   all_goals (try simp only [FX] at *)
   all_goals first | omega | skip
   exact ab4 (H := []) rfl rfl
end
end Abs
