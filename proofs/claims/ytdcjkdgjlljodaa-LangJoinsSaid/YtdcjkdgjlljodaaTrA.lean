/- A part. -/
import Derived.Test.YtdcjkdgjlljodaaCqI
import Derived.Test.YtdcjkdgjlljodaaAbsSort
set_option linter.all false
namespace Abs
open Go
set_option maxRecDepth 20000
inductive RT where
 | mk (k : Int) (w : Nat → Nat) (x : EV) (ts : List RT) (lo hi : Int)
def RT.E : RT → EV
 | .mk k w x _ lo hi => .agg [.int .i64 k, .int .u64 (w 0 : Nat), .int .u64 (w 1 : Nat), .int .u64 (w 2 : Nat), .int .u64 (w 3 : Nat), x, .int .i64 lo, .int .i64 hi]
inductive RT.Ok : RT → Prop where
 | mk (k : Int) (w : Nat → Nat) (x : EV) (ts : List RT) (lo hi : Int) : bp1 w → SlV 8 x (ts.map RT.E) → (∀ t ∈ ts, RT.Ok t) → RT.Ok (.mk k w x ts lo hi)
mutual
def bn7 : RT → Int → Int × Int → Int × Int
 | .mk _ _ _ ts _ _, d, p => bk0 ts (IntKind.i64.wrap (d + 1)) (IntKind.i64.wrap (p.1 + 1), if d > p.2 then d else p.2)
def bk0 : List RT → Int → Int × Int → Int × Int
 | [], _, p => p
 | t :: ts, d, p => bk0 ts d (bn7 t d p)
end
theorem ck3 : ∀ (a b : List RT) (d : Int) (p : Int × Int), bk0 (a ++ b) d p = bk0 b d (bk0 a d p)
 | [], b, d, p => by simp [bk0]
 | t :: a, b, d, p => by
  rw [List.cons_append]
  simp only [bk0]
  exact ck3 a b d _
theorem dc6 {ts : List RT} {i : Nat} {t : RT} (h : ts[i]? = some t) (d : Int) (p : Int × Int) : bk0 (ts.take (i + 1)) d p = bn7 t d (bk0 (ts.take i) d p) := by
 rw [List.take_add_one, h, ck3]
 simp [bk0]
theorem RT.cells (t : RT) : t.E.cells.length = 8 := by cases t; rfl
theorem SlV.atT {x : EV} {ts : List RT} (h : SlV 8 x (ts.map RT.E)) {i : Nat} {t : RT} (ht : ts[i]? = some t) : bc8 8 (i : Int) x = some (.iptr t.E.cells 0) := h.elem i _ (by rw [List.getElem?_map, ht]; rfl)
section
variable {E : Env} [R : TreR E]
theorem dz6 {t : RT} (ht : t.Ok) : ∀ (k : Nat) (H : Heap) (n d dep : Int), H[k]? = some (some (.row 2 [.agg [.int .i64 n, .int .i64 d]])) →
  den E R.ap4 [.ptr k 2 0 0, t.E, .int .i64 dep] H = some (.ret (.tup []), H.set k (some (.row 2 [.agg [.int .i64 (bn7 t dep (n, d)).1, .int .i64 (bn7 t dep (n, d)).2]]))) := by
 induction ht with
 | mk kd w x ts lo hi hw hx hts ih =>
  intro k H n d dep hk
  have hkl := aa3 hk
  have lx := hx.len
  rw [List.length_map] at lx
  have lex := hx.le
  rw [List.length_map] at lex
  have ox := hx.one.2
  have cx := hx.one.1
  have g0 : ∀ G : Heap, (H ++ G)[k]? = some (some (.row 2 [.agg [.int .i64 n, .int .i64 d]])) := fun G => by rw [List.getElem?_append_left hkl]; exact hk
  have s0 : ∀ (b : Option EB) (G : Heap), (H ++ G).set k b = H.set k b ++ G := fun b G => List.set_append_left _ _ hkl
  have g1 : ∀ (b : Option EB) (G : Heap), (H.set k b ++ G)[k]? = some b := fun b G => by rw [List.getElem?_append_left (by simpa using hkl), List.getElem?_set_self hkl]
  have s1 : ∀ (b c : Option EB) (G : Heap), (H.set k b ++ G).set k c = H.set k c ++ G := fun b c G => by rw [List.set_append_left _ _ (by simpa using hkl), List.set_set]
  have a1 : ∀ (b c : Option EB), (H.set k b ++ [c])[H.length]? = some c := fun b c => by rw [List.getElem?_append_right (by simp)]; simp
  refine af6 R.bf7 (by simp) ?_
  unfold Gn.ay9 Gn.ar8
  show @Hd E ⟨_⟩ ⟨am4 [.ptr k 2 0 0, .agg [.int .i64 kd, .int .u64 (w 0 : Nat), .int .u64 (w 1 : Nat), .int .u64 (w 2 : Nat), .int .u64 (w 3 : Nat), x, .int .i64 lo, .int .i64 hi], .int .i64 dep]⟩ ⟨_⟩ ⟨_⟩
  unfold EV.one at ox
  unfold EV.cells at cx
  have wk : bn7 (.mk kd w x ts lo hi) dep (n, d) = bk0 ts (IntKind.i64.wrap (dep + 1)) (IntKind.i64.wrap (n + 1), if dep > d then dep else d) := by simp [bn7]
  rw [wk]
  clear wk
  have hmm : evMM true (.int .i64 d) (.int .i64 dep) = some (.int .i64 (if dep > d then dep else d)) := rfl
  generalize (if dep > d then dep else d) = q at hmm
  repeat' first | (simp (disch := first | omega | assumption) only [go_sem, simprocAttr, *]) | refine aa0 (fun hb=>?_) fun hb=>?_ | refine aa1 (fun hb=>?_) fun hb=>?_
  all_goals (try simp only [FX] at *)
  clear g0 s0 hmm hk
  refine ak0 (ι := Nat) (fun i => i ≤ ts.length) (fun i => ts.length - i) (fun i => [(0, .ptr k 2 0 0), (2, .int .i64 dep), (4, .ptr H.length 8 0 0), (25, .int .i64 ts.length), (26, .int .i64 i)])
   (fun i => H.set k (some (.row 2 [.agg [.int .i64 (bk0 (ts.take i) (IntKind.i64.wrap (dep + 1)) (IntKind.i64.wrap (n + 1), q)).1, .int .i64 (bk0 (ts.take i) (IntKind.i64.wrap (dep + 1)) (IntKind.i64.wrap (n + 1), q)).2]])) ++ [some (.row 8 [.agg [.int .i64 kd, .int .u64 (w 0 : Nat), .int .u64 (w 1 : Nat), .int .u64 (w 2 : Nat), .int .u64 (w 3 : Nat), x, .int .i64 lo, .int .i64 hi]])]) 0 (by omega) ?_ ?_ ?_
  ·simp (disch := omega) only [go_sem, simprocAttr, Sl]
  ·simp [bk0]
  rintro i t hi ht K hK
  simp (disch := omega) only [go_sem, simprocAttr, Sl] at ht
  by_cases hlt : i < ts.length
  ·obtain ⟨y, hy⟩ := ac4 hlt
   have hat := hx.atT hy
   have hyE : pack true y.E.cells = y.E := by cases y; rfl
   have hyl := RT.cells y
   have hyt : List.take 8 y.E.cells = y.E.cells := List.take_of_length_le (by omega)
   have hya : EV.agg y.E.cells = y.E := by cases y; rfl
   have hnext := dc6 hy (IntKind.i64.wrap (dep + 1)) (IntKind.i64.wrap (n + 1), q)
   have hih := ih y (List.mem_of_getElem? hy)
   have go := fun s' H' => hK (i + 1) s' H' (by omega) (by omega)
   rw [hnext] at go
   generalize bk0 (ts.take i) (IntKind.i64.wrap (dep + 1)) (IntKind.i64.wrap (n + 1), q) = p at go ⊢
   clear hK hnext ih
   have hih2 := fun G => hih k (H.set k (some (.row 2 [.agg [.int .i64 p.1, .int .i64 p.2]])) ++ G) p.1 p.2 (IntKind.i64.wrap (dep + 1)) (g1 _ G)
   clear hih
   unfold EV.cells at hyt hyl hya hat
   repeat' first | (simp (disch := first | omega | assumption) only [go_sem, simprocAttr, *]) | refine aa0 (fun hb=>?_) fun hb=>?_ | refine aa1 (fun hb=>?_) fun hb=>?_
   all_goals (try simp only [FX] at *)
   all_goals first | omega | skip
   refine go _ _ ?_ rfl
   simp (disch := omega) only [go_sem, simprocAttr, Sl, ht, and_self, ac8]
  ·have hie : i = ts.length := by omega
   subst hie
   rw [List.take_length]
   clear hK ih
   repeat' first | (simp (disch := first | omega | assumption) only [go_sem, simprocAttr, *]) | refine aa0 (fun hb=>?_) fun hb=>?_ | refine aa1 (fun hb=>?_) fun hb=>?_
   all_goals (try simp only [FX] at *)
   all_goals first | omega | skip
   exact be4 (b := some _) rfl (bf6 rfl) rfl rfl
theorem RT.ok {t : RT} (h : t.Ok) (n : Nat) : t.E.ok n = true := by
 cases h with
 | mk k w x ts lo hi hw hx hts => simp [RT.E, EV.ok, okL, hx.ok]
theorem dc5 {t : RT} (ht : t.Ok) (H : Heap) : den E R.bc2 [t.E] H = some (.ret (.agg [.int .i64 (bn7 t 1 (0, 0)).1, .int .i64 (bn7 t 1 (0, 0)).2]), H) := by
 have hw := fun k H h => dz6 (E := E) ht k H 0 0 1 h
 cases ht with
 | mk kd w x ts lo hi h1 h2 h3 =>
 have ox := h2.one.2
 have cx := h2.one.1
 generalize bn7 (.mk kd w x ts lo hi) 1 (0, 0) = p at hw ⊢
 have hk := hw (H.length + 2) (H ++ [some (.row 8 [.agg [.int .i64 kd, .int .u64 (w 0 : Nat), .int .u64 (w 1 : Nat), .int .u64 (w 2 : Nat), .int .u64 (w 3 : Nat), x, .int .i64 lo, .int .i64 hi]]), some (.row 2 [.agg [.int .i64 0, .int .i64 0]]), some (.row 2 [.agg [.int .i64 0, .int .i64 0]])]) (by rw [List.getElem?_append_right (by omega), Nat.add_sub_cancel_left]; rfl)
 rw [List.set_append_right _ _ (by omega), Nat.add_sub_cancel_left] at hk
 clear hw
 refine af6 R.bo8 (by simp) ?_
 unfold Gn.bk6 Gn.bb6
 unfold RT.E at hk ⊢
 unfold EV.one at ox
 unfold EV.cells at cx
 simp only [List.set_cons_succ, List.set_cons_zero] at hk
 repeat' first | (simp (disch := first | omega | assumption) only [go_sem, simprocAttr, *]) | refine aa0 (fun hb=>?_) fun hb=>?_ | refine aa1 (fun hb=>?_) fun hb=>?_
 all_goals (try simp only [FX] at *)
 exact aa4 rfl rfl
def zset (w : Nat → Nat) : Bool := decide (w 0 = 0) && (decide (w 1 = 0) && (decide (w 2 = 0) && decide (w 3 = 0)))
def bf4 : RT → Bool
 | .mk k w _ ts lo hi =>
  if k = 0 then decide (lo = 0) && (decide (hi = 0) && (decide (ts.length = 0) && zset w))
  else if k = 1 then decide (lo = 0) && (decide (hi = 0) && decide (ts.length = 0))
  else if k = 2 ∨ k = 3 then decide (lo = 0) && (decide (hi = 0) && (zset w && decide (1 < ts.length)))
  else if k = 4 then decide (ts.length = 1) && (zset w && (decide (0 ≤ lo) && (decide (lo ≤ 64) && (decide (hi = -1) || (decide (lo ≤ hi) && decide (hi ≤ 64))))))
  else false
theorem eh1 {t : RT} (ht : t.Ok) (H : Heap) : den E R.bc3 [t.E] H = some (.ret (match t with | .mk k w _ ts lo hi => .agg [.int .i64 k, .int .i64 lo, .int .i64 hi, .int .i64 ts.length, .int .u64 (w 0 : Nat), .int .u64 (w 1 : Nat), .int .u64 (w 2 : Nat), .int .u64 (w 3 : Nat)]), H) := by
 cases ht with
 | mk kd w x ts lo hi h1 h2 h3 =>
 have ox := h2.one.2
 have cx := h2.one.1
 have lx := h2.len
 rw [List.length_map] at lx
 refine af6 R.bo9 (by simp) ?_
 unfold Gn.bk8 Gn.bb8
 unfold RT.E
 unfold EV.one at ox
 unfold EV.cells at cx
 repeat' first | (simp (disch := first | omega | assumption) only [go_sem, simprocAttr, *]) | refine aa0 (fun hb=>?_) fun hb=>?_ | refine aa1 (fun hb=>?_) fun hb=>?_
 all_goals (try simp only [FX] at *)
 exact aa4 rfl rfl
set_option maxHeartbeats 2000000 in
theorem ed6 {t : RT} (ht : t.Ok) (H : Heap) : den E R.bl5 [t.E] H = some (.ret (.bool (bf4 t)), H) := by
 have hb := fun H => eh1 (E := E) ht H
 cases ht with
 | mk kd w x ts lo hi h1 h2 h3 =>
 have ox := h2.one.2
 have cx := h2.one.1
 have lx := h2.len
 rw [List.length_map] at lx
 generalize hr : bf4 (.mk kd w x ts lo hi) = r
 refine af6 R.ca9 (by simp) ?_
 unfold Gn.bx7 Gn.bk7
 unfold RT.E at hb ⊢
 unfold EV.one at ox
 unfold EV.cells at cx
 simp only at hb
 by_cases k0 : kd = 0
 ·subst k0
  repeat' first | (simp (disch := first | omega | assumption) only [go_sem, simprocAttr, *]) | refine aa0 (fun hb=>?_) fun hb=>?_ | refine aa1 (fun hb=>?_) fun hb=>?_
  all_goals (try simp only [FX] at *)
  all_goals refine aa4 rfl ?_
  all_goals rw [← hr, ER.ret.injEq, EV.bool.injEq, Bool.eq_iff_iff]
  all_goals simp only [bf4, zset, ↓reduceIte, simprocAttr, false_or, or_false, true_or, or_true, Bool.and_eq_true, decide_eq_true_eq, beq_iff_eq, Bool.or_eq_true, Bool.false_eq_true, true_iff, iff_true, false_iff, iff_false, true_and, and_true, false_and, and_false, not_false_eq_true, *]
  all_goals first | omega | skip
 by_cases k1 : kd = 1
 ·subst k1
  repeat' first | (simp (disch := first | omega | assumption) only [go_sem, simprocAttr, *]) | refine aa0 (fun hb=>?_) fun hb=>?_ | refine aa1 (fun hb=>?_) fun hb=>?_
  all_goals (try simp only [FX] at *)
  all_goals refine aa4 rfl ?_
  all_goals rw [← hr, ER.ret.injEq, EV.bool.injEq, Bool.eq_iff_iff]
  all_goals simp only [bf4, zset, ↓reduceIte, simprocAttr, false_or, or_false, true_or, or_true, Bool.and_eq_true, decide_eq_true_eq, beq_iff_eq, Bool.or_eq_true, Bool.false_eq_true, true_iff, iff_true, false_iff, iff_false, true_and, and_true, false_and, and_false, not_false_eq_true, *]
  all_goals first | omega | skip
 by_cases k2 : kd = 2
 ·subst k2
  repeat' first | (simp (disch := first | omega | assumption) only [go_sem, simprocAttr, *]) | refine aa0 (fun hb=>?_) fun hb=>?_ | refine aa1 (fun hb=>?_) fun hb=>?_
  all_goals (try simp only [FX] at *)
  all_goals refine aa4 rfl ?_
  all_goals rw [← hr, ER.ret.injEq, EV.bool.injEq, Bool.eq_iff_iff]
  all_goals simp only [bf4, zset, ↓reduceIte, simprocAttr, false_or, or_false, true_or, or_true, Bool.and_eq_true, decide_eq_true_eq, beq_iff_eq, Bool.or_eq_true, Bool.false_eq_true, true_iff, iff_true, false_iff, iff_false, true_and, and_true, false_and, and_false, not_false_eq_true, *]
  all_goals first | omega | skip
 by_cases k3 : kd = 3
 ·subst k3
  repeat' first | (simp (disch := first | omega | assumption) only [go_sem, simprocAttr, *]) | refine aa0 (fun hb=>?_) fun hb=>?_ | refine aa1 (fun hb=>?_) fun hb=>?_
  all_goals (try simp only [FX] at *)
  all_goals refine aa4 rfl ?_
  all_goals rw [← hr, ER.ret.injEq, EV.bool.injEq, Bool.eq_iff_iff]
  all_goals simp only [bf4, zset, ↓reduceIte, simprocAttr, false_or, or_false, true_or, or_true, Bool.and_eq_true, decide_eq_true_eq, beq_iff_eq, Bool.or_eq_true, Bool.false_eq_true, true_iff, iff_true, false_iff, iff_false, true_and, and_true, false_and, and_false, not_false_eq_true, *]
  all_goals first | omega | skip
 by_cases k4 : kd = 4
 ·subst k4
  repeat' first | (simp (disch := first | omega | assumption) only [go_sem, simprocAttr, *]) | refine aa0 (fun hb=>?_) fun hb=>?_ | refine aa1 (fun hb=>?_) fun hb=>?_
  all_goals (try simp only [FX] at *)
  all_goals refine aa4 rfl ?_
  all_goals rw [← hr, ER.ret.injEq, EV.bool.injEq, Bool.eq_iff_iff]
  all_goals simp only [bf4, zset, ↓reduceIte, simprocAttr, false_or, or_false, true_or, or_true, Bool.and_eq_true, decide_eq_true_eq, beq_iff_eq, Bool.or_eq_true, Bool.false_eq_true, true_iff, iff_true, false_iff, iff_false, true_and, and_true, false_and, and_false, not_false_eq_true, *]
  all_goals first | omega | skip
 repeat' first | (simp (disch := first | omega | assumption) only [go_sem, simprocAttr, *]) | refine aa0 (fun hb=>?_) fun hb=>?_ | refine aa1 (fun hb=>?_) fun hb=>?_
 all_goals (try simp only [FX] at *)
 all_goals refine aa4 rfl ?_
 all_goals rw [← hr, ER.ret.injEq, EV.bool.injEq, Bool.eq_iff_iff]
 all_goals simp only [bf4, zset, ↓reduceIte, simprocAttr, false_or, or_false, true_or, or_true, Bool.and_eq_true, decide_eq_true_eq, beq_iff_eq, Bool.or_eq_true, Bool.false_eq_true, true_iff, iff_true, false_iff, iff_false, true_and, and_true, false_and, and_false, not_false_eq_true, *]
 all_goals first | omega | skip
end
mutual
def am5 : RT → Bool
 | .mk k w x ts lo hi => bf4 (.mk k w x ts lo hi) && bl4 ts
def bl4 : List RT → Bool
 | [] => true
 | t :: ts => am5 t && bl4 ts
end
theorem ce7 : ∀ ts : List RT, bl4 ts = !(ts.any fun t => !am5 t)
 | [] => by simp [bl4]
 | t :: ts => by simp [bl4, ce7 ts]
def mayT (t : RT) : Bool := decide ((bn7 t 1 (0, 0)).1 ≤ 300) && (decide ((bn7 t 1 (0, 0)).2 ≤ 30) && am5 t)
section
variable {E : Env} [R : TreR E]
theorem ee3 {x : EV} {ts : List RT} (hx : SlV 8 x (ts.map RT.E)) (n : Nat) (p : RT → Bool) (hp : ∀ t ∈ ts, ∀ H, den E n [t.E] H = some (.ret (.bool (p t)), H)) (H : Heap) :
  ∃ v : Int, den E R.ab6 [x, .func (.func n) [] []] H = some (.ret (.int .i64 v), H) ∧ ts.any p = decide (0 ≤ v) := by
 have lx := hx.len
 rw [List.length_map] at lx
 have lex := hx.le
 rw [List.length_map] at lex
 suffices h : ∃ r, den E R.ab6 [x, .func (.func n) [] []] H = some r ∧ ∃ v : Int, r = (ER.ret (.int .i64 v), H) ∧ ts.any p = decide (0 ≤ v) by
  obtain ⟨r, h1, v, rfl, h2⟩ := h
  exact ⟨v, h1, h2⟩
 refine cp6 R.ah0 (by simp) ?_
 unfold Gn.ad4 Gn.ac6
 repeat' first | (simp (disch := first | omega | assumption) only [go_sem, simprocAttr, *]) | refine aa0 (fun hb=>?_) fun hb=>?_ | refine aa1 (fun hb=>?_) fun hb=>?_
 refine ak0 (ι := Nat) (fun i => i ≤ ts.length ∧ (ts.take i).any p = false) (fun i => ts.length - i) (fun i => [(0, x), (1, .func (.func n) [] []), (7, .int .i64 ts.length), (8, .int .i64 i)]) (fun _ => H) 0 ⟨by omega, by simp⟩ ?_ rfl ?_
 ·simp (disch := omega) only [go_sem, simprocAttr, Sl]
 rintro i t ⟨hi, hn⟩ ht K hK
 simp (disch := omega) only [go_sem, simprocAttr, Sl] at ht
 by_cases hlt : i < ts.length
 ·obtain ⟨y, hy⟩ := ac4 hlt
  have hat := hx.atT hy
  have hyl := RT.cells y
  have hyt : List.take 8 y.E.cells = y.E.cells := List.take_of_length_le (by omega)
  have hya : EV.agg y.E.cells = y.E := by cases y; rfl
  have hpy := hp y (List.mem_of_getElem? hy)
  unfold EV.cells at hyt hyl hya hat
  cases hb : p y with
  | true =>
   rw [hb] at hpy
   have hall : ts.any p = true := List.any_eq_true.2 ⟨y, List.mem_of_getElem? hy, hb⟩
   clear hK hb hp
   repeat' first | (simp (disch := first | omega | assumption) only [go_sem, simprocAttr, *]) | refine aa0 (fun hb=>?_) fun hb=>?_ | refine aa1 (fun hb=>?_) fun hb=>?_
   all_goals (try simp only [FX] at *)
   all_goals first | omega | skip
   refine ⟨_, ac5 rfl rfl, i, rfl, ?_⟩
   exact (decide_eq_true (by omega)).symm
  | false =>
   rw [hb] at hpy
   have go := fun s' H' => hK (i + 1) s' H' ⟨by omega, by rw [List.take_add_one, hy, List.any_append, hn]; simp [hb]⟩ (by omega)
   clear hK hb hp hn
   repeat' first | (simp (disch := first | omega | assumption) only [go_sem, simprocAttr, *]) | refine aa0 (fun hb=>?_) fun hb=>?_ | refine aa1 (fun hb=>?_) fun hb=>?_
   all_goals (try simp only [FX] at *)
   all_goals first | omega | skip
   refine go _ _ ?_ rfl
   simp (disch := omega) only [go_sem, simprocAttr, Sl, ht, and_self, ac8]
 ·have hie : i = ts.length := by omega
  subst hie
  rw [List.take_length] at hn
  clear hK hp
  repeat' first | (simp (disch := first | omega | assumption) only [go_sem, simprocAttr, *]) | refine aa0 (fun hb=>?_) fun hb=>?_ | refine aa1 (fun hb=>?_) fun hb=>?_
  all_goals (try simp only [FX] at *)
  all_goals first | omega | skip
  refine ⟨_, ac5 rfl rfl, -1, rfl, ?_⟩
  rfl
theorem cj2 {x : EV} {ts : List RT} (hx : SlV 8 x (ts.map RT.E)) (n : Nat) (p : RT → Bool) (hp : ∀ t ∈ ts, ∀ H, den E n [t.E] H = some (.ret (.bool (p t)), H)) (H : Heap) :
  den E R.ab9 [x, .func (.func n) [] []] H = some (.ret (.bool (ts.any p)), H) := by
 obtain ⟨v, h1, h2⟩ := ee3 hx n p hp H
 rw [h2]
 refine af6 R.af9 (by simp) ?_
 unfold Gn.ac3 Gn.ab8
 by_cases hv : 0 ≤ v
 ·repeat' first | (simp (disch := first | omega | assumption) only [go_sem, simprocAttr, *]) | refine aa0 (fun hb=>?_) fun hb=>?_ | refine aa1 (fun hb=>?_) fun hb=>?_
  all_goals (try simp only [FX] at *)
  all_goals first | omega | exact ac5 rfl rfl
 ·repeat' first | (simp (disch := first | omega | assumption) only [go_sem, simprocAttr, *]) | refine aa0 (fun hb=>?_) fun hb=>?_ | refine aa1 (fun hb=>?_) fun hb=>?_
  all_goals (try simp only [FX] at *)
  all_goals first | omega | exact ac5 rfl rfl
theorem dq1 {t : RT} (ht : t.Ok) : ∀ H, den E R.bb0 [t.E] H = some (.ret (.bool (am5 t)), H) := by
 induction ht with
 | mk kd w x ts lo hi hw hx hts ih =>
  intro H
  have hn := fun H => ed6 (E := E) (.mk kd w x ts lo hi hw hx hts) H
  have hc : ∀ t ∈ ts, ∀ H, den E R.aq9 [t.E] H = some (.ret (.bool (!am5 t)), H) := by
   intro t hm H
   have h1 := ih t hm
   have h2 := hts t hm
   cases h2 with
   | mk k' w' x' ts' lo' hi' g1 g2 g3 =>
   have ox := g2.one.2
   have cx := g2.one.1
   refine af6 R.bj2 (by simp) ?_
   unfold Gn.bb7 Gn.av0
   unfold RT.E at h1 ⊢
   unfold EV.one at ox
   unfold EV.cells at cx
   simp only at h1
   clear ih
   repeat' first | (simp (disch := first | omega | assumption) only [go_sem, simprocAttr, *]) | refine aa0 (fun hb=>?_) fun hb=>?_ | refine aa1 (fun hb=>?_) fun hb=>?_
   all_goals (try simp only [FX] at *)
   exact aa4 rfl rfl
  have hcon := fun H => cj2 (E := E) hx R.aq9 (fun t => !am5 t) hc H
  have e : am5 (.mk kd w x ts lo hi) = (bf4 (.mk kd w x ts lo hi) && !(ts.any fun t => !am5 t)) := by rw [am5, ce7]
  rw [e]
  have ox := hx.one.2
  have cx := hx.one.1
  refine af6 R.bt7 (by simp) ?_
  unfold Gn.bp6 Gn.bg2
  unfold RT.E at hn ⊢
  unfold EV.one at ox
  unfold EV.cells at cx
  simp only at hn
  clear ih hc e
  generalize bf4 (.mk kd w x ts lo hi) = b1 at hn ⊢
  generalize (ts.any fun t => !am5 t) = b2 at hcon ⊢
  cases b1 with
  | false =>
   repeat' first | (simp (disch := first | omega | assumption) only [go_sem, simprocAttr, *]) | refine aa0 (fun hb=>?_) fun hb=>?_ | refine aa1 (fun hb=>?_) fun hb=>?_
   all_goals (try simp only [FX] at *)
   all_goals exact aa4 rfl rfl
  | true =>
   repeat' first | (simp (disch := first | omega | assumption) only [go_sem, simprocAttr, *]) | refine aa0 (fun hb=>?_) fun hb=>?_ | refine aa1 (fun hb=>?_) fun hb=>?_
   all_goals (try simp only [FX] at *)
   all_goals exact aa4 rfl rfl
theorem ci0 {t : RT} (ht : t.Ok) (H : Heap) : den E R.bm8 [t.E] H = some (.ret (.bool (mayT t)), H) := by
 have hw := fun H => dc5 (E := E) ht H
 have hn := fun H => dq1 (E := E) ht H
 unfold mayT
 cases ht with
 | mk kd w x ts lo hi h1 h2 h3 =>
 have ox := h2.one.2
 have cx := h2.one.1
 generalize bn7 (.mk kd w x ts lo hi) 1 (0, 0) = p at hw ⊢
 generalize am5 (.mk kd w x ts lo hi) = b at hn ⊢
 refine af6 R.cj1 (by simp) ?_
 unfold Gn.cl5 Gn.bp7
 unfold RT.E at hw hn ⊢
 unfold EV.one at ox
 unfold EV.cells at cx
 simp only at hw hn
 by_cases c1 : p.1 ≤ 300
 ·rw [decide_eq_true c1]
  by_cases c2 : p.2 ≤ 30
  ·rw [decide_eq_true c2]
   repeat' first | (simp (disch := first | omega | assumption) only [go_sem, simprocAttr, *]) | refine aa0 (fun hb=>?_) fun hb=>?_ | refine aa1 (fun hb=>?_) fun hb=>?_
   all_goals (try simp only [FX] at *)
   all_goals first | omega | exact aa4 rfl rfl
  ·rw [decide_eq_false c2]
   repeat' first | (simp (disch := first | omega | assumption) only [go_sem, simprocAttr, *]) | refine aa0 (fun hb=>?_) fun hb=>?_ | refine aa1 (fun hb=>?_) fun hb=>?_
   all_goals (try simp only [FX] at *)
   all_goals first | omega | exact aa4 rfl rfl
 ·rw [decide_eq_false c1]
  repeat' first | (simp (disch := first | omega | assumption) only [go_sem, simprocAttr, *]) | refine aa0 (fun hb=>?_) fun hb=>?_ | refine aa1 (fun hb=>?_) fun hb=>?_
  all_goals (try simp only [FX] at *)
  all_goals first | omega | exact aa4 rfl rfl
end
end Abs
