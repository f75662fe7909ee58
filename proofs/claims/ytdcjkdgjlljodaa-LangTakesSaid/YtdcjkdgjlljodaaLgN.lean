/- A part. -/
import Derived.Test.YtdcjkdgjlljodaaLgA
set_option linter.all false
namespace Abs
open Go
set_option maxRecDepth 20000
section
variable {E : Env} [R : bx5 E]
theorem cz9 {t : RT} (ht : t.Ok) (s : List UInt8) (hs : s.length ≤ 100000) (p : Int) (h : ¬ (mayT t = true ∧ 0 ≤ p ∧ p ≤ s.length)) (H : Heap) :
  den E R.ax3 [t.E, .str s, .int .i64 p] H = some (.ret (.tup [.nilsl, .int .i64 1]), H) := by
 have h1 := fun H => cl7 (E := E) ht H
 generalize mayT t = b at h h1
 cases ht with
 | mk kd w x0 ts lo hi hw hx0 hts =>
 obtain ⟨cx, ox⟩ := hx0.one
 refine ad9 R.bh3 (by simp) ?_
 unfold Gn.bg8 Gn.ax5
 unfold RT.E at h1 ⊢
 unfold EV.one at ox
 unfold EV.cells at cx
 simp only at h1
 cases b with
 | false =>
  repeat' first | (simp (disch := first | omega | assumption) only [go_sem, simprocAttr, *]) | refine aa0 (fun hb=>?_) fun hb=>?_ | refine aa1 (fun hb=>?_) fun hb=>?_
  all_goals (try simp only [FX] at *)
  all_goals first | omega | exact aa2 rfl rfl
 | true =>
  simp only [true_and] at h
  by_cases c : p < 0
  ·repeat' first | (simp (disch := first | omega | assumption) only [go_sem, simprocAttr, *]) | refine aa0 (fun hb=>?_) fun hb=>?_ | refine aa1 (fun hb=>?_) fun hb=>?_
   all_goals (try simp only [FX] at *)
   all_goals first | omega | exact aa2 rfl rfl
  ·have c2 : p > s.length := by omega
   repeat' first | (simp (disch := first | omega | assumption) only [go_sem, simprocAttr, *]) | refine aa0 (fun hb=>?_) fun hb=>?_ | refine aa1 (fun hb=>?_) fun hb=>?_
   all_goals (try simp only [FX] at *)
   all_goals first | omega | exact aa2 rfl rfl
theorem by2 (hH : be5 E R.am6 .u8) (hS : be3 E R.ab4) {t : RT} (ht : t.Ok) (hm : mayT t = true) (s : List UInt8) (hs : s.length ≤ 100000) (p : Nat) (hp : p ≤ s.length) (H : Heap) :
  ∃ y, den E R.ax3 [t.E, .str s, .int .i64 p] H = some (.ret (.tup [y, .int .i64 0]), H) ∧ ap1 y (posL 0 (aa5 s t (atL s.length p))) := by
 have h1 := fun H => cl7 (E := E) ht H
 rw [hm] at h1
 have hn : ae7 t = true := by
  unfold mayT at hm
  simp only [Bool.and_eq_true] at hm
  exact hm.2.2
 have hA : ap1 (.imm 1 [.int .i64 p]) (posL 0 (atL s.length p)) := by
  rw [dt2 _ _ hp]
  exact bq1 (l := [(p : Int)]) (by simp)
 obtain ⟨y, h2, h3⟩ := cr5 (E := E) hH hS s hs ht (cq9 hn) (.imm 1 [.int .i64 p]) (atL s.length p) (H.length + 1) false (H ++ [some (.row 8 [t.E]), some (.row 2 [.agg [.str s, .bool false]])]) hA (at3 _ _) (by rw [List.getElem?_append_right (by omega), Nat.add_sub_cancel_left]; rfl)
 rw [List.set_append_right _ _ (by omega), Nat.add_sub_cancel_left] at h2
 simp only [List.set_cons_succ, List.set_cons_zero, Bool.false_or] at h2
 have hll : (posL 0 (aa5 s t (atL s.length p))).length ≤ 1000000 := by
  have := (aj9 s ht).len _ (at3 s.length p)
  have h4 := ba2 (aa5 s t (atL s.length p))
  rw [at4]
  omega
 generalize av5 s t (atL s.length p) = op at h2
 have hcl := cj4 (E := E) y _ (H ++ [some (.row 8 [t.E]), some (.row 2 [.agg [.str s, .bool op]])]) (h3.arg _) hll
 generalize posL 0 (aa5 s t (atL s.length p)) = l at h3 hll hcl ⊢
 obtain ⟨cy, oy⟩ := h3.one
 cases ht with
 | mk kd w x0 ts lo hi hw hx0 hts =>
 obtain ⟨cx, ox⟩ := hx0.one
 unfold RT.E at h1 h2 hcl ⊢
 unfold EV.one at ox oy
 unfold EV.cells at cx cy
 simp only at h1 h2 hcl
 clear hm hn hA
 rcases hcl with ⟨rfl, z, hcl, hz⟩ | ⟨hne, hcl⟩
 ·refine ⟨z, ?_, by rcases hz with rfl | rfl; exact .nil; exact .zsl⟩
  refine ad9 R.bh3 (by simp) ?_
  unfold Gn.bg8 Gn.ax5
  rcases hz with rfl | rfl
  ·repeat' first | (simp (disch := first | omega | assumption) only [go_sem, simprocAttr, *]) | refine aa0 (fun hb=>?_) fun hb=>?_ | refine aa1 (fun hb=>?_) fun hb=>?_
   all_goals (try simp only [FX] at *)
   all_goals first | omega | exact aa2 rfl rfl
  ·repeat' first | (simp (disch := first | omega | assumption) only [go_sem, simprocAttr, *]) | refine aa0 (fun hb=>?_) fun hb=>?_ | refine aa1 (fun hb=>?_) fun hb=>?_
   all_goals (try simp only [FX] at *)
   all_goals first | omega | exact aa2 rfl rfl
 ·refine ⟨.imm 1 (ab1 l), ?_, bq1 (by omega)⟩
  refine ad9 R.bh3 (by simp) ?_
  unfold Gn.bg8 Gn.ax5
  simp only [List.length_append, List.length_cons, List.length_nil, List.append_assoc, List.cons_append, List.nil_append] at hcl
  repeat' first | (simp (disch := first | omega | assumption) only [go_sem, simprocAttr, *]) | refine aa0 (fun hb=>?_) fun hb=>?_ | refine aa1 (fun hb=>?_) fun hb=>?_
  all_goals (try simp only [FX] at *)
  all_goals first | omega | skip
  refine bh1 rfl ?_ rfl
  have hz := cs7 (L := H.length) (H := H ++ [some (.row 8 [.agg [.int .i64 kd, .int .u64 (w 0 : Nat), .int .u64 (w 1 : Nat), .int .u64 (w 2 : Nat), .int .u64 (w 3 : Nat), x0, .int .i64 lo, .int .i64 hi]]), some (.row 2 [.agg [.str s, .bool op]]), some (.row 1 (ab1 l))]) (n := 6) (b := H.length + 2) (sz := 1) (off := 0) (len := l.length) (es := ab1 l) (by omega) (by rw [List.getElem?_append_right (by omega), Nat.add_sub_cancel_left]; rfl) (by rw [ab7]; omega) (bu1 _ _)
  rw [List.drop_zero, List.take_of_length_le (by rw [ab7]; exact Nat.le_refl _)] at hz
  have hi0 : Abs.fz H.length (H ++ [some (.row 8 [.agg [.int .i64 kd, .int .u64 (w 0 : Nat), .int .u64 (w 1 : Nat), .int .u64 (w 2 : Nat), .int .u64 (w 3 : Nat), x0, .int .i64 lo, .int .i64 hi]]), some (.row 2 [.agg [.str s, .bool op]]), some (.row 1 (ab1 l))]) 7 (.int .i64 0) = some (.int .i64 0) := bh0 rfl
  unfold Abs.fz
  rw [if_neg (by simp [EV.ok, okL])]
  simp only [mapO, hz, hi0]
  rfl
end
theorem cq6 : ∀ (a : List Bool) (b : Bool) (k : Nat), posL k (a ++ [b]) = posL k a ++ (if b = true then [((k + a.length : Nat) : Int)] else [])
 | [], b, k => by simp [posL]
 | c :: a, b, k => by
  have ih := cq6 a b (k + 1)
  simp only [List.cons_append, posL, ih, List.length_cons]
  rw [show k + 1 + a.length = k + (a.length + 1) by omega]
  split <;> simp
theorem dt1 {a : List Bool} {i : Nat} {b : Bool} (h : a[i]? = some b) : posL 0 (a.take (i + 1)) = posL 0 (a.take i) ++ (if b = true then [(i : Int)] else []) := by
 have hi := aa3 h
 rw [List.take_add_one, h, Option.toList_some, cq6, List.length_take, Nat.min_eq_left (by omega), Nat.zero_add]
section
variable {E : Env} [R : bx5 E]
theorem cy0 (hR : be5 E R.ac8 .i64) {t : RT} (ht : t.Ok) (hn : ae7 t = true) (s : List UInt8) (hs : s.length ≤ 100000) (p : Nat) (hp : p ≤ s.length) (H : Heap) :
  den E R.an2 [t.E, .str s, .int .i64 p] H = some (.ret (outV (posL 0 (aa5 s t (atL s.length p)))), H) := by
 have hA : SlV 1 (.imm 1 (ab3 (atL s.length p))) (ab3 (atL s.length p)) := .imm (fun n => bo3 n _) (by rw [ae0, at3]; omega)
 have he := fun H => cm6 (E := E) hR s hs ht hn (.imm 1 (ab3 (atL s.length p))) (atL s.length p) H (.inl hA) (at3 _ _)
 have hat := fun H => ed1 (E := E) s hs p hp H
 have hql := (aj9 s ht).len _ (at3 s.length p)
 generalize aa5 s t (atL s.length p) = q at he hql ⊢
 cases ht with
 | mk kd w x0 ts lo hi hw hx0 hts =>
 obtain ⟨cx, ox⟩ := hx0.one
 have hbl := ae0 q
 refine ad9 R.az8 (by simp) ?_
 unfold Gn.ar9 Gn.an8
 unfold RT.E at he ⊢
 unfold EV.one at ox
 unfold EV.cells at cx
 simp only at he
 clear hA
 repeat' first | (simp (disch := first | omega | assumption) only [go_sem, simprocAttr, *]) | refine aa0 (fun hb=>?_) fun hb=>?_ | refine aa1 (fun hb=>?_) fun hb=>?_
 all_goals (try simp only [FX] at *)
 all_goals first | omega | skip
 refine ae4 (ι := Nat) (fun i => i ≤ q.length) (fun i => q.length - i) (fun i => [(3, .ptr H.length 8 0 0), (7, .imm 1 (ab3 q)), (8, outX (H.length + 1) (posL 0 (q.take i))), (9, .int .i64 i)])
  (fun i => H ++ some (.row 8 [.agg [.int .i64 kd, .int .u64 (w 0 : Nat), .int .u64 (w 1 : Nat), .int .u64 (w 2 : Nat), .int .u64 (w 3 : Nat), x0, .int .i64 lo, .int .i64 hi]]) :: outG (posL 0 (q.take i))) 0 (by omega) ?_ ?_ ?_
 ·simp (disch := omega) only [go_sem, simprocAttr, Sl, List.take_zero, posL, outX, if_true]
 ·simp [posL, outG]
 clear he hat
 rintro i t hil ht K hK
 simp (disch := omega) only [go_sem, simprocAttr, Sl] at ht
 by_cases hlt : i < q.length
 ·obtain ⟨b, hb⟩ := aa8 hlt
  have hbE := at1 hb
  have hpl : (posL 0 (q.take i)).length ≤ 1000000 := by
   have := ba2 (q.take i)
   rw [List.length_take] at this
   rw [at4]
   omega
  have go := fun s' H' => hK (i + 1) s' H' (by omega) (by omega)
  rw [dt1 hb] at go
  generalize posL 0 (q.take i) = out at ht go hpl
  obtain ⟨oo, oc⟩ := ca2 (H.length + 1) out
  unfold EV.one at oo
  unfold EV.cells at oc
  have happ := fun (c : EB) => ch4 (P := H ++ [some c]) (D := H.length + 1) (by simp) hpl (i : Int)
  simp only [List.append_assoc, List.cons_append, List.nil_append] at happ
  clear hK hb
  cases b with
  | true =>
   simp only [if_true] at go
   repeat' first | (simp (disch := first | omega | assumption) only [go_sem, simprocAttr, *]) | refine aa0 (fun hb=>?_) fun hb=>?_ | refine aa1 (fun hb=>?_) fun hb=>?_
   all_goals (try simp only [FX] at *)
   all_goals first | omega | skip
   refine go _ _ ?_ rfl
   simp (disch := omega) only [go_sem, simprocAttr, Sl, ht, and_self, aa7]
  | false =>
   simp only [Bool.false_eq_true, if_false, List.append_nil] at go
   repeat' first | (simp (disch := first | omega | assumption) only [go_sem, simprocAttr, *]) | refine aa0 (fun hb=>?_) fun hb=>?_ | refine aa1 (fun hb=>?_) fun hb=>?_
   all_goals (try simp only [FX] at *)
   all_goals first | omega | skip
   refine go _ _ ?_ rfl
   simp (disch := omega) only [go_sem, simprocAttr, Sl, ht, and_self, aa7]
 ·have hie : i = q.length := by omega
  subst hie
  rw [List.take_length] at ht ⊢
  clear hK
  have hfz := fun (c : EB) => ep0 (P := H ++ [some c]) (L := H.length) (D := H.length + 1) (by simp) (by omega) (posL 0 q)
  simp only [List.append_assoc, List.cons_append, List.nil_append] at hfz
  generalize posL 0 q = out at ht hfz ⊢
  obtain ⟨oo, oc⟩ := ca2 (H.length + 1) out
  unfold EV.one at oo
  unfold EV.cells at oc
  repeat' first | (simp (disch := first | omega | assumption) only [go_sem, simprocAttr, *]) | refine aa0 (fun hb=>?_) fun hb=>?_ | refine aa1 (fun hb=>?_) fun hb=>?_
  all_goals (try simp only [FX] at *)
  all_goals first | omega | skip
  exact bh1 (by unfold outX; split <;> rfl) (hfz _) rfl
theorem dh9 (x y : EV) (la lb : List Int) (hx : ap1 x la) (hy : ap1 y lb) (hl : la.length ≤ 1000000) (hl2 : lb.length ≤ 1000000) (H : Heap) :
  den E R.an0 [x, y] H = some (.ret (.bool (decide (la = lb))), H) := by
 have lx := hx.lenI
 have ly := hy.lenI
 obtain ⟨cx, ox⟩ := hx.one
 obtain ⟨cy, oy⟩ := hy.one
 generalize hr : decide (la = lb) = r
 refine ad9 R.az7 (by simp) ?_
 unfold Gn.ar8 Gn.an7
 unfold EV.one at ox oy
 unfold EV.cells at cx cy
 by_cases hle : la.length = lb.length
 ·have he0 : ∀ n : Int, (n != n) = false := fun n => bne_self_eq_false n
  repeat' first | (simp (disch := first | omega | assumption) only [go_sem, simprocAttr, *]) | refine aa0 (fun hb=>?_) fun hb=>?_ | refine aa1 (fun hb=>?_) fun hb=>?_
  all_goals (try simp only [FX] at *)
  all_goals first | omega | skip
  refine ae4 (ι := Nat) (fun i => i ≤ la.length ∧ la.take i = lb.take i) (fun i => la.length - i) (fun i => [(0, x), (1, y), (5, .int .i64 i)]) (fun _ => H) 0 ⟨by omega, by simp⟩ ?_ rfl ?_
  ·simp (disch := omega) only [go_sem, simprocAttr, Sl]
  rintro i t ⟨hil, hn⟩ ht K hK
  simp (disch := omega) only [go_sem, simprocAttr, Sl] at ht
  by_cases hlt : i < la.length
  ·obtain ⟨v, hv⟩ := aa8 hlt
   obtain ⟨u, hu⟩ := aa8 (l := lb) (i := i) (by omega)
   have hat := hx.at hv
   have hbt := hy.at hu
   by_cases e : v = u
   ·subst e
    have go := fun s' H' => hK (i + 1) s' H' ⟨by omega, by rw [List.take_add_one, List.take_add_one, hn, hv, hu]⟩ (by omega)
    clear hK hn
    repeat' first | (simp (disch := first | omega | assumption) only [go_sem, simprocAttr, *]) | refine aa0 (fun hb=>?_) fun hb=>?_ | refine aa1 (fun hb=>?_) fun hb=>?_
    all_goals (try simp only [FX] at *)
    all_goals first | omega | skip
    all_goals first | exact absurd trivial ‹¬True› | skip
    all_goals refine go _ _ ?_ rfl
    all_goals simp (disch := omega) only [go_sem, simprocAttr, Sl, ht, and_self, aa7]
   ·have hrf : r = false := by
     rw [← hr]
     refine decide_eq_false fun h => ?_
     subst h
     rw [hv] at hu
     simp only [Option.some.injEq] at hu
     exact e hu
    rw [hrf]
    have he : (v != u) = true := by simpa using e
    clear hK hn hr
    repeat' first | (simp (disch := first | omega | assumption) only [go_sem, simprocAttr, *]) | refine aa0 (fun hb=>?_) fun hb=>?_ | refine aa1 (fun hb=>?_) fun hb=>?_
    all_goals (try simp only [FX] at *)
    all_goals first | omega | skip
    exact ad0 rfl rfl
  ·have hie : i = la.length := by omega
   subst hie
   rw [List.take_length, hle, List.take_length] at hn
   have hrt : r = true := by rw [← hr]; exact decide_eq_true hn
   rw [hrt]
   clear hK hn hr
   repeat' first | (simp (disch := first | omega | assumption) only [go_sem, simprocAttr, *]) | refine aa0 (fun hb=>?_) fun hb=>?_ | refine aa1 (fun hb=>?_) fun hb=>?_
   all_goals (try simp only [FX] at *)
   all_goals first | omega | skip
   exact ad0 rfl rfl
 ·have hrf : r = false := by
   rw [← hr]
   refine decide_eq_false fun h => ?_
   subst h
   exact hle rfl
  rw [hrf]
  have hne : ((la.length : Int) != (lb.length : Int)) = true := by
   simp
   omega
  clear hr
  repeat' first | (simp (disch := first | omega | assumption) only [go_sem, simprocAttr, *]) | refine aa0 (fun hb=>?_) fun hb=>?_ | refine aa1 (fun hb=>?_) fun hb=>?_
  all_goals (try simp only [FX] at *)
  all_goals first | omega | skip
  exact ad0 rfl rfl
end
theorem ex8 (l : List RT) : slT l = slE 8 (l.map RT.E) := by cases l <;> rfl
theorem RT.boxed {t : RT} (ht : t.Ok) : t.E.cells.length = 8 ∧ t.E.cells.all EV.one = true ∧ EV.agg t.E.cells = t.E ∧ List.take 8 t.E.cells = t.E.cells := by
 have := RT.cells t
 exact ⟨this, RT.ones ht, by cases t; rfl, List.take_of_length_le (by omega)⟩
theorem ep1 {n : Nat} : ∀ {us : List RT}, (∀ t ∈ us, t.Ok) → okL n (us.map RT.E) = true
 | [], _ => rfl
 | u :: us, h => by
  have := ep1 (n := n) (us := us) fun v hv => h v (by simp [hv])
  simp only [List.map_cons, okL, RT.ok (h u (by simp)), this, Bool.and_self]
theorem dv0 {n : Nat} : ∀ {l : List EV}, okL n l = true → ∀ x ∈ l, x.ok n = true
 | [], _, x, h => by simp at h
 | a :: l, h, x, hx => by
  simp only [okL, Bool.and_eq_true] at h
  rcases List.mem_cons.1 hx with rfl | hx
  ·exact h.1
  ·exact dv0 h.2 x hx
theorem ez7 {L : Nat} {W : Heap} {k lo hi : Int} {X Y : EV} {b : Bool} (h : Abs.fz L W 6 X = some Y) : Abs.fz L W 8 (.tup [.agg [.int .i64 k, .int .u64 0, .int .u64 0, .int .u64 0, .int .u64 0, X, .int .i64 lo, .int .i64 hi], .bool b]) =
  some (.tup [.agg [.int .i64 k, .int .u64 0, .int .u64 0, .int .u64 0, .int .u64 0, Y, .int .i64 lo, .int .i64 hi], .bool b]) := by
 by_cases ho : X.ok L = true
 ·have := bh0 (L := L) (H := W) (n := 6) ho
  rw [h] at this
  obtain rfl := Option.some.inj this
  exact bh0 (by simp [EV.ok, okL, ho])
 ·have ho : X.ok L = false := by simpa using ho
  have i1 : ∀ (κ : IntKind) (m : Int), Abs.fz L W 6 (.int κ m) = some (.int κ m) := fun κ m => bh0 rfl
  have e7 : Abs.fz L W 7 (.agg [.int .i64 k, .int .u64 0, .int .u64 0, .int .u64 0, .int .u64 0, X, .int .i64 lo, .int .i64 hi]) = some (.agg [.int .i64 k, .int .u64 0, .int .u64 0, .int .u64 0, .int .u64 0, Y, .int .i64 lo, .int .i64 hi]) := by
   unfold Abs.fz
   rw [if_neg (by simp [EV.ok, okL, ho])]
   simp only [mapO, i1, h]
   rfl
  have b7 : Abs.fz L W 7 (.bool b) = some (.bool b) := bh0 rfl
  unfold Abs.fz
  rw [if_neg (by simp [EV.ok, okL, ho])]
  simp only [mapO, e7, b7]
  rfl
def owA (L k : Nat) : Nat := if k < L then 0 else if k = L then 1 else 2
theorem owA_0 (L : Nat) : owA L L = 1 := by unfold owA; rw [if_neg (by omega), if_pos rfl]
theorem owA_1 (L : Nat) : owA L (L + 1) = 2 := by unfold owA; rw [if_neg (by omega), if_neg (by omega)]
theorem dq0 : ∀ {ts : List RT} {t : RT}, t ∈ ts → szT t ≤ szL ts
 | u :: ts, t, h => by
  simp only [szL]
  rcases List.mem_cons.1 h with rfl | h
  ·omega
  ·have := dq0 h; omega
theorem dq1 : ∀ ts : List RT, ts.length ≤ szL ts
 | [] => Nat.le_refl _
 | t :: ts => by
  have := dq1 ts
  cases t with
  | mk k w x us lo hi =>
   simp only [szL, szT, List.length_cons]
   omega
theorem dh3 {ts : List RT} {i : Nat} {u : RT} (h : ts[i]? = some u) : av4 (ts.take (i + 1)) = (av4 (ts.take i) || ah7 u) := by
 rw [List.take_add_one, h]
 generalize ts.take i = l
 induction l with
 | nil => simp [av4]
 | cons v l ih => simp only [List.cons_append, av4, Option.toList_some] at ih ⊢; rw [ih, Bool.or_assoc]
theorem dh2 {ts : List RT} {u : RT} (h : u ∈ ts) (hv : ah7 u = true) : av4 ts = true := by
 cases hc : av4 ts with
 | true => rfl
 | false => rw [bs9 hc u h] at hv; simp at hv
theorem ey4 (H G : Heap) : Bs H (H ++ G) (owA H.length) := ⟨by simp, by simp, fun k hk => by unfold owA; rw [if_pos hk]⟩
theorem ev6 {ts : List RT} {i : Nat} {u : RT} (h : ts[i]? = some u) : ag9 (alL (ts.take (i + 1))) = if (alT u).2 = true then ag9 (alL (ts.take i)) ++ [(alT u).1] else ag9 (alL (ts.take i)) := by
 rw [List.take_add_one, h, bm4, List.map_append, ← bm4]
 unfold ag9
 rw [List.filter_append, List.map_append]
 split
 ·rename_i e; simp [e]
 ·rename_i e; simp [e]
section
variable {E : Env} [R : bx5 E]
set_option maxHeartbeats 4000000 in
theorem fa2 {t : RT} (ht : t.Ok) : ae7 t = true → szT t ≤ 100000 → ∀ H, den E R.ay2 [t.E] H = some (.ret (.tup [(alT t).1.E, .bool (alT t).2]), H) := by
 induction ht with
 | mk kd w x0 ts lo hi hw hx0 hts ih =>
  intro hn hsz H
  simp only [szT] at hsz
  have hsl := dq1 ts
  simp only [ae7, Bool.and_eq_true] at hn
  obtain ⟨hnb, hnl⟩ := hn
  have hm := bf2 hnl
  have hih := fun u hu => ih u hu (hm u hu) (by have := dq0 hu; omega)
  have hok := fun u hu => ed8 (hts u hu) (hm u hu)
  have lx0 := hx0.len
  rw [List.length_map] at lx0
  have lex := hx0.le
  rw [List.length_map] at lex
  have ox := hx0.one.2
  have cx := hx0.one.1
  have hxo := hx0.ok H.length
  have hself : ∀ b, EV.ok H.length (.tup [.agg [.int .i64 kd, .int .u64 (w 0 : Nat), .int .u64 (w 1 : Nat), .int .u64 (w 2 : Nat), .int .u64 (w 3 : Nat), x0, .int .i64 lo, .int .i64 hi], .bool b]) = true := fun b => by simp [EV.ok, okL, hxo]
  refine ad9 R.bp0 (by simp) ?_
  unfold Gn.bk3 Gn.bc8
  rw [show (RT.mk kd w x0 ts lo hi).E = .agg [.int .i64 kd, .int .u64 (w 0 : Nat), .int .u64 (w 1 : Nat), .int .u64 (w 2 : Nat), .int .u64 (w 3 : Nat), x0, .int .i64 lo, .int .i64 hi] from rfl]
  unfold EV.one at ox
  unfold EV.cells at cx
  clear ih
  by_cases k1 : kd = 1
  ·subst k1
   have e : alT (.mk 1 w x0 ts lo hi) = (.mk 1 w x0 ts lo hi, !zset w) := by rw [alT]; simp
   rw [e]
   rw [show (RT.mk 1 w x0 ts lo hi).E = .agg [.int .i64 1, .int .u64 (w 0 : Nat), .int .u64 (w 1 : Nat), .int .u64 (w 2 : Nat), .int .u64 (w 3 : Nat), x0, .int .i64 lo, .int .i64 hi] from rfl]
   have hz := bs6 w
   generalize zset w = z at hz ⊢
   clear hih hok hm hnl hnb
   repeat' first | (simp (disch := first | omega | assumption) only [go_sem, simprocAttr, *]) | refine aa0 (fun hb=>?_) fun hb=>?_ | refine aa1 (fun hb=>?_) fun hb=>?_
   all_goals (try simp only [FX] at *)
   all_goals first | omega | skip
   refine dg5 (h := by
    simp (disch := omega) only [go_sem, simprocAttr, dsF, fbOf, Option.getD_some, Option.getD_none, ox, cx, hz]
    exact rfl) ?_ ?_
   ·simp [cn6]
   repeat' first | (simp (disch := first | omega | assumption) only [go_sem, simprocAttr, *]) | refine aa0 (fun hb=>?_) fun hb=>?_ | refine aa1 (fun hb=>?_) fun hb=>?_
   all_goals (try simp only [FX] at *)
   exact aa2 (hself _) rfl
  by_cases k0 : kd = 0
  ·subst k0
   have e : alT (.mk 0 w x0 ts lo hi) = (.mk 0 w x0 ts lo hi, true) := by rw [alT]; simp
   rw [e]
   rw [show (RT.mk 0 w x0 ts lo hi).E = .agg [.int .i64 0, .int .u64 (w 0 : Nat), .int .u64 (w 1 : Nat), .int .u64 (w 2 : Nat), .int .u64 (w 3 : Nat), x0, .int .i64 lo, .int .i64 hi] from rfl]
   clear hih hok hm hnl hnb
   repeat' first | (simp (disch := first | omega | assumption) only [go_sem, simprocAttr, *]) | refine aa0 (fun hb=>?_) fun hb=>?_ | refine aa1 (fun hb=>?_) fun hb=>?_
   all_goals (try simp only [FX] at *)
   all_goals first | omega | skip
   exact aa2 (hself _) rfl
  by_cases k4 : kd = 4
  ·subst k4
   simp [ap4] at hnb
   obtain ⟨hn1, hz, hlo, hlo2, hhi⟩ := hnb
   match ts, hn1 with
   | [t0], _ =>
    have h0 := hih t0 (by simp)
    have hk0 := hok t0 (by simp)
    have hat := hx0.atT (i := 0) (t := t0) rfl
    have hat : az2 8 0 x0 = some (.iptr t0.E.cells 0) := hat
    obtain ⟨hyl, hyo, hya, hyt⟩ := RT.boxed (hts t0 (by simp))
    obtain ⟨hzl, hzo, hza, hzt⟩ := RT.boxed hk0.1
    have hzok := fun n => RT.ok hk0.1 n
    have e : alT (.mk 4 w x0 [t0] lo hi) = alH [alT t0] w lo hi := by rw [alT, if_neg (by omega), if_neg (by omega), if_neg (by omega), if_pos rfl, alL, alL]
    rw [e, alH]
    clear hih hok hm hnl e
    generalize (alT t0).1 = y at h0 hzl hzo hza hzt hzok ⊢
    generalize (alT t0).2 = b at h0 ⊢
    generalize hu : t0.E = u at *
    cases b with
    | true =>
     rw [if_pos rfl]
     rw [show (RT.mk 4 w (.imm 8 [y.E]) [y] lo hi).E = .agg [.int .i64 4, .int .u64 (w 0 : Nat), .int .u64 (w 1 : Nat), .int .u64 (w 2 : Nat), .int .u64 (w 3 : Nat), .imm 8 [y.E], .int .i64 lo, .int .i64 hi] from rfl]
     generalize y.E = z at *
     unfold EV.cells at hyl hyo hya hyt hzl hzo hza hzt
     repeat' first | (simp (disch := first | omega | assumption) only [go_sem, simprocAttr, *]) | refine aa0 (fun hb=>?_) fun hb=>?_ | refine aa1 (fun hb=>?_) fun hb=>?_
     all_goals (try simp only [FX] at *)
     all_goals first | omega | skip
     exact aa2 (by simp [EV.ok, okL, hzok]) rfl
    | false =>
     rw [if_neg (by simp)]
     rw [show (RT.mk 0 (fun _ => 0) .nilsl [] 0 0).E = .agg [.int .i64 0, .int .u64 0, .int .u64 0, .int .u64 0, .int .u64 0, .nilsl, .int .i64 0, .int .i64 0] from rfl]
     generalize y.E = z at *
     unfold EV.cells at hyl hyo hya hyt hzl hzo hza hzt
     repeat' first | (simp (disch := first | omega | assumption) only [go_sem, simprocAttr, *]) | refine aa0 (fun hb=>?_) fun hb=>?_ | refine aa1 (fun hb=>?_) fun hb=>?_
     all_goals (try simp only [FX] at *)
     refine dg5 (h := by
      simp (disch := omega) only [go_sem, simprocAttr, dsF, fbOf, Option.getD_some, Option.getD_none, ox, cx, hzl, hzo, hza, hzt]
      exact rfl) ?_ ?_
     ·simp [cn6]
     repeat' first | (simp (disch := first | omega | assumption) only [go_sem, simprocAttr, *]) | refine aa0 (fun hb=>?_) fun hb=>?_ | refine aa1 (fun hb=>?_) fun hb=>?_
     all_goals (try simp only [FX] at *)
     exact aa2 rfl rfl
  have hkd : kd = 2 ∨ kd = 3 := by
   by_cases k2 : kd = 2
   ·exact .inl k2
   by_cases k3 : kd = 3
   ·exact .inr k3
   ·simp [ap4, k0, k1, k2, k3, k4] at hnb
  have hnlen : ts.length < 9223372036854775808 := by omega
  have hlist := cn8 (ts := ts) fun u hu => (hok u hu).2.2
  have hLen : (ag9 (alL ts)).length ≤ ts.length := by
   have := cd7 (alL ts)
   rw [bm4] at this ⊢
   simpa using this
  have hEnd : (kd = 2 → av4 ts = false) → alT (.mk kd w x0 ts lo hi) = (.mk kd (fun _ => 0) (slT (ag9 (alL ts))) (ag9 (alL ts)) 0 0, decide (0 < (ag9 (alL ts)).length)) := fun hv => by
   rcases hkd with rfl | rfl
   ·rw [alT, if_neg (by omega), if_pos rfl, if_pos (by rw [hlist.1, hv rfl]; rfl)]
   ·rw [alT, if_neg (by omega), if_neg (by omega), if_pos rfl]
  have hNo : kd = 2 → av4 ts = true → alT (.mk kd w x0 ts lo hi) = (.mk kd w x0 ts lo hi, false) := fun e hv => by
   subst e
   rw [alT, if_neg (by omega), if_pos rfl, if_neg (by rw [hlist.1, hv]; simp)]
  generalize alT (.mk kd w x0 ts lo hi) = res at hEnd hNo ⊢
  clear k0 k1 k4
  have hk1 : ((kd : Int) == 1) = false := by rcases hkd with rfl | rfl <;> rfl
  have go0 : ∀ d e : Option EB, ((H ++ [d, e])[H.length]? = some d) ∧ ((H ++ [d, e])[H.length + 1]? = some e) := fun d e => ⟨by rw [List.getElem?_append_right (by omega), Nat.sub_self]; rfl, by rw [List.getElem?_append_right (by omega), Nat.add_sub_cancel_left]; rfl⟩
  clear hnb hnl
  repeat' first | (simp (disch := first | omega | assumption) only [go_sem, simprocAttr, *]) | refine aa0 (fun hb=>?_) fun hb=>?_ | refine aa1 (fun hb=>?_) fun hb=>?_
  all_goals (try simp only [FX] at *)
  all_goals first | omega | skip
  all_goals
   refine ae4 (ι := Nat × EV × Heap × (Nat → Nat)) (fun q => q.1 ≤ ts.length ∧ Bs H q.2.2.1 q.2.2.2 ∧ At q.2.2.1 q.2.2.2 1 H.length (.row 8 [.agg [.int .i64 kd, .int .u64 (w 0 : Nat), .int .u64 (w 1 : Nat), .int .u64 (w 2 : Nat), .int .u64 (w 3 : Nat), x0, .int .i64 lo, .int .i64 hi]]) ∧
     At q.2.2.1 q.2.2.2 2 (H.length + 1) (.row 8 [.agg [.int .i64 0, .int .u64 0, .int .u64 0, .int .u64 0, .int .u64 0, .nilsl, .int .i64 0, .int .i64 0]]) ∧ Hl q.2.2.1 q.2.2.2 3 8 q.2.1 ((ag9 (alL (ts.take q.1))).map RT.E) ∧ (kd = 2 → av4 (ts.take q.1) = false))
    (fun q => ts.length - q.1) (fun q => [(1, .ptr H.length 8 0 0), (2, .ptr (H.length + 1) 8 0 0), (4, q.2.1), (24, x0), (25, .int .i64 ts.length), (26, .int .i64 q.1)]) (fun q => q.2.2.1) (0, .nilsl, _, owA H.length) ?_ ?_ rfl ?_
   ·exact ⟨by simp, ey4 _ _, ⟨(go0 _ _).1, owA_0 _⟩, ⟨(go0 _ _).2, owA_1 _⟩, .inl ⟨rfl, by simp [alL, ag9]⟩, fun _ => by simp [av4]⟩
   ·simp (disch := omega) only [go_sem, simprocAttr, Sl]
   clear go0
   rintro ⟨i, X, W, ow⟩ t1 ⟨hi1, hbs, ha1, ha2, hX, hvd⟩ ht K hK
   simp only at hi1 hbs ha1 ha2 hX hvd ht
   simp (disch := omega) only [go_sem, simprocAttr, Sl] at ht
   have hWl := hbs.len
   have g1 : ∀ G : Heap, (W ++ G)[H.length]? = some (some (.row 8 [.agg [.int .i64 kd, .int .u64 (w 0 : Nat), .int .u64 (w 1 : Nat), .int .u64 (w 2 : Nat), .int .u64 (w 3 : Nat), x0, .int .i64 lo, .int .i64 hi]])) := fun G => by rw [List.getElem?_append_left (aa3 ha1.1)]; exact ha1.1
   have g2 : ∀ G : Heap, (W ++ G)[H.length + 1]? = some (some (.row 8 [.agg [.int .i64 0, .int .u64 0, .int .u64 0, .int .u64 0, .int .u64 0, .nilsl, .int .i64 0, .int .i64 0]])) := fun G => by rw [List.getElem?_append_left (aa3 ha2.1)]; exact ha2.1
   have g3 := ha1.1
   have g4 := ha2.1
   obtain ⟨oX, cX⟩ := hX.one
   have lX := hX.len
   rw [List.length_map] at lX
   unfold EV.one at oX
   unfold EV.cells at cX
   by_cases hlt : i < ts.length
   ·obtain ⟨u, hu⟩ := aa8 hlt
    have hum := List.mem_of_getElem? hu
    have hat := hx0.atT hu
    have h0 := hih u hum
    have hk0 := hok u hum
    have hnx := ev6 hu
    have hvx := dh3 hu
    obtain ⟨hyl, hyo, hya, hyt⟩ := RT.boxed (hts u hum)
    obtain ⟨hzl, hzo, hza, hzt⟩ := RT.boxed hk0.1
    have b1 := hbs.new 4 (.row 8 [u.E])
    have b2 := b1.new 4 (.row 8 [(alT u).1.E])
    have k1 := Kp.new (W := W) ow 4 5 (.row 8 [u.E])
    have k2 := Kp.new (W := W ++ [some (.row 8 [u.E])]) (fun k => if k = W.length then 4 else ow k) 4 5 (.row 8 [(alT u).1.E])
    have hX2 := k2.hl (k1.hl hX (by omega)) (by omega)
    have ha12 := k2.at (k1.at ha1 (by omega)) (by omega)
    have ha22 := k2.at (k1.at ha2 (by omega)) (by omega)
    have hgl : (ag9 (alL (ts.take i))).length ≤ 100000 := by
     have := cd7 (alL (ts.take i))
     rw [bm4, List.length_map, List.length_take] at this
     rw [bm4]
     omega
    generalize (fun k => if k = (W ++ [some (EB.row 8 [u.E])]).length then 4 else if k = W.length then 4 else ow k) = ow2 at b2 hX2 ha12 ha22
    simp only [List.append_assoc, List.cons_append, List.nil_append] at b2 hX2 ha12 ha22
    clear b1 k1 k2
    have hnv : ah7 u = !(alT u).2 := by rw [hk0.2.2, Bool.not_not]
    cases hb2 : (alT u).2 with
    | true =>
     rw [hb2] at h0 hnv
     rw [hb2, if_pos rfl] at hnx
     obtain ⟨X', W', ow', hap, hX', hkp, hbs'⟩ := hX2.append b2 (by omega) (alT u).1.E 80 (by omega) hzl hzo (by rw [List.length_map]; omega) (by omega)
     have go := fun s' H' => hK (i + 1, X', W', ow') s' H' ⟨by simp only; omega, hbs', hkp.at ha12 (by omega), hkp.at ha22 (by omega), by simp only; rw [hnx, List.map_append]; exact hX', fun e => by simp only; rw [hvx, hvd e, hnv]; rfl⟩ (by simp only; omega)
     clear hK hX2 hX' hkp hbs' hnx hvx hvd hih hok hm
     generalize (alT u).1.E = z at *
     generalize u.E = y at *
     unfold EV.cells at hyl hyo hya hyt hzl hzo hza hzt
     repeat' first | (simp (disch := first | omega | assumption) only [go_sem, simprocAttr, *]) | refine aa0 (fun hb=>?_) fun hb=>?_ | refine aa1 (fun hb=>?_) fun hb=>?_
     all_goals (try simp only [FX] at *)
     all_goals first | omega | skip
     refine go _ _ ?_ rfl
     simp (disch := omega) only [go_sem, simprocAttr, Sl, ht, and_self, aa7]
    | false =>
     rw [hb2] at h0 hnv
     rw [hb2, if_neg (by simp)] at hnx
     rcases hkd with e | e
     ·have hno := hNo e (dh2 hum hnv)
      rw [hno]
      rw [show (RT.mk kd w x0 ts lo hi).E = .agg [.int .i64 kd, .int .u64 (w 0 : Nat), .int .u64 (w 1 : Nat), .int .u64 (w 2 : Nat), .int .u64 (w 3 : Nat), x0, .int .i64 lo, .int .i64 hi] from rfl]
      have hfin := fun b => b2.set ha22 (by omega) b
      have g6 : ∀ b : Option EB, ((W ++ [some (EB.row 8 [u.E]), some (EB.row 8 [(alT u).1.E])]).set (H.length + 1) b)[H.length + 1]? = some b := fun b => List.getElem?_set_self (aa3 ha22.1)
      subst e
      clear hK hX2 hnx hvx hvd hih hok hm hNo hEnd hno
      generalize (alT u).1.E = z at *
      generalize u.E = y at *
      unfold EV.cells at hyl hyo hya hyt hzl hzo hza hzt
      repeat' first | (simp (disch := first | omega | assumption) only [go_sem, simprocAttr, *]) | refine aa0 (fun hb=>?_) fun hb=>?_ | refine aa1 (fun hb=>?_) fun hb=>?_
      all_goals (try simp only [FX] at *)
      all_goals first | omega | skip
      all_goals exact (hfin _).drop (hself _) rfl
     ·have go := fun s' H' => hK (i + 1, X, _, ow2) s' H' ⟨by simp only; omega, b2, ha12, ha22, by simp only; rw [hnx]; exact hX2, fun e2 => by omega⟩ (by simp only; omega)
      clear hK hX2 hnx hvx hvd hih hok hm hNo hEnd
      generalize (alT u).1.E = z at *
      generalize u.E = y at *
      unfold EV.cells at hyl hyo hya hyt hzl hzo hza hzt
      repeat' first | (simp (disch := first | omega | assumption) only [go_sem, simprocAttr, *]) | refine aa0 (fun hb=>?_) fun hb=>?_ | refine aa1 (fun hb=>?_) fun hb=>?_
      all_goals (try simp only [FX] at *)
      all_goals first | omega | skip
      all_goals refine go _ _ ?_ rfl
      all_goals simp (disch := omega) only [go_sem, simprocAttr, Sl, ht, and_self, aa7]
   ·have hie : i = ts.length := by omega
    subst hie
    rw [List.take_length] at hX hvd lX
    have hfl := fun b => hbs.set ha2 (by omega) b
    have hXs := fun b => (Kp.set ha2 b).hl hX (by omega)
    have hes : okL H.length ((ag9 (alL ts)).map RT.E) = true := ep1 fun t h => by
     obtain ⟨p, h1, _, rfl⟩ := cs6.1 h
     rw [bm4] at h1
     obtain ⟨u, hu, rfl⟩ := List.mem_map.1 h1
     exact (hok u hu).1
    rw [hEnd hvd]
    rw [show (RT.mk kd (fun _ => 0) (slT (ag9 (alL ts))) (ag9 (alL ts)) 0 0).E = .agg [.int .i64 kd, .int .u64 0, .int .u64 0, .int .u64 0, .int .u64 0, slT (ag9 (alL ts)), .int .i64 0, .int .i64 0] from rfl, ex8]
    have hlz : (ag9 (alL ts)).length ≤ 100000 := by omega
    have hfin : ∀ b : Option EB, Abs.fz H.length (W.set (H.length + 1) b) 6 X = some (slE 8 ((ag9 (alL ts)).map RT.E)) := fun b => (hXs b).fz (fun k hk => by
     rcases Nat.lt_or_ge k H.length with h | h
     ·have := hbs.ow0 k h; omega
     ·exact h) (bk2 fun x hx => bh0 (dv0 hes x hx))
    generalize slE 8 ((ag9 (alL ts)).map RT.E) = Y at hfin ⊢
    generalize (ag9 (alL ts)).length = m at hlz lX ⊢
    have g5 : ∀ b : Option EB, (W.set (H.length + 1) b)[H.length + 1]? = some b := fun b => List.getElem?_set_self (aa3 ha2.1)
    clear hK hXs hes hNo hEnd hih hok hm hX
    repeat' first | (simp (disch := first | omega | assumption) only [go_sem, simprocAttr, *]) | refine aa0 (fun hb=>?_) fun hb=>?_ | refine aa1 (fun hb=>?_) fun hb=>?_
    all_goals (try simp only [FX] at *)
    all_goals first | omega | skip
    exact (hfl _).fz rfl (ez7 (hfin _)) (by simp)
end
def br4 (l : List Int) : Int := l.getLast?.getD (-1)
theorem bu6 {l : List Int} (h : l ≠ []) : l[l.length - 1]? = some (br4 l) := by
 unfold br4
 rw [← List.getLast?_eq_getElem?]
 obtain ⟨v, hv⟩ := Option.isSome_iff_exists.1 (by rw [List.getLast?_isSome]; exact h)
 rw [hv]; rfl
theorem dw8 {a : List Bool} {n : Nat} (h : a.length = n + 1) : decide (br4 (posL 0 a) = (n : Int)) = a.getD n false := by
 rw [Bool.eq_iff_iff, decide_eq_true_eq]
 constructor
 ·intro e
  have hne : posL 0 a ≠ [] := fun e2 => by
   rw [e2] at e
   simp [br4] at e
  have hm := List.mem_of_getElem? (bu6 hne)
  have := (cc3 hm).2.2
  rw [e] at this
  exact this
 ·intro e
  have hm : ((n : Nat) : Int) ∈ posL 0 a := am8.2 ⟨n, e, by omega⟩
  have hne : posL 0 a ≠ [] := fun e2 => by rw [e2] at hm; simp at hm
  have hg := bu6 hne
  obtain ⟨i, hi⟩ := List.mem_iff_getElem?.1 hm
  have hlt := aa3 hi
  have hlast := cc3 (List.mem_of_getElem? hg)
  by_cases he : i = (posL 0 a).length - 1
  ·subst he
   rw [hi] at hg
   exact (Option.some.inj hg).symm
  ·have hp := ay8 a 0
   rw [List.pairwise_iff_getElem] at hp
   have h1 := hp i ((posL 0 a).length - 1) hlt (by omega) (by omega)
   have e1 := (List.getElem?_eq_some_iff.1 hi).2
   have e2 := (List.getElem?_eq_some_iff.1 hg).2
   rw [e1, e2] at h1
   omega
section
variable {E : Env} [R : bx5 E]
theorem ci2 {t : RT} (ht : t.Ok) (hm : mayT t = false) (s : List UInt8) (hs : s.length ≤ 100000) (H : Heap) :
  den E R.aj3 [t.E, .str s] H = some (.ret (.int .i64 (-1)), H) := by
 have h1 := fun H => cz9 (E := E) ht s hs 0 (by rw [hm]; simp) H
 cases ht with
 | mk kd w x0 ts lo hi hw hx0 hts =>
 obtain ⟨cx, ox⟩ := hx0.one
 refine ad9 R.aw5 (by simp) ?_
 unfold Gn.au1 Gn.ao8
 unfold RT.E at h1 ⊢
 unfold EV.one at ox
 unfold EV.cells at cx
 simp only at h1
 repeat' first | (simp (disch := first | omega | assumption) only [go_sem, simprocAttr, *]) | refine aa0 (fun hb=>?_) fun hb=>?_ | refine aa1 (fun hb=>?_) fun hb=>?_
 all_goals (try simp only [FX] at *)
 all_goals first | omega | exact aa2 rfl rfl
theorem br3 (hH : be5 E R.am6 .u8) (hS : be3 E R.ab4) {t : RT} (ht : t.Ok) (hm : mayT t = true) (s : List UInt8) (hs : s.length ≤ 100000) (H : Heap) :
  den E R.aj3 [t.E, .str s] H = some (.ret (.int .i64 (br4 (posL 0 (aa5 s t (atL s.length 0))))), H) := by
 obtain ⟨y, h1, h4⟩ := by2 (E := E) hH hS ht hm s hs 0 (by omega) (H ++ [some (.row 8 [t.E])])
 rw [show ((0 : Nat) : Int) = 0 from rfl] at h1
 have lf := h4.lenI
 have hll : (posL 0 (aa5 s t (atL s.length 0))).length ≤ 1000000 := by
  have := (aj9 s ht).len _ (at3 s.length 0)
  have h4 := ba2 (aa5 s t (atL s.length 0))
  rw [at4]
  omega
 generalize posL 0 (aa5 s t (atL s.length 0)) = l at h1 h4 lf hll ⊢
 obtain ⟨cy, oy⟩ := h4.one
 by_cases he : l = []
 ·subst he
  rw [show br4 [] = -1 from rfl]
  cases ht with
  | mk kd w x0 ts lo hi hw hx0 hts =>
  obtain ⟨cx, ox⟩ := hx0.one
  refine ad9 R.aw5 (by simp) ?_
  unfold Gn.au1 Gn.ao8
  unfold RT.E at h1 ⊢
  unfold EV.one at ox oy
  unfold EV.cells at cx cy
  simp only [List.length_nil] at h1 lf
  repeat' first | (simp (disch := first | omega | assumption) only [go_sem, simprocAttr, *]) | refine aa0 (fun hb=>?_) fun hb=>?_ | refine aa1 (fun hb=>?_) fun hb=>?_
  all_goals (try simp only [FX] at *)
  all_goals first | omega | exact aa2 rfl rfl
 ·have hg := bu6 he
  have hlp := List.length_pos_iff.2 he
  have hat := h4.at hg
  rw [show ((l.length - 1 : Nat) : Int) = (l.length : Int) - 1 by omega] at hat
  generalize br4 l = r at hat hg ⊢
  cases ht with
  | mk kd w x0 ts lo hi hw hx0 hts =>
  obtain ⟨cx, ox⟩ := hx0.one
  refine ad9 R.aw5 (by simp) ?_
  unfold Gn.au1 Gn.ao8
  unfold RT.E at h1 ⊢
  unfold EV.one at ox oy
  unfold EV.cells at cx cy
  simp only at h1
  repeat' first | (simp (disch := first | omega | assumption) only [go_sem, simprocAttr, *]) | refine aa0 (fun hb=>?_) fun hb=>?_ | refine aa1 (fun hb=>?_) fun hb=>?_
  all_goals (try simp only [FX] at *)
  all_goals first | omega | exact aa2 rfl rfl
end
section
variable {E : Env} [R : TakR E]
theorem dl0 (hH : be5 E R.am6 .u8) (hS : be3 E R.ab4) {t : RT} (ht : t.Ok) (s : List UInt8) (hs : s.length ≤ 100000) (H : Heap) :
  den E R.bi3 [t.E, .str s] H = some (.ret (.bool (mayT t && (aa5 s t (atL s.length 0)).getD s.length false)), H) := by
 have h1 : ∀ H, den E R.aj3 [t.E, .str s] H = some (.ret (.int .i64 (if mayT t = true then br4 (posL 0 (aa5 s t (atL s.length 0))) else -1)), H) := fun H => by
  by_cases hm : mayT t = true
  ·rw [if_pos hm]; exact br3 (E := E) hH hS ht hm s hs H
  ·rw [if_neg hm]; exact ci2 (E := E) ht (by simpa using hm) s hs H
 have hv : (mayT t && (aa5 s t (atL s.length 0)).getD s.length false) = decide ((if mayT t = true then br4 (posL 0 (aa5 s t (atL s.length 0))) else -1) = (s.length : Int)) := by
  by_cases hm : mayT t = true
  ·rw [if_pos hm, hm, Bool.true_and, dw8 ((aj9 s ht).len _ (at3 _ _))]
  ·rw [if_neg hm]
   have : mayT t = false := by simpa using hm
   rw [this, Bool.false_and]
   symm
   exact decide_eq_false (by omega)
 rw [hv]
 clear hv
 generalize (if mayT t = true then br4 (posL 0 (aa5 s t (atL s.length 0))) else -1) = v at h1 ⊢
 cases ht with
 | mk kd w x0 ts lo hi hw hx0 hts =>
 obtain ⟨cx, ox⟩ := hx0.one
 refine ad9 R.by5 (by simp) ?_
 unfold Gn.bk4 Gn.bc9
 unfold RT.E at h1 ⊢
 unfold EV.one at ox
 unfold EV.cells at cx
 simp only at h1
 repeat' first | (simp (disch := first | omega | assumption) only [go_sem, simprocAttr, *]) | refine aa0 (fun hb=>?_) fun hb=>?_ | refine aa1 (fun hb=>?_) fun hb=>?_
 all_goals (try simp only [FX] at *)
 all_goals first | omega | exact aa2 rfl rfl
end
theorem df4 {p : Int → Bool} : ∀ {l : List Int} {i : Int}, 0 ≤ i → decide (0 ≤ idxI p l i) = l.any p
 | [], i, h => by simp [idxI]
 | v :: l, i, h => by
  have ih := df4 (p := p) (l := l) (i := i + 1) (by omega)
  rw [List.any_cons]
  by_cases hp : p v = true
  ·have e : idxI p (v :: l) i = i := by simp [idxI, hp]
   rw [e, hp, Bool.true_or]; exact decide_eq_true h
  ·have hp' : p v = false := by simpa using hp
   have e : idxI p (v :: l) i = idxI p l (i + 1) := by simp [idxI, hp']
   rw [e, hp', Bool.false_or]; exact ih
theorem ev5 (v : Int) (l : List Int) : l.any (fun u => v == u) = decide (v ∈ l) := by
 rw [Bool.eq_iff_iff, List.any_eq_true, decide_eq_true_eq]
 constructor
 ·rintro ⟨u, h1, h2⟩
  rw [beq_iff_eq] at h2
  exact h2 ▸ h1
 ·intro h
  exact ⟨v, h, by simp⟩
section
variable {E : Env} [R : SlcR E]
theorem dx5 (x : EV) (l : List Int) (hx : ap1 x l) (v : Int) (H : Heap) (hl : l.length ≤ 1000000) :
  den E R.ai8 [x, .int .i64 v] H = some (.ret (.int .i64 (idxI (fun u => v == u) l 0)), H) := by
 have lx := hx.lenI
 obtain ⟨cx, ox⟩ := hx.one
 refine ad9 R.at2 (by simp) ?_
 unfold Gn.ak4 Gn.ai7
 unfold EV.one at ox
 unfold EV.cells at cx
 simp (disch := omega) only [go_sem, simprocAttr, *]
 refine ae4 (ι := Nat) (fun i => i ≤ l.length ∧ idxI (fun u => v == u) l 0 = idxI (fun u => v == u) (l.drop i) i) (fun i => l.length - i) (fun i => [(0, x), (1, .int .i64 v), (7, .int .i64 l.length), (8, .int .i64 i)]) (fun _ => H) 0 ⟨by omega, rfl⟩ ?_ rfl ?_
 ·simp (disch := omega) only [go_sem, simprocAttr, Sl]
 ·rintro i t ⟨hi, hr⟩ ht K hK
  simp (disch := omega) only [go_sem, simprocAttr, Sl] at ht
  by_cases hlt : i < l.length
  ·obtain ⟨u, hu⟩ := aa8 hlt
   have hat := hx.at hu
   rw [be8 hu] at hr
   simp only [idxI] at hr
   have go : (v == u) = false → _ := fun h s' H' => hK (i + 1) s' H' ⟨by omega, by rw [hr, if_neg (by simp [h])]; rfl⟩ (by omega)
   by_cases hp : (v == u) = true
   ·rw [if_pos hp] at hr
    rw [hr]
    clear go hK hr
    repeat' first | (simp (disch := first | omega | assumption) only [go_sem, simprocAttr, *]) | refine aa0 (fun hb=>?_) fun hb=>?_ | refine aa1 (fun hb=>?_) fun hb=>?_
    all_goals (try simp only [FX] at *)
    all_goals first | omega | skip
    all_goals exact ad0 rfl rfl
   ·have hp : (v == u) = false := by simpa using hp
    replace go := go hp
    clear hK hr
    repeat' first | (simp (disch := first | omega | assumption) only [go_sem, simprocAttr, *]) | refine aa0 (fun hb=>?_) fun hb=>?_ | refine aa1 (fun hb=>?_) fun hb=>?_
    all_goals (try simp only [FX] at *)
    all_goals first | omega | skip
    all_goals refine go _ _ ?_ rfl
    all_goals simp (disch := omega) only [go_sem, simprocAttr, Sl, ht, and_self, aa7]
  ·have : i = l.length := by omega
   subst this
   have he : idxI (fun u => v == u) l 0 = -1 := by rw [hr]; simp [idxI]
   rw [he]
   clear hK hr
   repeat' first | (simp (disch := first | omega | assumption) only [go_sem, simprocAttr, *]) | refine aa0 (fun hb=>?_) fun hb=>?_ | refine aa1 (fun hb=>?_) fun hb=>?_
   all_goals (try simp only [FX] at *)
   all_goals first | omega | skip
   exact ad0 rfl rfl
theorem cu9 (x : EV) (l : List Int) (hx : ap1 x l) (v : Int) (H : Heap) (hl : l.length ≤ 1000000) :
  den E R.ag7 [x, .int .i64 v] H = some (.ret (.bool (decide (v ∈ l))), H) := by
 have h1 := fun H => dx5 (E := E) x l hx v H hl
 have h2 := df4 (p := fun u => v == u) (l := l) (i := 0) (by omega)
 rw [ev5] at h2
 rw [← h2]
 clear h2
 generalize idxI (fun u => v == u) l 0 = k at h1 ⊢
 obtain ⟨cx, ox⟩ := hx.one
 refine ad9 R.ap0 (by simp) ?_
 unfold Gn.ah8 Gn.ag6
 unfold EV.one at ox
 unfold EV.cells at cx
 repeat' first | (simp (disch := first | omega | assumption) only [go_sem, simprocAttr, *]) | refine aa0 (fun hb=>?_) fun hb=>?_ | refine aa1 (fun hb=>?_) fun hb=>?_
 all_goals (try simp only [FX] at *)
 exact ad0 rfl rfl
end
def dk9 (s : List UInt8) (t : RT) : Bool := (alT t).2 && (av5 s (alT t).1 (atL s.length 0) || (aa5 s (alT t).1 (atL s.length 0)).getD s.length false)
section
variable {E : Env} [R : bx5 E]
set_option maxHeartbeats 1000000 in
theorem br5 (hH : be5 E R.am6 .u8) (hS : be3 E R.ab4) {t : RT} (ht : t.Ok) (hz : szT t ≤ 100000) (s : List UInt8) (hs : s.length ≤ 100000) (H : Heap) :
  den E R.au8 [t.E, .str s] H = some (.ret (.bool (mayT t && dk9 s t)), H) := by
 have h1 := fun H => cl7 (E := E) ht H
 cases hm : mayT t with
 | false =>
  rw [hm] at h1
  cases ht with
  | mk kd w x0 ts lo hi hw hx0 hts =>
  obtain ⟨cx, ox⟩ := hx0.one
  refine ad9 R.be9 (by simp) ?_
  unfold Gn.bb2 Gn.av0
  unfold RT.E at h1 ⊢
  unfold EV.one at ox
  unfold EV.cells at cx
  simp only at h1
  repeat' first | (simp (disch := first | omega | assumption) only [go_sem, simprocAttr, *]) | refine aa0 (fun hb=>?_) fun hb=>?_ | refine aa1 (fun hb=>?_) fun hb=>?_
  all_goals (try simp only [FX] at *)
  exact aa2 rfl rfl
 | true =>
  rw [hm] at h1
  have hn : ae7 t = true := by
   unfold mayT at hm
   simp only [Bool.and_eq_true] at hm
   exact hm.2.2
  have h2 := fa2 (E := E) ht hn hz
  obtain ⟨xok, xfit, _⟩ := ed8 ht hn
  have hA : ap1 (.imm 1 [.int .i64 0]) (posL 0 (atL s.length 0)) := by
   rw [dt2 _ _ (by omega)]
   exact bq1 (l := [(0 : Int)]) (by simp)
  unfold dk9
  obtain ⟨xl, xo, xa, xt⟩ := RT.boxed xok
  obtain ⟨y, h3, h4⟩ := cr5 (E := E) hH hS s hs xok xfit (.imm 1 [.int .i64 0]) (atL s.length 0) (H.length + 2) false (H ++ [some (.row 8 [t.E]), some (.row 8 [(alT t).1.E]), some (.row 2 [.agg [.str s, .bool false]])]) hA (at3 _ _) (by rw [List.getElem?_append_right (by omega), Nat.add_sub_cancel_left]; rfl)
  rw [List.set_append_right _ _ (by omega), Nat.add_sub_cancel_left] at h3
  simp only [List.set_cons_succ, List.set_cons_zero, Bool.false_or] at h3
  have hel := (aj9 s xok).len _ (at3 s.length 0)
  have hll : (posL 0 (aa5 s (alT t).1 (atL s.length 0))).length ≤ 1000000 := by
   have h4 := ba2 (aa5 s (alT t).1 (atL s.length 0))
   rw [at4]
   omega
  have h5 := fun H => cu9 (E := E) y _ h4 (s.length : Int) H hll
  have hmem : decide ((s.length : Int) ∈ posL 0 (aa5 s (alT t).1 (atL s.length 0))) = (aa5 s (alT t).1 (atL s.length 0)).getD s.length false := by
   rw [Bool.eq_iff_iff, decide_eq_true_eq, am8]
   constructor
   ·rintro ⟨i, h, e⟩
    obtain rfl : i = s.length := by omega
    exact h
   ·intro h
    exact ⟨s.length, h, by omega⟩
  rw [hmem] at h5
  generalize (aa5 s (alT t).1 (atL s.length 0)).getD s.length false = q at h5 ⊢
  generalize av5 s (alT t).1 (atL s.length 0) = op at h3 ⊢
  generalize posL 0 (aa5 s (alT t).1 (atL s.length 0)) = l at h4
  obtain ⟨cy, oy⟩ := h4.one
  generalize (alT t).2 = b at h2 ⊢
  generalize (alT t).1.E = z at *
  cases ht with
  | mk kd w x0 ts lo hi hw hx0 hts =>
  obtain ⟨cx, ox⟩ := hx0.one
  refine ad9 R.be9 (by simp) ?_
  unfold Gn.bb2 Gn.av0
  unfold RT.E at h1 h2 h3 ⊢
  unfold EV.one at ox oy
  unfold EV.cells at cx cy xl xo xa xt
  simp only at h1 h2 h3
  clear hA hn hz hll hmem h4 hel
  cases b with
  | false =>
   repeat' first | (simp (disch := first | omega | assumption) only [go_sem, simprocAttr, *]) | refine aa0 (fun hb=>?_) fun hb=>?_ | refine aa1 (fun hb=>?_) fun hb=>?_
   all_goals (try simp only [FX] at *)
   exact aa2 rfl rfl
  | true =>
   cases op with
   | true =>
    repeat' first | (simp (disch := first | omega | assumption) only [go_sem, simprocAttr, *]) | refine aa0 (fun hb=>?_) fun hb=>?_ | refine aa1 (fun hb=>?_) fun hb=>?_
    all_goals (try simp only [FX] at *)
    exact aa2 rfl rfl
   | false =>
    repeat' first | (simp (disch := first | omega | assumption) only [go_sem, simprocAttr, *]) | refine aa0 (fun hb=>?_) fun hb=>?_ | refine aa1 (fun hb=>?_) fun hb=>?_
    all_goals (try simp only [FX] at *)
    exact aa2 rfl rfl
end
def wA : Nat → Nat := fun i => if i = 1 then 8589934592 else 0
def wB : Nat → Nat := fun i => if i = 1 then 17179869184 else 0
def bl9 (w : Nat → Nat) : RT := .mk 1 w .nilsl [] 0 0
def abT : RT := .mk 4 (fun _ => 0) (.imm 8 [(RT.mk 2 (fun _ => 0) (.imm 8 [(bl9 wA).E, (bl9 wB).E]) [bl9 wA, bl9 wB] 0 0).E]) [.mk 2 (fun _ => 0) (.imm 8 [(bl9 wA).E, (bl9 wB).E]) [bl9 wA, bl9 wB] 0 0] 0 (-1)
theorem cl9 {w : Nat → Nat} (h : bs5 w) : (bl9 w).Ok := .mk _ _ _ _ _ _ h .nil fun t h => by simp at h
theorem ex4 : bs5 wA := fun i => by unfold wA; split <;> omega
theorem ex3 : bs5 wB := fun i => by unfold wB; split <;> omega
theorem dg4 : abT.Ok := by
 have h : (RT.mk 2 (fun _ => 0) (.imm 8 [(bl9 wA).E, (bl9 wB).E]) [bl9 wA, bl9 wB] 0 0).Ok := .mk _ _ _ _ _ _ dd7 (.imm (es := [(bl9 wA).E, (bl9 wB).E]) (fun n => by simp [okL, RT.ok (cl9 ex4), RT.ok (cl9 ex3)]) (by simp)) fun t h => by
  simp only [List.mem_cons, List.not_mem_nil, or_false] at h
  rcases h with rfl | rfl
  ·exact cl9 ex4
  ·exact cl9 ex3
 exact .mk _ _ _ _ _ _ dd7 (.imm (es := [(RT.mk 2 (fun _ => 0) (.imm 8 [(bl9 wA).E, (bl9 wB).E]) [bl9 wA, bl9 wB] 0 0).E]) (fun n => by simp [okL, RT.ok h]) (by simp)) fun t ht => by
  simp only [List.mem_cons, List.not_mem_nil, or_false] at ht
  subst ht
  exact h
section
variable {E : Env} [R : AliR E]
structure ee0 (E : Env) (f : FuncId) : Prop where
 a : ∀ H, den E f [.int .i64 97, .int .i64 97] H = some (.ret (.agg [.int .u64 0, .int .u64 8589934592, .int .u64 0, .int .u64 0]), H)
 b : ∀ H, den E f [.int .i64 98, .int .i64 98] H = some (.ret (.agg [.int .u64 0, .int .u64 17179869184, .int .u64 0, .int .u64 0]), H)
theorem fa4 (hG : ee0 E R.aq9) (H : Heap) : den E R.aw7 [] H = some (.ret abT.E, H) := by
 have h1 := hG.a
 have h2 := hG.b
 refine ad9 R.bm7 (by simp) ?_
 unfold Gn.aw4 Gn.as5
 repeat' first | (simp (disch := first | omega | assumption) only [go_sem, simprocAttr, *]) | refine aa0 (fun hb=>?_) fun hb=>?_ | refine aa1 (fun hb=>?_) fun hb=>?_
 all_goals (try simp only [FX] at *)
 exact aa2 rfl rfl
set_option maxHeartbeats 1000000 in
theorem dd5 (hG : ee0 E R.aq9) (hH : be5 E R.am6 .u8) (hS : be3 E R.ab4) (H : Heap) : den E R.ah1 [] H = some (.ret (.bool true), H) := by
 have h1 := fun H => fa4 (E := E) hG H
 have hm : mayT abT = true := by decide +kernel
 obtain ⟨y, h2, h3⟩ := by2 (E := E) hH hS dg4 hm [97, 98, 97, 98, 97] (by simp) 0 (by simp) H
 have e3 : posL 0 (aa5 [97, 98, 97, 98, 97] abT (atL ([97, 98, 97, 98, 97] : List UInt8).length 0)) = [0, 2, 4] := by decide +kernel
 rw [e3] at h3
 rw [show ((0 : Nat) : Int) = 0 from rfl] at h2
 have h4 := fun H => dh9 (E := E) y (.imm 1 [.int .i64 0, .int .i64 2, .int .i64 4]) [0, 2, 4] [0, 2, 4] h3 (bq1 (l := [0, 2, 4]) (by simp)) (by simp) (by simp) H
 rw [decide_eq_true rfl] at h4
 have h5 := fun H => br3 (E := E) hH hS dg4 hm [97, 98, 98] (by simp) H
 have e5 : br4 (posL 0 (aa5 [97, 98, 98] abT (atL ([97, 98, 98] : List UInt8).length 0))) = 2 := by decide +kernel
 rw [e5] at h5
 have h6 := fun H => br5 (E := E) hH hS dg4 (by decide +kernel) [97, 98, 97] (by simp) H
 have e6 : (mayT abT && dk9 [97, 98, 97] abT) = true := by decide +kernel
 rw [e6] at h6
 have h7 := fun H => br5 (E := E) hH hS dg4 (by decide +kernel) [97, 98, 98] (by simp) H
 have e7 : (mayT abT && dk9 [97, 98, 98] abT) = false := by decide +kernel
 rw [e7] at h7
 obtain ⟨cy, oy⟩ := h3.one
 unfold EV.one at oy
 unfold EV.cells at cy
 clear hm e3 e5 e6 e7 h3
 generalize abT.E = z at *
 refine ad9 R.bh4 (by simp) ?_
 unfold Gn.aq4 Gn.al9
 repeat' first | (simp (disch := first | omega | assumption) only [go_sem, simprocAttr, *]) | refine aa0 (fun hb=>?_) fun hb=>?_ | refine aa1 (fun hb=>?_) fun hb=>?_
 all_goals (try simp only [FX] at *)
 exact ad0 rfl rfl
end
theorem dh4 {ts : List RT} {i : Nat} {u : RT} (h : ts[i]? = some u) : av4 (ts.drop i) = (ah7 u || av4 (ts.drop (i + 1))) := by
 rw [be8 h, av4]
theorem dh5 {ts : List RT} {i : Nat} {u : RT} (h : ts[i]? = some u) : bn3 (ts.drop i) = (ah7 u && bn3 (ts.drop (i + 1))) := by
 rw [be8 h, bn3]
section
variable {E : Env} [R : LawT E]
set_option maxHeartbeats 1000000 in
theorem ef2 {t : RT} (ht : t.Ok) : ae7 t = true → ∀ H, den E R.an3 [t.E] H = some (.ret (.bool (ah7 t)), H) := by
 induction ht with
 | mk kd w x0 ts lo hi hw hx0 hts ih =>
  intro hn H
  simp only [ae7, Bool.and_eq_true] at hn
  obtain ⟨hnb, hnl⟩ := hn
  have hm := bf2 hnl
  have hih := fun u hu => ih u hu (hm u hu)
  have lx0 := hx0.len
  rw [List.length_map] at lx0
  have lex := hx0.le
  rw [List.length_map] at lex
  have ox := hx0.one.2
  have cx := hx0.one.1
  have hz := bs6 w
  refine ad9 R.bi7 (by simp) ?_
  unfold Gn.as1 Gn.ao0
  rw [show (RT.mk kd w x0 ts lo hi).E = .agg [.int .i64 kd, .int .u64 (w 0 : Nat), .int .u64 (w 1 : Nat), .int .u64 (w 2 : Nat), .int .u64 (w 3 : Nat), x0, .int .i64 lo, .int .i64 hi] from rfl]
  unfold EV.one at ox
  unfold EV.cells at cx
  clear ih hnl
  generalize hr : ah7 (.mk kd w x0 ts lo hi) = r
  rw [ah7] at hr
  by_cases k0 : kd = 0
  ·subst k0
   rw [if_pos rfl] at hr
   subst hr
   clear hih hm hnb hts
   repeat' first | (simp (disch := first | omega | assumption) only [go_sem, simprocAttr, *]) | refine aa0 (fun hb=>?_) fun hb=>?_ | refine aa1 (fun hb=>?_) fun hb=>?_
   all_goals (try simp only [FX] at *)
   exact aa2 rfl rfl
  rw [if_neg k0] at hr
  by_cases k1 : kd = 1
  ·subst k1
   rw [if_pos rfl] at hr
   rw [hr] at hz
   clear hih hm hnb hts
   repeat' first | (simp (disch := first | omega | assumption) only [go_sem, simprocAttr, *]) | refine aa0 (fun hb=>?_) fun hb=>?_ | refine aa1 (fun hb=>?_) fun hb=>?_
   all_goals (try simp only [FX] at *)
   exact aa2 rfl rfl
  rw [if_neg k1] at hr
  by_cases k2 : kd = 2
  ·subst k2
   rw [if_pos rfl] at hr
   clear hnb hts hz
   repeat' first | (simp (disch := first | omega | assumption) only [go_sem, simprocAttr, *]) | refine aa0 (fun hb=>?_) fun hb=>?_ | refine aa1 (fun hb=>?_) fun hb=>?_
   all_goals (try simp only [FX] at *)
   all_goals first | omega | skip
   refine ae4 (ι := Nat) (fun i => i ≤ ts.length ∧ av4 ts = av4 (ts.drop i)) (fun i => ts.length - i) (fun i => [(1, .ptr H.length 8 0 0), (3, .int .i64 i)]) (fun _ => H ++ [some (.row 8 [.agg [.int .i64 2, .int .u64 (w 0 : Nat), .int .u64 (w 1 : Nat), .int .u64 (w 2 : Nat), .int .u64 (w 3 : Nat), x0, .int .i64 lo, .int .i64 hi]])]) 0 ⟨by omega, rfl⟩ ?_ rfl ?_
   ·simp (disch := omega) only [go_sem, simprocAttr, Sl]
   rintro i t1 ⟨hi1, hv⟩ ht K hK
   simp (disch := omega) only [go_sem, simprocAttr, Sl] at ht
   by_cases hlt : i < ts.length
   ·obtain ⟨u, hu⟩ := aa8 hlt
    have hum := List.mem_of_getElem? hu
    have hat := hx0.atT hu
    have h0 := hih u hum
    rw [dh4 hu] at hv
    obtain ⟨hyl, hya, hyt⟩ : u.E.cells.length = 8 ∧ EV.agg u.E.cells = u.E ∧ List.take 8 u.E.cells = u.E.cells := ⟨RT.cells u, by cases u; rfl, List.take_of_length_le (by rw [RT.cells]; omega)⟩
    generalize ah7 u = v at h0 hv
    cases v with
    | true =>
     rw [hr] at hv
     simp only [Bool.true_or] at hv
     subst hv
     clear hK hih hm
     generalize u.E = y at *
     unfold EV.cells at hyl hya hyt hat
     repeat' first | (simp (disch := first | omega | assumption) only [go_sem, simprocAttr, *]) | refine aa0 (fun hb=>?_) fun hb=>?_ | refine aa1 (fun hb=>?_) fun hb=>?_
     all_goals (try simp only [FX] at *)
     all_goals first | omega | skip
     exact aa2 rfl rfl
    | false =>
     rw [Bool.false_or] at hv
     have go := fun s' H' => hK (i + 1) s' H' ⟨by omega, hv⟩ (by omega)
     clear hK hih hm hv
     generalize u.E = y at *
     unfold EV.cells at hyl hya hyt hat
     repeat' first | (simp (disch := first | omega | assumption) only [go_sem, simprocAttr, *]) | refine aa0 (fun hb=>?_) fun hb=>?_ | refine aa1 (fun hb=>?_) fun hb=>?_
     all_goals (try simp only [FX] at *)
     all_goals first | omega | skip
     refine go _ _ ?_ rfl
     simp (disch := omega) only [go_sem, simprocAttr, Sl, ht, and_self, aa7]
   ·have hie : i = ts.length := by omega
    subst hie
    rw [List.drop_length, av4, hr] at hv
    subst hv
    clear hK hih hm
    repeat' first | (simp (disch := first | omega | assumption) only [go_sem, simprocAttr, *]) | refine aa0 (fun hb=>?_) fun hb=>?_ | refine aa1 (fun hb=>?_) fun hb=>?_
    all_goals (try simp only [FX] at *)
    all_goals first | omega | skip
    exact aa2 rfl rfl
  rw [if_neg k2] at hr
  by_cases k3 : kd = 3
  ·subst k3
   rw [if_pos rfl] at hr
   clear hnb hts hz
   repeat' first | (simp (disch := first | omega | assumption) only [go_sem, simprocAttr, *]) | refine aa0 (fun hb=>?_) fun hb=>?_ | refine aa1 (fun hb=>?_) fun hb=>?_
   all_goals (try simp only [FX] at *)
   all_goals first | omega | skip
   refine ae4 (ι := Nat) (fun i => i ≤ ts.length ∧ bn3 ts = bn3 (ts.drop i)) (fun i => ts.length - i) (fun i => [(1, .ptr H.length 8 0 0), (4, .int .i64 i)]) (fun _ => H ++ [some (.row 8 [.agg [.int .i64 3, .int .u64 (w 0 : Nat), .int .u64 (w 1 : Nat), .int .u64 (w 2 : Nat), .int .u64 (w 3 : Nat), x0, .int .i64 lo, .int .i64 hi]])]) 0 ⟨by omega, rfl⟩ ?_ rfl ?_
   ·simp (disch := omega) only [go_sem, simprocAttr, Sl]
   rintro i t1 ⟨hi1, hv⟩ ht K hK
   simp (disch := omega) only [go_sem, simprocAttr, Sl] at ht
   by_cases hlt : i < ts.length
   ·obtain ⟨u, hu⟩ := aa8 hlt
    have hum := List.mem_of_getElem? hu
    have hat := hx0.atT hu
    have h0 := hih u hum
    rw [dh5 hu] at hv
    obtain ⟨hyl, hya, hyt⟩ : u.E.cells.length = 8 ∧ EV.agg u.E.cells = u.E ∧ List.take 8 u.E.cells = u.E.cells := ⟨RT.cells u, by cases u; rfl, List.take_of_length_le (by rw [RT.cells]; omega)⟩
    generalize ah7 u = v at h0 hv
    cases v with
    | false =>
     rw [hr] at hv
     simp only [Bool.false_and] at hv
     subst hv
     clear hK hih hm
     generalize u.E = y at *
     unfold EV.cells at hyl hya hyt hat
     repeat' first | (simp (disch := first | omega | assumption) only [go_sem, simprocAttr, *]) | refine aa0 (fun hb=>?_) fun hb=>?_ | refine aa1 (fun hb=>?_) fun hb=>?_
     all_goals (try simp only [FX] at *)
     all_goals first | omega | skip
     exact aa2 rfl rfl
    | true =>
     rw [Bool.true_and] at hv
     have go := fun s' H' => hK (i + 1) s' H' ⟨by omega, hv⟩ (by omega)
     clear hK hih hm hv
     generalize u.E = y at *
     unfold EV.cells at hyl hya hyt hat
     repeat' first | (simp (disch := first | omega | assumption) only [go_sem, simprocAttr, *]) | refine aa0 (fun hb=>?_) fun hb=>?_ | refine aa1 (fun hb=>?_) fun hb=>?_
     all_goals (try simp only [FX] at *)
     all_goals first | omega | skip
     refine go _ _ ?_ rfl
     simp (disch := omega) only [go_sem, simprocAttr, Sl, ht, and_self, aa7]
   ·have hie : i = ts.length := by omega
    subst hie
    rw [List.drop_length, bn3, hr] at hv
    subst hv
    clear hK hih hm
    repeat' first | (simp (disch := first | omega | assumption) only [go_sem, simprocAttr, *]) | refine aa0 (fun hb=>?_) fun hb=>?_ | refine aa1 (fun hb=>?_) fun hb=>?_
    all_goals (try simp only [FX] at *)
    all_goals first | omega | skip
    exact aa2 rfl rfl
  rw [if_neg k3] at hr
  by_cases k4 : kd = 4
  ·subst k4
   simp [ap4] at hnb
   obtain ⟨hn1, hz, hlo, hlo2, hhi⟩ := hnb
   match ts, hn1 with
   | [t0], _ =>
    have h0 := hih t0 (by simp)
    rw [dh1] at hr
    have hat : az2 8 0 x0 = some (.iptr t0.E.cells 0) := hx0.atT (i := 0) (t := t0) rfl
    obtain ⟨hyl, hya, hyt⟩ : t0.E.cells.length = 8 ∧ EV.agg t0.E.cells = t0.E ∧ List.take 8 t0.E.cells = t0.E.cells := ⟨RT.cells t0, by cases t0; rfl, List.take_of_length_le (by rw [RT.cells]; omega)⟩
    generalize ah7 t0 = v at h0 hr
    clear hih hm hts
    generalize t0.E = y at *
    unfold EV.cells at hyl hya hyt hat
    by_cases hl : 0 < lo
    ·rw [decide_eq_true hl, Bool.true_and] at hr
     subst hr
     repeat' first | (simp (disch := first | omega | assumption) only [go_sem, simprocAttr, *]) | refine aa0 (fun hb=>?_) fun hb=>?_ | refine aa1 (fun hb=>?_) fun hb=>?_
     all_goals (try simp only [FX] at *)
     all_goals first | omega | skip
     exact aa2 rfl rfl
    ·rw [decide_eq_false hl, Bool.false_and] at hr
     subst hr
     repeat' first | (simp (disch := first | omega | assumption) only [go_sem, simprocAttr, *]) | refine aa0 (fun hb=>?_) fun hb=>?_ | refine aa1 (fun hb=>?_) fun hb=>?_
     all_goals (try simp only [FX] at *)
     all_goals first | omega | skip
     exact aa2 rfl rfl
  ·simp [ap4, k0, k1, k2, k3, k4] at hnb
end
theorem dd8 {y : EV} {a : List Bool} (h : SlV 1 y (ab3 a)) {i : Nat} (hi : i < a.length) : az2 1 (i : Int) y = some (.iptr [.bool (a.getD i false)] 0) := by
 obtain ⟨v, hv⟩ := aa8 hi
 rw [List.getD_eq_getElem?_getD, hv]
 exact h.elem i _ (at1 hv)
theorem cx1 {a : List Bool} (h : a.length ≤ 1000000) : SlV 1 (.imm 1 (ab3 a)) (ab3 a) := .imm (fun n => bo3 n _) (by rw [ae0]; omega)
section
variable {E : Env} [R : LawT E]
def BegD (E : Env) [R : LawT E] (s : List UInt8) (t : RT) : Prop := ∀ (y : EV) (a : List Bool) (H : Heap), SlV 1 y (ab3 a) → a.length = s.length + 1 → den E R.ak5 [t.E, .str s, y] H = some (.ret (.bool (begT s t a)), H)
set_option maxHeartbeats 4000000 in
theorem do2 (hR : be5 E R.ac8 .i64) (s : List UInt8) (hs : s.length ≤ 100000) {t : RT} (ht : t.Ok) : ae7 t = true → BegD E s t := by
 induction ht with
 | mk kd w x0 ts lo hi hw hx0 hts ih =>
  intro hn y a H hy ha
  have hself := RT.Ok.mk kd w x0 ts lo hi hw hx0 hts
  have hv := fun H => ef2 (E := E) hself hn H
  simp only [ae7, Bool.and_eq_true] at hn
  obtain ⟨hnb, hnl⟩ := hn
  have hm := bf2 hnl
  have hih := fun u hu => ih u hu (hm u hu)
  have hlin : ∀ t ∈ ts, Lin (s.length + 1) (aa5 s t) := fun t hm => aj9 s (hts t hm)
  have hen := fun u hu y a H (h : SlV 1 y (ab3 a)) h2 => cm6 (R := R.toEndR) hR s hs (hts u hu) (hm u hu) y a H (.inl h) h2
  have lx0 := hx0.len
  rw [List.length_map] at lx0
  have lex := hx0.le
  rw [List.length_map] at lex
  have ox := hx0.one.2
  have cx := hx0.one.1
  have oy := hy.one.2
  have cy := hy.one.1
  have hz := bs6 w
  have hat := dd8 hy (i := s.length) (by omega)
  have hHas : ∀ (b : Nat) (H : Heap), b < 256 → den E R.ac8 [.agg [.int .u64 (w 0 : Nat), .int .u64 (w 1 : Nat), .int .u64 (w 2 : Nat), .int .u64 (w 3 : Nat)], .int .i64 b] H = some (.ret (.bool (bb3 w b)), H) := fun b H hb => hR w b H hw hb
  refine ad9 R.be4 (by simp) ?_
  unfold Gn.ao3 Gn.ak6
  rw [show (RT.mk kd w x0 ts lo hi).E = .agg [.int .i64 kd, .int .u64 (w 0 : Nat), .int .u64 (w 1 : Nat), .int .u64 (w 2 : Nat), .int .u64 (w 3 : Nat), x0, .int .i64 lo, .int .i64 hi] from rfl] at hv ⊢
  unfold EV.one at ox oy
  unfold EV.cells at cx cy
  clear ih hnl
  generalize hr : begT s (.mk kd w x0 ts lo hi) a = r
  rw [begT] at hr
  by_cases k0 : kd = 0
  ·subst k0
   rw [if_pos rfl] at hr
   rw [hr] at hat
   clear hih hm hnb hts hv hlin hen hHas hz hself
   repeat' first | (simp (disch := first | omega | assumption) only [go_sem, simprocAttr, *]) | refine aa0 (fun hb=>?_) fun hb=>?_ | refine aa1 (fun hb=>?_) fun hb=>?_
   all_goals (try simp only [FX] at *)
   all_goals first | omega | skip
   exact aa2 rfl rfl
  rw [if_neg k0] at hr
  by_cases k1 : kd = 1
  ·subst k1
   rw [if_pos rfl] at hr
   clear hih hm hnb hts hv hlin hen hself
   generalize zset w = z at hz hr
   cases z with
   | true =>
    simp only [Bool.not_true, Bool.false_and] at hr
    subst hr
    clear hHas
    repeat' first | (simp (disch := first | omega | assumption) only [go_sem, simprocAttr, *]) | refine aa0 (fun hb=>?_) fun hb=>?_ | refine aa1 (fun hb=>?_) fun hb=>?_
    all_goals (try simp only [FX] at *)
    all_goals first | omega | skip
    exact aa2 rfl rfl
   | false =>
    simp only [Bool.not_false, Bool.true_and] at hr
    generalize a.getD s.length false = v at hat hr
    cases v with
    | true =>
     simp only [Bool.true_or] at hr
     subst hr
     clear hHas
     repeat' first | (simp (disch := first | omega | assumption) only [go_sem, simprocAttr, *]) | refine aa0 (fun hb=>?_) fun hb=>?_ | refine aa1 (fun hb=>?_) fun hb=>?_
     all_goals (try simp only [FX] at *)
     all_goals first | omega | skip
     exact aa2 rfl rfl
    | false =>
     rw [Bool.false_or] at hr
     by_cases hn0 : s.length = 0
     ·rw [hn0, bl1] at hr
      rw [hn0, show ((0 : Nat) : Int) = 0 from rfl] at hat
      subst hr
      clear hHas
      repeat' first | (simp (disch := first | omega | assumption) only [go_sem, simprocAttr, *]) | refine aa0 (fun hb=>?_) fun hb=>?_ | refine aa1 (fun hb=>?_) fun hb=>?_
      all_goals (try simp only [FX] at *)
      all_goals first | omega | skip
      exact aa2 rfl rfl
     ·obtain ⟨b, hb⟩ := aa8 (l := s) (i := s.length - 1) (by omega)
      rw [show s.length = (s.length - 1) + 1 by omega, ay3 hb] at hr
      have hat2 := dd8 hy (i := s.length - 1) (by omega)
      rw [show ((s.length - 1 : Nat) : Int) = (s.length : Int) - 1 by omega] at hat2
      have hb8 := b.toNat_lt
      have hbl : b.toNat < 256 := by omega
      have hHb := fun H => hHas b.toNat H hbl
      have hnat : ((s.length : Int) - 1).toNat = s.length - 1 := by omega
      clear hHas
      generalize a.getD (s.length - 1) false = v at hat2 hr
      cases v with
      | true =>
       rw [Bool.true_and] at hr
       rw [hr] at hHb
       repeat' first | (simp (disch := first | omega | assumption) only [go_sem, simprocAttr, *]) | refine aa0 (fun hb=>?_) fun hb=>?_ | refine aa1 (fun hb=>?_) fun hb=>?_
       all_goals (try simp only [FX] at *)
       all_goals first | omega | skip
       exact aa2 rfl rfl
      | false =>
       rw [Bool.false_and] at hr
       subst hr
       repeat' first | (simp (disch := first | omega | assumption) only [go_sem, simprocAttr, *]) | refine aa0 (fun hb=>?_) fun hb=>?_ | refine aa1 (fun hb=>?_) fun hb=>?_
       all_goals (try simp only [FX] at *)
       all_goals first | omega | skip
       exact aa2 rfl rfl
  rw [if_neg k1] at hr
  clear hHas hz
  by_cases k2 : kd = 2
  ·subst k2
   rw [if_pos rfl] at hr
   generalize ah7 (.mk 2 w x0 ts lo hi) = vd at hr hv
   clear hself hnb
   cases vd with
   | true =>
    simp only [Bool.not_true, Bool.false_and] at hr
    subst hr
    clear hen hlin hih
    repeat' first | (simp (disch := first | omega | assumption) only [go_sem, simprocAttr, *]) | refine aa0 (fun hb=>?_) fun hb=>?_ | refine aa1 (fun hb=>?_) fun hb=>?_
    all_goals (try simp only [FX] at *)
    all_goals first | omega | skip
    exact aa2 rfl rfl
   | false =>
    simp only [Bool.not_false, Bool.true_and] at hr
    repeat' first | (simp (disch := first | omega | assumption) only [go_sem, simprocAttr, *]) | refine aa0 (fun hb=>?_) fun hb=>?_ | refine aa1 (fun hb=>?_) fun hb=>?_
    all_goals (try simp only [FX] at *)
    all_goals first | omega | skip
    refine ae4 (ι := Nat × EV × List Bool) (fun q => q.1 ≤ ts.length ∧ begC s ts a = begC s (ts.drop q.1) q.2.2 ∧ SlV 1 q.2.1 (ab3 q.2.2) ∧ q.2.2.length = s.length + 1) (fun q => ts.length - q.1) (fun q => [(1, .str s), (2, q.2.1), (3, .ptr H.length 8 0 0), (7, .int .i64 s.length), (8, .int .i64 q.1)])
     (fun _ => H ++ [some (.row 8 [.agg [.int .i64 2, .int .u64 (w 0 : Nat), .int .u64 (w 1 : Nat), .int .u64 (w 2 : Nat), .int .u64 (w 3 : Nat), x0, .int .i64 lo, .int .i64 hi]])]) (0, y, a) ⟨by simp, rfl, hy, ha⟩ ?_ rfl ?_
    ·simp (disch := omega) only [go_sem, simprocAttr, Sl]
    rintro ⟨i, z, c⟩ t1 ⟨hi1, hpr, hz, hc⟩ ht K hK
    simp only at hi1 hpr hz hc ht
    simp (disch := omega) only [go_sem, simprocAttr, Sl] at ht
    clear hat oy cy hy ha
    have oz := hz.one.2
    have cz := hz.one.1
    unfold EV.one at oz
    unfold EV.cells at cz
    by_cases hlt : i < ts.length
    ·obtain ⟨u, hu⟩ := aa8 hlt
     have hum := List.mem_of_getElem? hu
     have hat := hx0.atT hu
     have h0 := fun H => hih u hum z c H hz hc
     have h1 := fun H => hen u hum z c H hz hc
     have hel := (hlin u hum).len c hc
     rw [be8 hu, begC] at hpr
     obtain ⟨hyl, hya, hyt⟩ : u.E.cells.length = 8 ∧ EV.agg u.E.cells = u.E ∧ List.take 8 u.E.cells = u.E.cells := ⟨RT.cells u, by cases u; rfl, List.take_of_length_le (by rw [RT.cells]; omega)⟩
     generalize begT s u c = v at h0 hpr
     cases v with
     | true =>
      rw [hr, Bool.true_or] at hpr
      subst hpr
      clear hK hih hm hen hlin h1
      generalize u.E = y at *
      unfold EV.cells at hyl hya hyt hat
      repeat' first | (simp (disch := first | omega | assumption) only [go_sem, simprocAttr, *]) | refine aa0 (fun hb=>?_) fun hb=>?_ | refine aa1 (fun hb=>?_) fun hb=>?_
      all_goals (try simp only [FX] at *)
      all_goals first | omega | skip
      exact aa2 rfl rfl
     | false =>
      rw [Bool.false_or] at hpr
      have go := fun s' H' => hK (i + 1, .imm 1 (ab3 (aa5 s u c)), aa5 s u c) s' H' ⟨by simp only; omega, hpr, cx1 (by omega), hel⟩ (by simp only; omega)
      clear hK hih hm hpr hen hlin
      generalize aa5 s u c = e at *
      generalize u.E = y at *
      unfold EV.cells at hyl hya hyt hat
      repeat' first | (simp (disch := first | omega | assumption) only [go_sem, simprocAttr, *]) | refine aa0 (fun hb=>?_) fun hb=>?_ | refine aa1 (fun hb=>?_) fun hb=>?_
      all_goals (try simp only [FX] at *)
      all_goals first | omega | skip
      refine go _ _ ?_ rfl
      simp (disch := omega) only [go_sem, simprocAttr, Sl, ht, and_self, aa7]
    ·have hie : i = ts.length := by omega
     subst hie
     rw [List.drop_length, begC, hr] at hpr
     have hat := dd8 hz (i := s.length) (by omega)
     rw [← hpr] at hat
     clear hK hih hm hen hlin hpr
     repeat' first | (simp (disch := first | omega | assumption) only [go_sem, simprocAttr, *]) | refine aa0 (fun hb=>?_) fun hb=>?_ | refine aa1 (fun hb=>?_) fun hb=>?_
     all_goals (try simp only [FX] at *)
     all_goals first | omega | skip
     exact aa2 rfl rfl
  rw [if_neg k2] at hr
  by_cases k3 : kd = 3
  ·subst k3
   rw [if_pos rfl] at hr
   clear hv hself hnb hen hlin
   repeat' first | (simp (disch := first | omega | assumption) only [go_sem, simprocAttr, *]) | refine aa0 (fun hb=>?_) fun hb=>?_ | refine aa1 (fun hb=>?_) fun hb=>?_
   all_goals (try simp only [FX] at *)
   all_goals first | omega | skip
   refine ae4 (ι := Nat) (fun i => i ≤ ts.length ∧ begA s ts a = begA s (ts.drop i) a) (fun i => ts.length - i) (fun i => [(1, .str s), (2, y), (3, .ptr H.length 8 0 0), (7, .int .i64 s.length), (9, .int .i64 i)])
    (fun _ => H ++ [some (.row 8 [.agg [.int .i64 3, .int .u64 (w 0 : Nat), .int .u64 (w 1 : Nat), .int .u64 (w 2 : Nat), .int .u64 (w 3 : Nat), x0, .int .i64 lo, .int .i64 hi]])]) 0 ⟨by omega, rfl⟩ ?_ rfl ?_
   ·simp (disch := omega) only [go_sem, simprocAttr, Sl]
   rintro i t1 ⟨hi1, hpr⟩ ht K hK
   simp (disch := omega) only [go_sem, simprocAttr, Sl] at ht
   clear hat
   by_cases hlt : i < ts.length
   ·obtain ⟨u, hu⟩ := aa8 hlt
    have hum := List.mem_of_getElem? hu
    have hat := hx0.atT hu
    have h0 := fun H => hih u hum y a H hy ha
    rw [be8 hu, begA] at hpr
    obtain ⟨hyl, hya, hyt⟩ : u.E.cells.length = 8 ∧ EV.agg u.E.cells = u.E ∧ List.take 8 u.E.cells = u.E.cells := ⟨RT.cells u, by cases u; rfl, List.take_of_length_le (by rw [RT.cells]; omega)⟩
    generalize begT s u a = v at h0 hpr
    cases v with
    | true =>
     rw [hr, Bool.true_or] at hpr
     subst hpr
     clear hK hih hm
     generalize u.E = z at *
     unfold EV.cells at hyl hya hyt hat
     repeat' first | (simp (disch := first | omega | assumption) only [go_sem, simprocAttr, *]) | refine aa0 (fun hb=>?_) fun hb=>?_ | refine aa1 (fun hb=>?_) fun hb=>?_
     all_goals (try simp only [FX] at *)
     all_goals first | omega | skip
     exact aa2 rfl rfl
    | false =>
     rw [Bool.false_or] at hpr
     have go := fun s' H' => hK (i + 1) s' H' ⟨by omega, hpr⟩ (by omega)
     clear hK hih hm hpr
     generalize u.E = z at *
     unfold EV.cells at hyl hya hyt hat
     repeat' first | (simp (disch := first | omega | assumption) only [go_sem, simprocAttr, *]) | refine aa0 (fun hb=>?_) fun hb=>?_ | refine aa1 (fun hb=>?_) fun hb=>?_
     all_goals (try simp only [FX] at *)
     all_goals first | omega | skip
     refine go _ _ ?_ rfl
     simp (disch := omega) only [go_sem, simprocAttr, Sl, ht, and_self, aa7]
   ·have hie : i = ts.length := by omega
    subst hie
    rw [List.drop_length, begA, hr] at hpr
    subst hpr
    clear hK hih hm
    repeat' first | (simp (disch := first | omega | assumption) only [go_sem, simprocAttr, *]) | refine aa0 (fun hb=>?_) fun hb=>?_ | refine aa1 (fun hb=>?_) fun hb=>?_
    all_goals (try simp only [FX] at *)
    all_goals first | omega | skip
    exact aa2 rfl rfl
  rw [if_neg k3] at hr
  by_cases k4 : kd = 4
  ·subst k4
   simp [ap4] at hnb
   obtain ⟨hn1, hz, hlo, hlo2, hhi⟩ := hnb
   match ts, hn1 with
   | [t0], _ =>
    have t0ok := hts t0 (by simp)
    generalize ah7 (.mk 4 w x0 [t0] lo hi) = vd at hr hv
    have hi0 := fun y a H h h2 => hih t0 (by simp) y a H h h2
    have he0 := fun y a H h h2 => hen t0 (by simp) y a H h h2
    have hat0 : az2 8 0 x0 = some (.iptr t0.E.cells 0) := hx0.atT (i := 0) (t := t0) rfl
    have hl0 := hlin t0 (by simp)
    obtain ⟨hyl, hya, hyt⟩ : t0.E.cells.length = 8 ∧ EV.agg t0.E.cells = t0.E ∧ List.take 8 t0.E.cells = t0.E.cells := ⟨RT.cells t0, by cases t0; rfl, List.take_of_length_le (by rw [RT.cells]; omega)⟩
    clear hself hih hen hm hlin hts
    unfold EV.cells at hyl hya hyt hat0
    cases vd with
    | true =>
     simp only [Bool.not_true, Bool.false_and] at hr
     subst hr
     clear hi0 he0
     generalize t0.E = z at *
     repeat' first | (simp (disch := first | omega | assumption) only [go_sem, simprocAttr, *]) | refine aa0 (fun hb=>?_) fun hb=>?_ | refine aa1 (fun hb=>?_) fun hb=>?_
     all_goals (try simp only [FX] at *)
     all_goals first | omega | skip
     exact aa2 rfl rfl
    | false =>
     simp only [Bool.not_false, Bool.true_and] at hr
     generalize hav : a.getD s.length false = av at hat hr
     cases av with
     | true =>
      rw [Bool.true_or] at hr
      subst hr
      clear hi0 he0
      generalize t0.E = z at *
      repeat' first | (simp (disch := first | omega | assumption) only [go_sem, simprocAttr, *]) | refine aa0 (fun hb=>?_) fun hb=>?_ | refine aa1 (fun hb=>?_) fun hb=>?_
      all_goals (try simp only [FX] at *)
      all_goals first | omega | skip
      exact aa2 rfl rfl
     | false =>
      rw [Bool.false_or, begR] at hr
      have hM : ((cr1 s.length lo hi : Nat) : Int) = if hi < 0 then lo + s.length + 1 else hi := by
       unfold cr1
       split
       ·omega
       ·omega
      have hMle : cr1 s.length lo hi ≤ 1000000 := by
       unfold cr1
       split <;> omega
      generalize cr1 s.length lo hi = M at hr hM hMle
      have hpos : hi < 0 ∨ 0 ≤ hi := by omega
      repeat' first | (simp (disch := first | omega | assumption) only [go_sem, simprocAttr, *]) | refine aa0 (fun hb=>?_) fun hb=>?_ | refine aa1 (fun hb=>?_) fun hb=>?_
      all_goals (try simp only [FX] at *)
      all_goals first | omega | skip
      all_goals
       refine ae4 (ι := Nat × EV) (fun q => q.1 ≤ M ∧ opP (aa5 s t0) (begT s t0) q.1 a = false ∧ SlV 1 q.2 (ab3 (powN (aa5 s t0) q.1 a))) (fun q => M - q.1) (fun q => [(1, .str s), (2, q.2), (3, .ptr H.length 8 0 0), (7, .int .i64 s.length), (10, .int .i64 M), (11, .int .i64 q.1)])
        (fun _ => H ++ [some (.row 8 [.agg [.int .i64 4, .int .u64 (w 0 : Nat), .int .u64 (w 1 : Nat), .int .u64 (w 2 : Nat), .int .u64 (w 3 : Nat), x0, .int .i64 lo, .int .i64 hi]])]) (0, y) ⟨by simp, rfl, hy⟩ ?_ rfl ?_
       ·by_cases hh : hi < 0
        ·rw [if_pos hh] at hM
         first | omega | simp (disch := omega) only [go_sem, simprocAttr, Sl, hM]
        ·rw [if_neg hh] at hM
         first | omega | simp (disch := omega) only [go_sem, simprocAttr, Sl, hM]
       rintro ⟨k, z⟩ t1 ⟨hk1, hop, hz⟩ ht K hK
       simp only at hk1 hop hz ht
       simp (disch := omega) only [go_sem, simprocAttr, Sl] at ht
       clear oy cy hy hat
       have oz := hz.one.2
       have cz := hz.one.1
       unfold EV.one at oz
       unfold EV.cells at cz
       have hc := (ak8 hl0 k).len a ha
       by_cases hlt : k < M
       ·have h0 := fun H => hi0 z _ H hz hc
        have h1 := fun H => he0 z _ H hz hc
        have hel := hl0.len _ hc
        have hnx : opP (aa5 s t0) (begT s t0) (k + 1) a = (opP (aa5 s t0) (begT s t0) k a || begT s t0 (powN (aa5 s t0) k a)) := rfl
        have hny : powN (aa5 s t0) (k + 1) a = aa5 s t0 (powN (aa5 s t0) k a) := rfl
        have hcon : opP (aa5 s t0) (begT s t0) (k + 1) a = true → opP (aa5 s t0) (begT s t0) M a = true := fun h => by
         obtain ⟨j, h1, h2⟩ := bj2.1 h
         exact bj2.2 ⟨j, by omega, h2⟩
        rw [hop, Bool.false_or] at hnx
        generalize hbv : begT s t0 (powN (aa5 s t0) k a) = v at h0 hnx
        cases v with
        | true =>
         rw [hcon hnx, Bool.true_or] at hr
         subst hr
         clear hK hi0 he0 h1 hnx hny hcon hop
         generalize t0.E = e at *
         repeat' first | (simp (disch := first | omega | assumption) only [go_sem, simprocAttr, *]) | refine aa0 (fun hb=>?_) fun hb=>?_ | refine aa1 (fun hb=>?_) fun hb=>?_
         all_goals (try simp only [FX] at *)
         all_goals first | omega | skip
         exact aa2 rfl rfl
        | false =>
         have go := fun s' H' => hK (k + 1, .imm 1 (ab3 (powN (aa5 s t0) (k + 1) a))) s' H' ⟨by simp only; omega, hnx, cx1 (by rw [hny]; omega)⟩ (by simp only; omega)
         rw [← hny] at h1
         clear hK hi0 he0 hnx hcon hop hbv hny hel hc
         generalize powN (aa5 s t0) (k + 1) a = e at *
         generalize t0.E = e0 at *
         repeat' first | (simp (disch := first | omega | assumption) only [go_sem, simprocAttr, *]) | refine aa0 (fun hb=>?_) fun hb=>?_ | refine aa1 (fun hb=>?_) fun hb=>?_
         all_goals (try simp only [FX] at *)
         all_goals first | omega | skip
         refine go _ _ ?_ rfl
         simp (disch := omega) only [go_sem, simprocAttr, Sl, ht, and_self, aa7]
       ·have hie : k = M := by omega
        subst hie
        rw [hop, Bool.false_or] at hr
        have hat := dd8 hz (i := s.length) (by omega)
        rw [hr] at hat
        clear hK hi0 he0 hr
        repeat' first | (simp (disch := first | omega | assumption) only [go_sem, simprocAttr, *]) | refine aa0 (fun hb=>?_) fun hb=>?_ | refine aa1 (fun hb=>?_) fun hb=>?_
        all_goals (try simp only [FX] at *)
        all_goals first | omega | skip
        exact aa2 rfl rfl
  ·simp [ap4, k0, k1, k2, k3, k4] at hnb
end
theorem et6 (s : List UInt8) {t : RT} (ht : t.Ok) (hn : ae7 t = true) : dk9 s t = begT s t (atL s.length 0) := by
 have h3 := (ed8 ht hn).2.2
 unfold dk9
 rw [h3]
 cases hv : ah7 t with
 | true => rw [cn5 s ht hv]; rfl
 | false =>
  obtain ⟨h1, h2⟩ := fa3 s ht hn hv (atL s.length 0) (at3 _ _)
  rw [h1, h2]; rfl
theorem dv9 {t : RT} (h : mayT t = true) : ae7 t = true := by
 unfold mayT at h
 simp only [Bool.and_eq_true] at h
 exact h.2.2
section
variable {E : Env} [R : LawT E]
theorem cf5 (hR : be5 E R.ac8 .i64) {t : RT} (ht : t.Ok) (hn : ae7 t = true) (s : List UInt8) (hs : s.length ≤ 100000) (H : Heap) :
  den E R.an1 [t.E, .str s] H = some (.ret (.int .i64 (br4 (posL 0 (aa5 s t (atL s.length 0))))), H) := by
 have h1 := fun H => cy0 (E := E) hR ht hn s hs 0 (by omega) H
 rw [show ((0 : Nat) : Int) = 0 from rfl] at h1
 have h4 := eh9 (m := s.length + 1) (by omega) ((aj9 s ht).len _ (at3 s.length 0))
 have lf := h4.lenI
 have hll : (posL 0 (aa5 s t (atL s.length 0))).length ≤ 1000000 := by
  have := (aj9 s ht).len _ (at3 s.length 0)
  have h4 := ba2 (aa5 s t (atL s.length 0))
  rw [at4]
  omega
 generalize outV (posL 0 (aa5 s t (atL s.length 0))) = y at h1 h4 lf
 generalize posL 0 (aa5 s t (atL s.length 0)) = l at h4 lf hll ⊢
 obtain ⟨cy, oy⟩ := h4.one
 by_cases he : l = []
 ·subst he
  rw [show br4 [] = -1 from rfl]
  cases ht with
  | mk kd w x0 ts lo hi hw hx0 hts =>
  obtain ⟨cx, ox⟩ := hx0.one
  refine ad9 R.au3 (by simp) ?_
  unfold Gn.aj1 Gn.ah6
  unfold RT.E at h1 ⊢
  unfold EV.one at ox oy
  unfold EV.cells at cx cy
  simp only [List.length_nil] at h1 lf
  repeat' first | (simp (disch := first | omega | assumption) only [go_sem, simprocAttr, *]) | refine aa0 (fun hb=>?_) fun hb=>?_ | refine aa1 (fun hb=>?_) fun hb=>?_
  all_goals (try simp only [FX] at *)
  all_goals first | omega | exact aa2 rfl rfl
 ·have hg := bu6 he
  have hlp := List.length_pos_iff.2 he
  have hat := h4.at hg
  rw [show ((l.length - 1 : Nat) : Int) = (l.length : Int) - 1 by omega] at hat
  generalize br4 l = r at hat hg ⊢
  cases ht with
  | mk kd w x0 ts lo hi hw hx0 hts =>
  obtain ⟨cx, ox⟩ := hx0.one
  refine ad9 R.au3 (by simp) ?_
  unfold Gn.aj1 Gn.ah6
  unfold RT.E at h1 ⊢
  unfold EV.one at ox oy
  unfold EV.cells at cx cy
  simp only at h1
  repeat' first | (simp (disch := first | omega | assumption) only [go_sem, simprocAttr, *]) | refine aa0 (fun hb=>?_) fun hb=>?_ | refine aa1 (fun hb=>?_) fun hb=>?_
  all_goals (try simp only [FX] at *)
  all_goals first | omega | exact aa2 rfl rfl
set_option maxHeartbeats 2000000 in
theorem bz0 (hAl : ∀ H, den E R.ah1 [] H = some (.ret (.bool true), H)) (hR : be5 E R.ac8 .i64) (hH : be5 E R.am6 .u8) (hS : be3 E R.ab4) {t : RT} (ht : t.Ok) (s : List UInt8) (H : Heap) :
  den E R.ar0 [t.E, .str s] H = some (.ret (.bool true), H) := by
 have h1 := fun H => dx6 (E := E) ht H
 have hsz := ek5 (t := t)
 generalize cs5 t = hv at h1 hsz
 by_cases hg : hv = true ∨ s.length > 40
 ·cases ht with
  | mk kd w x0 ts lo hi hw hx0 hts =>
  obtain ⟨cx, ox⟩ := hx0.one
  refine ad9 R.al0 (by simp) ?_
  unfold Gn.af5 Gn.ae5
  unfold RT.E at h1 ⊢
  unfold EV.one at ox
  unfold EV.cells at cx
  simp only at h1
  clear hsz
  cases hv with
  | true =>
   repeat' first | (simp (disch := first | omega | assumption) only [go_sem, simprocAttr, *]) | refine aa0 (fun hb=>?_) fun hb=>?_ | refine aa1 (fun hb=>?_) fun hb=>?_
   all_goals (try simp only [FX] at *)
   all_goals first | omega | exact aa2 rfl rfl
  | false =>
   have hl : s.length > 40 := by simpa using hg
   repeat' first | (simp (disch := first | omega | assumption) only [go_sem, simprocAttr, *]) | refine aa0 (fun hb=>?_) fun hb=>?_ | refine aa1 (fun hb=>?_) fun hb=>?_
   all_goals (try simp only [FX] at *)
   all_goals first | omega | exact aa2 rfl rfl
 ·have hv0 : hv = false := by cases hv <;> simp at hg ⊢
  have hs : s.length ≤ 40 := by omega
  subst hv0
  have hsz := hsz rfl
  have hd := ez9 t
  have h2 := fun H => dw0 (E := E) ht (by omega) H
  rw [← ez2 (by omega)] at h2
  have h3 := fun H => dl0 (E := E) hH hS ht s (by omega) H
  have h4 := fun H => br5 (E := E) hH hS ht (by omega) s (by omega) H
  by_cases hm : mayT t = true
  ·have hn := dv9 hm
   have h5 := fun H => br3 (E := E) hH hS ht hm s (by omega) H
   have h6 := fun H => cf5 (E := E) hR ht hn s (by omega) H
   have h7 := fun H => dp7 (E := E) hR s (by omega) ht hn H
   have h8 := fun H => ed1 (E := E) s (by omega) 0 (by omega) H
   rw [show ((0 : Nat) : Int) = 0 from rfl] at h8
   have h9 := fun H => do2 (E := E) hR s (by omega) ht hn (.imm 1 (ab3 (atL s.length 0))) (atL s.length 0) H (cx1 (by rw [at3]; omega)) (at3 _ _)
   rw [et6 s ht hn] at h4
   rw [hm] at h2
   simp only [hm, Bool.true_and] at h3 h4
   generalize begT s t (atL s.length 0) = b at h4 h9
   generalize (aa5 s t (atL s.length 0)).getD s.length false = q at h3 h7
   generalize br4 (posL 0 (aa5 s t (atL s.length 0))) = m at h5 h6
   generalize ab3 (atL s.length 0) = at0 at h8 h9
   cases ht with
   | mk kd w x0 ts lo hi hw hx0 hts =>
   obtain ⟨cx, ox⟩ := hx0.one
   refine ad9 R.al0 (by simp) ?_
   unfold Gn.af5 Gn.ae5
   unfold RT.E at h1 h2 h3 h4 h5 h6 h7 h9 ⊢
   unfold EV.one at ox
   unfold EV.cells at cx
   simp only at h1 h2 h3 h4 h5 h6 h7 h9
   clear hg hsz hd hm hn
   cases b with
   | true =>
    cases q with
    | true =>
     repeat' first | (simp (disch := first | omega | assumption) only [go_sem, simprocAttr, *]) | refine aa0 (fun hb=>?_) fun hb=>?_ | refine aa1 (fun hb=>?_) fun hb=>?_
     all_goals (try simp only [FX] at *)
     all_goals first | omega | exact aa2 rfl rfl
    | false =>
     repeat' first | (simp (disch := first | omega | assumption) only [go_sem, simprocAttr, *]) | refine aa0 (fun hb=>?_) fun hb=>?_ | refine aa1 (fun hb=>?_) fun hb=>?_
     all_goals (try simp only [FX] at *)
     all_goals first | omega | exact aa2 rfl rfl
   | false =>
    cases q with
    | true =>
     repeat' first | (simp (disch := first | omega | assumption) only [go_sem, simprocAttr, *]) | refine aa0 (fun hb=>?_) fun hb=>?_ | refine aa1 (fun hb=>?_) fun hb=>?_
     all_goals (try simp only [FX] at *)
     all_goals first | omega | exact aa2 rfl rfl
    | false =>
     repeat' first | (simp (disch := first | omega | assumption) only [go_sem, simprocAttr, *]) | refine aa0 (fun hb=>?_) fun hb=>?_ | refine aa1 (fun hb=>?_) fun hb=>?_
     all_goals (try simp only [FX] at *)
     all_goals first | omega | exact aa2 rfl rfl
  ·have hm : mayT t = false := by simpa using hm
   have h5 := fun H => ci2 (E := E) ht hm s (by omega) H
   rw [hm] at h2 h3 h4
   simp only [Bool.false_and] at h3 h4
   cases ht with
   | mk kd w x0 ts lo hi hw hx0 hts =>
   obtain ⟨cx, ox⟩ := hx0.one
   refine ad9 R.al0 (by simp) ?_
   unfold Gn.af5 Gn.ae5
   unfold RT.E at h1 h2 h3 h4 h5 ⊢
   unfold EV.one at ox
   unfold EV.cells at cx
   simp only at h1 h2 h3 h4 h5
   clear hg hsz hd
   repeat' first | (simp (disch := first | omega | assumption) only [go_sem, simprocAttr, *]) | refine aa0 (fun hb=>?_) fun hb=>?_ | refine aa1 (fun hb=>?_) fun hb=>?_
   all_goals (try simp only [FX] at *)
   all_goals first | omega | exact aa2 rfl rfl
end
end Abs
