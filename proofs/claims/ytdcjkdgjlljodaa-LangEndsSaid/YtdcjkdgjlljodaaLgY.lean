/- A part. -/
import Derived.Test.YtdcjkdgjlljodaaLgA
set_option linter.all false
namespace Abs
open Go
set_option maxRecDepth 20000
theorem er6 (l : List RT) : slT l = slE 8 (l.map RT.E) := by cases l <;> rfl
theorem RT.boxed {t : RT} (ht : t.Ok) : t.E.cells.length = 8 ∧ t.E.cells.all EV.one = true ∧ EV.agg t.E.cells = t.E ∧ List.take 8 t.E.cells = t.E.cells := by
 have := RT.cells t
 exact ⟨this, RT.ones ht, by cases t; rfl, List.take_of_length_le (by omega)⟩
theorem ej7 {n : Nat} : ∀ {us : List RT}, (∀ t ∈ us, t.Ok) → okL n (us.map RT.E) = true
 | [], _ => rfl
 | u :: us, h => by
  have := ej7 (n := n) (us := us) fun v hv => h v (by simp [hv])
  simp only [List.map_cons, okL, RT.ok (h u (by simp)), this, Bool.and_self]
theorem dq4 {n : Nat} : ∀ {l : List EV}, okL n l = true → ∀ x ∈ l, x.ok n = true
 | [], _, x, h => by simp at h
 | a :: l, h, x, hx => by
  simp only [okL, Bool.and_eq_true] at h
  rcases List.mem_cons.1 hx with rfl | hx
  ·exact h.1
  ·exact dq4 h.2 x hx
theorem et8 {L : Nat} {W : Heap} {k lo hi : Int} {X Y : EV} {b : Bool} (h : Abs.fz L W 6 X = some Y) : Abs.fz L W 8 (.tup [.agg [.int .i64 k, .int .u64 0, .int .u64 0, .int .u64 0, .int .u64 0, X, .int .i64 lo, .int .i64 hi], .bool b]) =
  some (.tup [.agg [.int .i64 k, .int .u64 0, .int .u64 0, .int .u64 0, .int .u64 0, Y, .int .i64 lo, .int .i64 hi], .bool b]) := by
 by_cases ho : X.ok L = true
 ·have := be3 (L := L) (H := W) (n := 6) ho
  rw [h] at this
  obtain rfl := Option.some.inj this
  exact be3 (by simp [EV.ok, okL, ho])
 ·have ho : X.ok L = false := by simpa using ho
  have i1 : ∀ (κ : IntKind) (m : Int), Abs.fz L W 6 (.int κ m) = some (.int κ m) := fun κ m => be3 rfl
  have e7 : Abs.fz L W 7 (.agg [.int .i64 k, .int .u64 0, .int .u64 0, .int .u64 0, .int .u64 0, X, .int .i64 lo, .int .i64 hi]) = some (.agg [.int .i64 k, .int .u64 0, .int .u64 0, .int .u64 0, .int .u64 0, Y, .int .i64 lo, .int .i64 hi]) := by
   unfold Abs.fz
   rw [if_neg (by simp [EV.ok, okL, ho])]
   simp only [mapO, i1, h]
   rfl
  have b7 : Abs.fz L W 7 (.bool b) = some (.bool b) := be3 rfl
  unfold Abs.fz
  rw [if_neg (by simp [EV.ok, okL, ho])]
  simp only [mapO, e7, b7]
  rfl
def owA (L k : Nat) : Nat := if k < L then 0 else if k = L then 1 else 2
theorem owA_0 (L : Nat) : owA L L = 1 := by unfold owA; rw [if_neg (by omega), if_pos rfl]
theorem owA_1 (L : Nat) : owA L (L + 1) = 2 := by unfold owA; rw [if_neg (by omega), if_neg (by omega)]
theorem dl4 : ∀ {ts : List RT} {t : RT}, t ∈ ts → szT t ≤ szL ts
 | u :: ts, t, h => by
  simp only [szL]
  rcases List.mem_cons.1 h with rfl | h
  ·omega
  ·have := dl4 h; omega
theorem dl5 : ∀ ts : List RT, ts.length ≤ szL ts
 | [] => Nat.le_refl _
 | t :: ts => by
  have := dl5 ts
  cases t with
  | mk k w x us lo hi =>
   simp only [szL, szT, List.length_cons]
   omega
theorem dd2 {ts : List RT} {i : Nat} {u : RT} (h : ts[i]? = some u) : bc6 (ts.take (i + 1)) = (bc6 (ts.take i) || bh1 u) := by
 rw [List.take_add_one, h]
 generalize ts.take i = l
 induction l with
 | nil => simp [bc6]
 | cons v l ih => simp only [List.cons_append, bc6, Option.toList_some] at ih ⊢; rw [ih, Bool.or_assoc]
theorem dd1 {ts : List RT} {u : RT} (h : u ∈ ts) (hv : bh1 u = true) : bc6 ts = true := by
 cases hc : bc6 ts with
 | true => rfl
 | false => rw [ck4 hc u h] at hv; simp at hv
theorem es5 (H G : Heap) : Bs H (H ++ G) (owA H.length) := ⟨by simp, by simp, fun k hk => by unfold owA; rw [if_pos hk]⟩
theorem ep2 {ts : List RT} {i : Nat} {u : RT} (h : ts[i]? = some u) : al1 (alL (ts.take (i + 1))) = if (alT u).2 = true then al1 (alL (ts.take i)) ++ [(alT u).1] else al1 (alL (ts.take i)) := by
 rw [List.take_add_one, h, bj7, List.map_append, ← bj7]
 unfold al1
 rw [List.filter_append, List.map_append]
 split
 ·rename_i e; simp [e]
 ·rename_i e; simp [e]
section
variable {E : Env} [R : bu5 E]
set_option maxHeartbeats 4000000 in
theorem eu5 {t : RT} (ht : t.Ok) : ah1 t = true → szT t ≤ 100000 → ∀ H, den E R.av7 [t.E] H = some (.ret (.tup [(alT t).1.E, .bool (alT t).2]), H) := by
 induction ht with
 | mk kd w x0 ts lo hi hw hx0 hts ih =>
  intro hn hsz H
  simp only [szT] at hsz
  have hsl := dl5 ts
  simp only [ah1, Bool.and_eq_true] at hn
  obtain ⟨hnb, hnl⟩ := hn
  have hm := bt4 hnl
  have hih := fun u hu => ih u hu (hm u hu) (by have := dl4 hu; omega)
  have hok := fun u hu => eu4 (hts u hu) (hm u hu)
  have lx0 := hx0.len
  rw [List.length_map] at lx0
  have lex := hx0.le
  rw [List.length_map] at lex
  have ox := hx0.one.2
  have cx := hx0.one.1
  have hxo := hx0.ok H.length
  have hself : ∀ b, EV.ok H.length (.tup [.agg [.int .i64 kd, .int .u64 (w 0 : Nat), .int .u64 (w 1 : Nat), .int .u64 (w 2 : Nat), .int .u64 (w 3 : Nat), x0, .int .i64 lo, .int .i64 hi], .bool b]) = true := fun b => by simp [EV.ok, okL, hxo]
  refine ae7 R.bm1 (by simp) ?_
  unfold Gn.bh9 Gn.ba2
  rw [show (RT.mk kd w x0 ts lo hi).E = .agg [.int .i64 kd, .int .u64 (w 0 : Nat), .int .u64 (w 1 : Nat), .int .u64 (w 2 : Nat), .int .u64 (w 3 : Nat), x0, .int .i64 lo, .int .i64 hi] from rfl]
  unfold EV.one at ox
  unfold EV.cells at cx
  clear ih
  by_cases k1 : kd = 1
  ·subst k1
   have e : alT (.mk 1 w x0 ts lo hi) = (.mk 1 w x0 ts lo hi, !zset w) := by rw [alT]; simp
   rw [e]
   rw [show (RT.mk 1 w x0 ts lo hi).E = .agg [.int .i64 1, .int .u64 (w 0 : Nat), .int .u64 (w 1 : Nat), .int .u64 (w 2 : Nat), .int .u64 (w 3 : Nat), x0, .int .i64 lo, .int .i64 hi] from rfl]
   have hz := cg2 w
   generalize zset w = z at hz ⊢
   clear hih hok hm hnl hnb
   repeat' first | (simp (disch := first | omega | assumption) only [go_sem, simprocAttr, *]) | refine aa0 (fun hb=>?_) fun hb=>?_ | refine aa1 (fun hb=>?_) fun hb=>?_
   all_goals (try simp only [FX] at *)
   all_goals first | omega | skip
   refine dc5 (h := by
    simp (disch := omega) only [go_sem, simprocAttr, dsF, fbOf, Option.getD_some, Option.getD_none, ox, cx, hz]
    exact rfl) ?_ ?_
   ·simp [cj6]
   repeat' first | (simp (disch := first | omega | assumption) only [go_sem, simprocAttr, *]) | refine aa0 (fun hb=>?_) fun hb=>?_ | refine aa1 (fun hb=>?_) fun hb=>?_
   all_goals (try simp only [FX] at *)
   exact aa4 (hself _) rfl
  by_cases k0 : kd = 0
  ·subst k0
   have e : alT (.mk 0 w x0 ts lo hi) = (.mk 0 w x0 ts lo hi, true) := by rw [alT]; simp
   rw [e]
   rw [show (RT.mk 0 w x0 ts lo hi).E = .agg [.int .i64 0, .int .u64 (w 0 : Nat), .int .u64 (w 1 : Nat), .int .u64 (w 2 : Nat), .int .u64 (w 3 : Nat), x0, .int .i64 lo, .int .i64 hi] from rfl]
   clear hih hok hm hnl hnb
   repeat' first | (simp (disch := first | omega | assumption) only [go_sem, simprocAttr, *]) | refine aa0 (fun hb=>?_) fun hb=>?_ | refine aa1 (fun hb=>?_) fun hb=>?_
   all_goals (try simp only [FX] at *)
   all_goals first | omega | skip
   exact aa4 (hself _) rfl
  by_cases k4 : kd = 4
  ·subst k4
   simp [ar9] at hnb
   obtain ⟨hn1, hz, hlo, hlo2, hhi⟩ := hnb
   match ts, hn1 with
   | [t0], _ =>
    have h0 := hih t0 (by simp)
    have hk0 := hok t0 (by simp)
    have hat := hx0.atT (i := 0) (t := t0) rfl
    have hat : bb4 8 0 x0 = some (.iptr t0.E.cells 0) := hat
    obtain ⟨hyl, hyo, hya, hyt⟩ := RT.boxed (hts t0 (by simp))
    obtain ⟨hzl, hzo, hza, hzt⟩ := RT.boxed hk0.1
    have hzok := fun n => RT.ok hk0.1 n
    have e : alT (.mk 4 w x0 [t0] lo hi) = alH [alT t0] w lo hi := by rw [alT, if_neg (by omega), if_neg (by omega), if_neg (by omega), if_pos rfl, alL, alL]
    rw [e, alH]
    clear hih hok hm hnl e
    generalize (alT t0).1 = y at h0 hzl hzo hza hzt hzok ⊢
    generalize (alT t0).2 = b at h0 ⊢
    generalize hu : t0.E = u at *
    cases b with
    | true =>
     rw [if_pos rfl]
     rw [show (RT.mk 4 w (.imm 8 [y.E]) [y] lo hi).E = .agg [.int .i64 4, .int .u64 (w 0 : Nat), .int .u64 (w 1 : Nat), .int .u64 (w 2 : Nat), .int .u64 (w 3 : Nat), .imm 8 [y.E], .int .i64 lo, .int .i64 hi] from rfl]
     generalize y.E = z at *
     unfold EV.cells at hyl hyo hya hyt hzl hzo hza hzt
     repeat' first | (simp (disch := first | omega | assumption) only [go_sem, simprocAttr, *]) | refine aa0 (fun hb=>?_) fun hb=>?_ | refine aa1 (fun hb=>?_) fun hb=>?_
     all_goals (try simp only [FX] at *)
     all_goals first | omega | skip
     exact aa4 (by simp [EV.ok, okL, hzok]) rfl
    | false =>
     rw [if_neg (by simp)]
     rw [show (RT.mk 0 (fun _ => 0) .nilsl [] 0 0).E = .agg [.int .i64 0, .int .u64 0, .int .u64 0, .int .u64 0, .int .u64 0, .nilsl, .int .i64 0, .int .i64 0] from rfl]
     generalize y.E = z at *
     unfold EV.cells at hyl hyo hya hyt hzl hzo hza hzt
     repeat' first | (simp (disch := first | omega | assumption) only [go_sem, simprocAttr, *]) | refine aa0 (fun hb=>?_) fun hb=>?_ | refine aa1 (fun hb=>?_) fun hb=>?_
     all_goals (try simp only [FX] at *)
     refine dc5 (h := by
      simp (disch := omega) only [go_sem, simprocAttr, dsF, fbOf, Option.getD_some, Option.getD_none, ox, cx, hzl, hzo, hza, hzt]
      exact rfl) ?_ ?_
     ·simp [cj6]
     repeat' first | (simp (disch := first | omega | assumption) only [go_sem, simprocAttr, *]) | refine aa0 (fun hb=>?_) fun hb=>?_ | refine aa1 (fun hb=>?_) fun hb=>?_
     all_goals (try simp only [FX] at *)
     exact aa4 rfl rfl
  have hkd : kd = 2 ∨ kd = 3 := by
   by_cases k2 : kd = 2
   ·exact .inl k2
   by_cases k3 : kd = 3
   ·exact .inr k3
   ·simp [ar9, k0, k1, k2, k3, k4] at hnb
  have hnlen : ts.length < 9223372036854775808 := by omega
  have hlist := cz1 (ts := ts) fun u hu => (hok u hu).2.2
  have hLen : (al1 (alL ts)).length ≤ ts.length := by
   have := ca2 (alL ts)
   rw [bj7] at this ⊢
   simpa using this
  have hEnd : (kd = 2 → bc6 ts = false) → alT (.mk kd w x0 ts lo hi) = (.mk kd (fun _ => 0) (slT (al1 (alL ts))) (al1 (alL ts)) 0 0, decide (0 < (al1 (alL ts)).length)) := fun hv => by
   rcases hkd with rfl | rfl
   ·rw [alT, if_neg (by omega), if_pos rfl, if_pos (by rw [hlist.1, hv rfl]; rfl)]
   ·rw [alT, if_neg (by omega), if_neg (by omega), if_pos rfl]
  have hNo : kd = 2 → bc6 ts = true → alT (.mk kd w x0 ts lo hi) = (.mk kd w x0 ts lo hi, false) := fun e hv => by
   subst e
   rw [alT, if_neg (by omega), if_pos rfl, if_neg (by rw [hlist.1, hv]; simp)]
  generalize alT (.mk kd w x0 ts lo hi) = res at hEnd hNo ⊢
  clear k0 k1 k4
  have hk1 : ((kd : Int) == 1) = false := by rcases hkd with rfl | rfl <;> rfl
  have go0 : ∀ d e : Option EB, ((H ++ [d, e])[H.length]? = some d) ∧ ((H ++ [d, e])[H.length + 1]? = some e) := fun d e => ⟨by rw [List.getElem?_append_right (by omega), Nat.sub_self]; rfl, by rw [List.getElem?_append_right (by omega), Nat.add_sub_cancel_left]; rfl⟩
  clear hnb hnl
  repeat' first | (simp (disch := first | omega | assumption) only [go_sem, simprocAttr, *]) | refine aa0 (fun hb=>?_) fun hb=>?_ | refine aa1 (fun hb=>?_) fun hb=>?_
  all_goals (try simp only [FX] at *)
  all_goals first | omega | skip
  all_goals
   refine af8 (ι := Nat × EV × Heap × (Nat → Nat)) (fun q => q.1 ≤ ts.length ∧ Bs H q.2.2.1 q.2.2.2 ∧ At q.2.2.1 q.2.2.2 1 H.length (.row 8 [.agg [.int .i64 kd, .int .u64 (w 0 : Nat), .int .u64 (w 1 : Nat), .int .u64 (w 2 : Nat), .int .u64 (w 3 : Nat), x0, .int .i64 lo, .int .i64 hi]]) ∧
     At q.2.2.1 q.2.2.2 2 (H.length + 1) (.row 8 [.agg [.int .i64 0, .int .u64 0, .int .u64 0, .int .u64 0, .int .u64 0, .nilsl, .int .i64 0, .int .i64 0]]) ∧ Hl q.2.2.1 q.2.2.2 3 8 q.2.1 ((al1 (alL (ts.take q.1))).map RT.E) ∧ (kd = 2 → bc6 (ts.take q.1) = false))
    (fun q => ts.length - q.1) (fun q => [(1, .ptr H.length 8 0 0), (2, .ptr (H.length + 1) 8 0 0), (4, q.2.1), (24, x0), (25, .int .i64 ts.length), (26, .int .i64 q.1)]) (fun q => q.2.2.1) (0, .nilsl, _, owA H.length) ?_ ?_ rfl ?_
   ·exact ⟨by simp, es5 _ _, ⟨(go0 _ _).1, owA_0 _⟩, ⟨(go0 _ _).2, owA_1 _⟩, .inl ⟨rfl, by simp [alL, al1]⟩, fun _ => by simp [bc6]⟩
   ·simp (disch := omega) only [go_sem, simprocAttr, Sl]
   clear go0
   rintro ⟨i, X, W, ow⟩ t1 ⟨hi1, hbs, ha1, ha2, hX, hvd⟩ ht K hK
   simp only at hi1 hbs ha1 ha2 hX hvd ht
   simp (disch := omega) only [go_sem, simprocAttr, Sl] at ht
   have hWl := hbs.len
   have g1 : ∀ G : Heap, (W ++ G)[H.length]? = some (some (.row 8 [.agg [.int .i64 kd, .int .u64 (w 0 : Nat), .int .u64 (w 1 : Nat), .int .u64 (w 2 : Nat), .int .u64 (w 3 : Nat), x0, .int .i64 lo, .int .i64 hi]])) := fun G => by rw [List.getElem?_append_left (aa2 ha1.1)]; exact ha1.1
   have g2 : ∀ G : Heap, (W ++ G)[H.length + 1]? = some (some (.row 8 [.agg [.int .i64 0, .int .u64 0, .int .u64 0, .int .u64 0, .int .u64 0, .nilsl, .int .i64 0, .int .i64 0]])) := fun G => by rw [List.getElem?_append_left (aa2 ha2.1)]; exact ha2.1
   have g3 := ha1.1
   have g4 := ha2.1
   obtain ⟨oX, cX⟩ := hX.one
   have lX := hX.len
   rw [List.length_map] at lX
   unfold EV.one at oX
   unfold EV.cells at cX
   by_cases hlt : i < ts.length
   ·obtain ⟨u, hu⟩ := ab2 hlt
    have hum := List.mem_of_getElem? hu
    have hat := hx0.atT hu
    have h0 := hih u hum
    have hk0 := hok u hum
    have hnx := ep2 hu
    have hvx := dd2 hu
    obtain ⟨hyl, hyo, hya, hyt⟩ := RT.boxed (hts u hum)
    obtain ⟨hzl, hzo, hza, hzt⟩ := RT.boxed hk0.1
    have b1 := hbs.new 4 (.row 8 [u.E])
    have b2 := b1.new 4 (.row 8 [(alT u).1.E])
    have k1 := Kp.new (W := W) ow 4 5 (.row 8 [u.E])
    have k2 := Kp.new (W := W ++ [some (.row 8 [u.E])]) (fun k => if k = W.length then 4 else ow k) 4 5 (.row 8 [(alT u).1.E])
    have hX2 := k2.hl (k1.hl hX (by omega)) (by omega)
    have ha12 := k2.at (k1.at ha1 (by omega)) (by omega)
    have ha22 := k2.at (k1.at ha2 (by omega)) (by omega)
    have hgl : (al1 (alL (ts.take i))).length ≤ 100000 := by
     have := ca2 (alL (ts.take i))
     rw [bj7, List.length_map, List.length_take] at this
     rw [bj7]
     omega
    generalize (fun k => if k = (W ++ [some (EB.row 8 [u.E])]).length then 4 else if k = W.length then 4 else ow k) = ow2 at b2 hX2 ha12 ha22
    simp only [List.append_assoc, List.cons_append, List.nil_append] at b2 hX2 ha12 ha22
    clear b1 k1 k2
    have hnv : bh1 u = !(alT u).2 := by rw [hk0.2.2, Bool.not_not]
    cases hb2 : (alT u).2 with
    | true =>
     rw [hb2] at h0 hnv
     rw [hb2, if_pos rfl] at hnx
     obtain ⟨X', W', ow', hap, hX', hkp, hbs'⟩ := hX2.append b2 (by omega) (alT u).1.E 80 (by omega) hzl hzo (by rw [List.length_map]; omega) (by omega)
     have go := fun s' H' => hK (i + 1, X', W', ow') s' H' ⟨by simp only; omega, hbs', hkp.at ha12 (by omega), hkp.at ha22 (by omega), by simp only; rw [hnx, List.map_append]; exact hX', fun e => by simp only; rw [hvx, hvd e, hnv]; rfl⟩ (by simp only; omega)
     clear hK hX2 hX' hkp hbs' hnx hvx hvd hih hok hm
     generalize (alT u).1.E = z at *
     generalize u.E = y at *
     unfold EV.cells at hyl hyo hya hyt hzl hzo hza hzt
     repeat' first | (simp (disch := first | omega | assumption) only [go_sem, simprocAttr, *]) | refine aa0 (fun hb=>?_) fun hb=>?_ | refine aa1 (fun hb=>?_) fun hb=>?_
     all_goals (try simp only [FX] at *)
     all_goals first | omega | skip
     refine go _ _ ?_ rfl
     simp (disch := omega) only [go_sem, simprocAttr, Sl, ht, and_self, ab0]
    | false =>
     rw [hb2] at h0 hnv
     rw [hb2, if_neg (by simp)] at hnx
     rcases hkd with e | e
     ·have hno := hNo e (dd1 hum hnv)
      rw [hno]
      rw [show (RT.mk kd w x0 ts lo hi).E = .agg [.int .i64 kd, .int .u64 (w 0 : Nat), .int .u64 (w 1 : Nat), .int .u64 (w 2 : Nat), .int .u64 (w 3 : Nat), x0, .int .i64 lo, .int .i64 hi] from rfl]
      have hfin := fun b => b2.set ha22 (by omega) b
      have g6 : ∀ b : Option EB, ((W ++ [some (EB.row 8 [u.E]), some (EB.row 8 [(alT u).1.E])]).set (H.length + 1) b)[H.length + 1]? = some b := fun b => List.getElem?_set_self (aa2 ha22.1)
      subst e
      clear hK hX2 hnx hvx hvd hih hok hm hNo hEnd hno
      generalize (alT u).1.E = z at *
      generalize u.E = y at *
      unfold EV.cells at hyl hyo hya hyt hzl hzo hza hzt
      repeat' first | (simp (disch := first | omega | assumption) only [go_sem, simprocAttr, *]) | refine aa0 (fun hb=>?_) fun hb=>?_ | refine aa1 (fun hb=>?_) fun hb=>?_
      all_goals (try simp only [FX] at *)
      all_goals first | omega | skip
      all_goals exact (hfin _).drop (hself _) rfl
     ·have go := fun s' H' => hK (i + 1, X, _, ow2) s' H' ⟨by simp only; omega, b2, ha12, ha22, by simp only; rw [hnx]; exact hX2, fun e2 => by omega⟩ (by simp only; omega)
      clear hK hX2 hnx hvx hvd hih hok hm hNo hEnd
      generalize (alT u).1.E = z at *
      generalize u.E = y at *
      unfold EV.cells at hyl hyo hya hyt hzl hzo hza hzt
      repeat' first | (simp (disch := first | omega | assumption) only [go_sem, simprocAttr, *]) | refine aa0 (fun hb=>?_) fun hb=>?_ | refine aa1 (fun hb=>?_) fun hb=>?_
      all_goals (try simp only [FX] at *)
      all_goals first | omega | skip
      all_goals refine go _ _ ?_ rfl
      all_goals simp (disch := omega) only [go_sem, simprocAttr, Sl, ht, and_self, ab0]
   ·have hie : i = ts.length := by omega
    subst hie
    rw [List.take_length] at hX hvd lX
    have hfl := fun b => hbs.set ha2 (by omega) b
    have hXs := fun b => (Kp.set ha2 b).hl hX (by omega)
    have hes : okL H.length ((al1 (alL ts)).map RT.E) = true := ej7 fun t h => by
     obtain ⟨p, h1, _, rfl⟩ := co3.1 h
     rw [bj7] at h1
     obtain ⟨u, hu, rfl⟩ := List.mem_map.1 h1
     exact (hok u hu).1
    rw [hEnd hvd]
    rw [show (RT.mk kd (fun _ => 0) (slT (al1 (alL ts))) (al1 (alL ts)) 0 0).E = .agg [.int .i64 kd, .int .u64 0, .int .u64 0, .int .u64 0, .int .u64 0, slT (al1 (alL ts)), .int .i64 0, .int .i64 0] from rfl, er6]
    have hlz : (al1 (alL ts)).length ≤ 100000 := by omega
    have hfin : ∀ b : Option EB, Abs.fz H.length (W.set (H.length + 1) b) 6 X = some (slE 8 ((al1 (alL ts)).map RT.E)) := fun b => (hXs b).fz (fun k hk => by
     rcases Nat.lt_or_ge k H.length with h | h
     ·have := hbs.ow0 k h; omega
     ·exact h) (bh8 fun x hx => be3 (dq4 hes x hx))
    generalize slE 8 ((al1 (alL ts)).map RT.E) = Y at hfin ⊢
    generalize (al1 (alL ts)).length = m at hlz lX ⊢
    have g5 : ∀ b : Option EB, (W.set (H.length + 1) b)[H.length + 1]? = some b := fun b => List.getElem?_set_self (aa2 ha2.1)
    clear hK hXs hes hNo hEnd hih hok hm hX
    repeat' first | (simp (disch := first | omega | assumption) only [go_sem, simprocAttr, *]) | refine aa0 (fun hb=>?_) fun hb=>?_ | refine aa1 (fun hb=>?_) fun hb=>?_
    all_goals (try simp only [FX] at *)
    all_goals first | omega | skip
    exact (hfl _).fz rfl (et8 (hfin _)) (by simp)
end
def dg6 (l : List Int) : Int := l.getLast?.getD (-1)
theorem ds1 {l : List Int} (h : l ≠ []) : l[l.length - 1]? = some (dg6 l) := by
 unfold dg6
 rw [← List.getLast?_eq_getElem?]
 obtain ⟨v, hv⟩ := Option.isSome_iff_exists.1 (by rw [List.getLast?_isSome]; exact h)
 rw [hv]; rfl
section
variable {E : Env} [R : bu5 E]
theorem cv2 (hH : bk2 E R.an5 .u8) (hS : bf2 E R.ab3) {t : RT} (ht : t.Ok) (hm : mayT t = true) (s : List UInt8) (hs : s.length ≤ 100000) (H : Heap) :
  den E R.at6 [t.E, .str s] H = some (.ret (.int .i64 (dg6 (posL 0 (ab5 s t (atL s.length 0))))), H) := by
 obtain ⟨y, h1, h4⟩ := bl7 (E := E) hH hS ht hm s hs 0 (by omega) (H ++ [some (.row 8 [t.E])])
 rw [show ((0 : Nat) : Int) = 0 from rfl] at h1
 have lf := h4.lenI
 have hll : (posL 0 (ab5 s t (atL s.length 0))).length ≤ 1000000 := by
  have := (bb8 s ht).len _ (bg9 s.length 0)
  have h4 := az1 (ab5 s t (atL s.length 0))
  rw [ar2]
  omega
 generalize posL 0 (ab5 s t (atL s.length 0)) = l at h1 h4 lf hll ⊢
 obtain ⟨cy, oy⟩ := h4.one
 by_cases he : l = []
 ·subst he
  rw [show dg6 [] = -1 from rfl]
  cases ht with
  | mk kd w x0 ts lo hi hw hx0 hts =>
  obtain ⟨cx, ox⟩ := hx0.one
  refine ae7 R.az5 (by simp) ?_
  unfold Gn.av8 Gn.aq8
  unfold RT.E at h1 ⊢
  unfold EV.one at ox oy
  unfold EV.cells at cx cy
  simp only [List.length_nil] at h1 lf
  repeat' first | (simp (disch := first | omega | assumption) only [go_sem, simprocAttr, *]) | refine aa0 (fun hb=>?_) fun hb=>?_ | refine aa1 (fun hb=>?_) fun hb=>?_
  all_goals (try simp only [FX] at *)
  all_goals first | omega | exact aa4 rfl rfl
 ·have hg := ds1 he
  have hlp := List.length_pos_iff.2 he
  have hat := h4.at hg
  rw [show ((l.length - 1 : Nat) : Int) = (l.length : Int) - 1 by omega] at hat
  generalize dg6 l = r at hat hg ⊢
  cases ht with
  | mk kd w x0 ts lo hi hw hx0 hts =>
  obtain ⟨cx, ox⟩ := hx0.one
  refine ae7 R.az5 (by simp) ?_
  unfold Gn.av8 Gn.aq8
  unfold RT.E at h1 ⊢
  unfold EV.one at ox oy
  unfold EV.cells at cx cy
  simp only at h1
  repeat' first | (simp (disch := first | omega | assumption) only [go_sem, simprocAttr, *]) | refine aa0 (fun hb=>?_) fun hb=>?_ | refine aa1 (fun hb=>?_) fun hb=>?_
  all_goals (try simp only [FX] at *)
  all_goals first | omega | exact aa4 rfl rfl
end
theorem db6 {p : Int → Bool} : ∀ {l : List Int} {i : Int}, 0 ≤ i → decide (0 ≤ idxI p l i) = l.any p
 | [], i, h => by simp [idxI]
 | v :: l, i, h => by
  have ih := db6 (p := p) (l := l) (i := i + 1) (by omega)
  rw [List.any_cons]
  by_cases hp : p v = true
  ·have e : idxI p (v :: l) i = i := by simp [idxI, hp]
   rw [e, hp, Bool.true_or]; exact decide_eq_true h
  ·have hp' : p v = false := by simpa using hp
   have e : idxI p (v :: l) i = idxI p l (i + 1) := by simp [idxI, hp']
   rw [e, hp', Bool.false_or]; exact ih
theorem ep1 (v : Int) (l : List Int) : l.any (fun u => v == u) = decide (v ∈ l) := by
 rw [Bool.eq_iff_iff, List.any_eq_true, decide_eq_true_eq]
 constructor
 ·rintro ⟨u, h1, h2⟩
  rw [beq_iff_eq] at h2
  exact h2 ▸ h1
 ·intro h
  exact ⟨v, h, by simp⟩
section
variable {E : Env} [R : SlcR E]
theorem ds7 (x : EV) (l : List Int) (hx : an2 x l) (v : Int) (H : Heap) (hl : l.length ≤ 1000000) :
  den E R.ai2 [x, .int .i64 v] H = some (.ret (.int .i64 (idxI (fun u => v == u) l 0)), H) := by
 have lx := hx.lenI
 obtain ⟨cx, ox⟩ := hx.one
 refine ae7 R.ar1 (by simp) ?_
 unfold Gn.aj6 Gn.ai1
 unfold EV.one at ox
 unfold EV.cells at cx
 simp (disch := omega) only [go_sem, simprocAttr, *]
 refine af8 (ι := Nat) (fun i => i ≤ l.length ∧ idxI (fun u => v == u) l 0 = idxI (fun u => v == u) (l.drop i) i) (fun i => l.length - i) (fun i => [(0, x), (1, .int .i64 v), (7, .int .i64 l.length), (8, .int .i64 i)]) (fun _ => H) 0 ⟨by omega, rfl⟩ ?_ rfl ?_
 ·simp (disch := omega) only [go_sem, simprocAttr, Sl]
 ·rintro i t ⟨hi, hr⟩ ht K hK
  simp (disch := omega) only [go_sem, simprocAttr, Sl] at ht
  by_cases hlt : i < l.length
  ·obtain ⟨u, hu⟩ := ab2 hlt
   have hat := hx.at hu
   rw [bs5 hu] at hr
   simp only [idxI] at hr
   have go : (v == u) = false → _ := fun h s' H' => hK (i + 1) s' H' ⟨by omega, by rw [hr, if_neg (by simp [h])]; rfl⟩ (by omega)
   by_cases hp : (v == u) = true
   ·rw [if_pos hp] at hr
    rw [hr]
    clear go hK hr
    repeat' first | (simp (disch := first | omega | assumption) only [go_sem, simprocAttr, *]) | refine aa0 (fun hb=>?_) fun hb=>?_ | refine aa1 (fun hb=>?_) fun hb=>?_
    all_goals (try simp only [FX] at *)
    all_goals first | omega | skip
    all_goals exact ac8 rfl rfl
   ·have hp : (v == u) = false := by simpa using hp
    replace go := go hp
    clear hK hr
    repeat' first | (simp (disch := first | omega | assumption) only [go_sem, simprocAttr, *]) | refine aa0 (fun hb=>?_) fun hb=>?_ | refine aa1 (fun hb=>?_) fun hb=>?_
    all_goals (try simp only [FX] at *)
    all_goals first | omega | skip
    all_goals refine go _ _ ?_ rfl
    all_goals simp (disch := omega) only [go_sem, simprocAttr, Sl, ht, and_self, ab0]
  ·have : i = l.length := by omega
   subst this
   have he : idxI (fun u => v == u) l 0 = -1 := by rw [hr]; simp [idxI]
   rw [he]
   clear hK hr
   repeat' first | (simp (disch := first | omega | assumption) only [go_sem, simprocAttr, *]) | refine aa0 (fun hb=>?_) fun hb=>?_ | refine aa1 (fun hb=>?_) fun hb=>?_
   all_goals (try simp only [FX] at *)
   all_goals first | omega | skip
   exact ac8 rfl rfl
theorem cq5 (x : EV) (l : List Int) (hx : an2 x l) (v : Int) (H : Heap) (hl : l.length ≤ 1000000) :
  den E R.ag2 [x, .int .i64 v] H = some (.ret (.bool (decide (v ∈ l))), H) := by
 have h1 := fun H => ds7 (E := E) x l hx v H hl
 have h2 := db6 (p := fun u => v == u) (l := l) (i := 0) (by omega)
 rw [ep1] at h2
 rw [← h2]
 clear h2
 generalize idxI (fun u => v == u) l 0 = k at h1 ⊢
 obtain ⟨cx, ox⟩ := hx.one
 refine ae7 R.an1 (by simp) ?_
 unfold Gn.ah0 Gn.ag1
 unfold EV.one at ox
 unfold EV.cells at cx
 repeat' first | (simp (disch := first | omega | assumption) only [go_sem, simprocAttr, *]) | refine aa0 (fun hb=>?_) fun hb=>?_ | refine aa1 (fun hb=>?_) fun hb=>?_
 all_goals (try simp only [FX] at *)
 exact ac8 rfl rfl
end
def ee4 (s : List UInt8) (t : RT) : Bool := (alT t).2 && (bg6 s (alT t).1 (atL s.length 0) || (ab5 s (alT t).1 (atL s.length 0)).getD s.length false)
section
variable {E : Env} [R : bu5 E]
set_option maxHeartbeats 1000000 in
theorem ca0 (hH : bk2 E R.an5 .u8) (hS : bf2 E R.ab3) {t : RT} (ht : t.Ok) (hz : szT t ≤ 100000) (s : List UInt8) (hs : s.length ≤ 100000) (H : Heap) :
  den E R.aw3 [t.E, .str s] H = some (.ret (.bool (mayT t && ee4 s t)), H) := by
 have h1 := fun H => ch9 (E := E) ht H
 cases hm : mayT t with
 | false =>
  rw [hm] at h1
  cases ht with
  | mk kd w x0 ts lo hi hw hx0 hts =>
  obtain ⟨cx, ox⟩ := hx0.one
  refine ae7 R.bb9 (by simp) ?_
  unfold Gn.ay5 Gn.as8
  unfold RT.E at h1 ⊢
  unfold EV.one at ox
  unfold EV.cells at cx
  simp only at h1
  repeat' first | (simp (disch := first | omega | assumption) only [go_sem, simprocAttr, *]) | refine aa0 (fun hb=>?_) fun hb=>?_ | refine aa1 (fun hb=>?_) fun hb=>?_
  all_goals (try simp only [FX] at *)
  exact aa4 rfl rfl
 | true =>
  rw [hm] at h1
  have hn : ah1 t = true := by
   unfold mayT at hm
   simp only [Bool.and_eq_true] at hm
   exact hm.2.2
  have h2 := eu5 (E := E) ht hn hz
  obtain ⟨xok, xfit, _⟩ := eu4 ht hn
  have hA : an2 (.imm 1 [.int .i64 0]) (posL 0 (atL s.length 0)) := by
   rw [do7 _ _ (by omega)]
   exact bn4 (l := [(0 : Int)]) (by simp)
  unfold ee4
  obtain ⟨xl, xo, xa, xt⟩ := RT.boxed xok
  obtain ⟨y, h3, h4⟩ := cn2 (E := E) hH hS s hs xok xfit (.imm 1 [.int .i64 0]) (atL s.length 0) (H.length + 2) false (H ++ [some (.row 8 [t.E]), some (.row 8 [(alT t).1.E]), some (.row 2 [.agg [.str s, .bool false]])]) hA (bg9 _ _) (by rw [List.getElem?_append_right (by omega), Nat.add_sub_cancel_left]; rfl)
  rw [List.set_append_right _ _ (by omega), Nat.add_sub_cancel_left] at h3
  simp only [List.set_cons_succ, List.set_cons_zero, Bool.false_or] at h3
  have hel := (bb8 s xok).len _ (bg9 s.length 0)
  have hll : (posL 0 (ab5 s (alT t).1 (atL s.length 0))).length ≤ 1000000 := by
   have h4 := az1 (ab5 s (alT t).1 (atL s.length 0))
   rw [ar2]
   omega
  have h5 := fun H => cq5 (E := E) y _ h4 (s.length : Int) H hll
  have hmem : decide ((s.length : Int) ∈ posL 0 (ab5 s (alT t).1 (atL s.length 0))) = (ab5 s (alT t).1 (atL s.length 0)).getD s.length false := by
   rw [Bool.eq_iff_iff, decide_eq_true_eq, an3]
   constructor
   ·rintro ⟨i, h, e⟩
    obtain rfl : i = s.length := by omega
    exact h
   ·intro h
    exact ⟨s.length, h, by omega⟩
  rw [hmem] at h5
  generalize (ab5 s (alT t).1 (atL s.length 0)).getD s.length false = q at h5 ⊢
  generalize bg6 s (alT t).1 (atL s.length 0) = op at h3 ⊢
  generalize posL 0 (ab5 s (alT t).1 (atL s.length 0)) = l at h4
  obtain ⟨cy, oy⟩ := h4.one
  generalize (alT t).2 = b at h2 ⊢
  generalize (alT t).1.E = z at *
  cases ht with
  | mk kd w x0 ts lo hi hw hx0 hts =>
  obtain ⟨cx, ox⟩ := hx0.one
  refine ae7 R.bb9 (by simp) ?_
  unfold Gn.ay5 Gn.as8
  unfold RT.E at h1 h2 h3 ⊢
  unfold EV.one at ox oy
  unfold EV.cells at cx cy xl xo xa xt
  simp only at h1 h2 h3
  clear hA hn hz hll hmem h4 hel
  cases b with
  | false =>
   repeat' first | (simp (disch := first | omega | assumption) only [go_sem, simprocAttr, *]) | refine aa0 (fun hb=>?_) fun hb=>?_ | refine aa1 (fun hb=>?_) fun hb=>?_
   all_goals (try simp only [FX] at *)
   exact aa4 rfl rfl
  | true =>
   cases op with
   | true =>
    repeat' first | (simp (disch := first | omega | assumption) only [go_sem, simprocAttr, *]) | refine aa0 (fun hb=>?_) fun hb=>?_ | refine aa1 (fun hb=>?_) fun hb=>?_
    all_goals (try simp only [FX] at *)
    exact aa4 rfl rfl
   | false =>
    repeat' first | (simp (disch := first | omega | assumption) only [go_sem, simprocAttr, *]) | refine aa0 (fun hb=>?_) fun hb=>?_ | refine aa1 (fun hb=>?_) fun hb=>?_
    all_goals (try simp only [FX] at *)
    exact aa4 rfl rfl
end
def wA : Nat → Nat := fun i => if i = 1 then 8589934592 else 0
def wB : Nat → Nat := fun i => if i = 1 then 17179869184 else 0
def bj2 (w : Nat → Nat) : RT := .mk 1 w .nilsl [] 0 0
def abT : RT := .mk 4 (fun _ => 0) (.imm 8 [(RT.mk 2 (fun _ => 0) (.imm 8 [(bj2 wA).E, (bj2 wB).E]) [bj2 wA, bj2 wB] 0 0).E]) [.mk 2 (fun _ => 0) (.imm 8 [(bj2 wA).E, (bj2 wB).E]) [bj2 wA, bj2 wB] 0 0] 0 (-1)
theorem ci1 {w : Nat → Nat} (h : bp6 w) : (bj2 w).Ok := .mk _ _ _ _ _ _ h .nil fun t h => by simp at h
theorem er1 : bp6 wA := fun i => by unfold wA; split <;> omega
theorem er0 : bp6 wB := fun i => by unfold wB; split <;> omega
theorem dc4 : abT.Ok := by
 have h : (RT.mk 2 (fun _ => 0) (.imm 8 [(bj2 wA).E, (bj2 wB).E]) [bj2 wA, bj2 wB] 0 0).Ok := .mk _ _ _ _ _ _ cz6 (.imm (es := [(bj2 wA).E, (bj2 wB).E]) (fun n => by simp [okL, RT.ok (ci1 er1), RT.ok (ci1 er0)]) (by simp)) fun t h => by
  simp only [List.mem_cons, List.not_mem_nil, or_false] at h
  rcases h with rfl | rfl
  ·exact ci1 er1
  ·exact ci1 er0
 exact .mk _ _ _ _ _ _ cz6 (.imm (es := [(RT.mk 2 (fun _ => 0) (.imm 8 [(bj2 wA).E, (bj2 wB).E]) [bj2 wA, bj2 wB] 0 0).E]) (fun n => by simp [okL, RT.ok h]) (by simp)) fun t ht => by
  simp only [List.mem_cons, List.not_mem_nil, or_false] at ht
  subst ht
  exact h
section
variable {E : Env} [R : AliR E]
structure dy9 (E : Env) (f : FuncId) : Prop where
 a : ∀ H, den E f [.int .i64 97, .int .i64 97] H = some (.ret (.agg [.int .u64 0, .int .u64 8589934592, .int .u64 0, .int .u64 0]), H)
 b : ∀ H, den E f [.int .i64 98, .int .i64 98] H = some (.ret (.agg [.int .u64 0, .int .u64 17179869184, .int .u64 0, .int .u64 0]), H)
theorem eu6 (hG : dy9 E R.ap0) (H : Heap) : den E R.au4 [] H = some (.ret abT.E, H) := by
 have h1 := hG.a
 have h2 := hG.b
 refine ae7 R.bk0 (by simp) ?_
 unfold Gn.au1 Gn.aq5
 repeat' first | (simp (disch := first | omega | assumption) only [go_sem, simprocAttr, *]) | refine aa0 (fun hb=>?_) fun hb=>?_ | refine aa1 (fun hb=>?_) fun hb=>?_
 all_goals (try simp only [FX] at *)
 exact aa4 rfl rfl
set_option maxHeartbeats 1000000 in
theorem cz0 (hG : dy9 E R.ap0) (hH : bk2 E R.an5 .u8) (hS : bf2 E R.ab3) (H : Heap) : den E R.ag5 [] H = some (.ret (.bool true), H) := by
 have h1 := fun H => eu6 (E := E) hG H
 have hm : mayT abT = true := by decide +kernel
 obtain ⟨y, h2, h3⟩ := bl7 (E := E) hH hS dc4 hm [97, 98, 97, 98, 97] (by simp) 0 (by simp) H
 have e3 : posL 0 (ab5 [97, 98, 97, 98, 97] abT (atL ([97, 98, 97, 98, 97] : List UInt8).length 0)) = [0, 2, 4] := by decide +kernel
 rw [e3] at h3
 rw [show ((0 : Nat) : Int) = 0 from rfl] at h2
 have h4 := fun H => cd5 (E := E) y (.imm 1 [.int .i64 0, .int .i64 2, .int .i64 4]) [0, 2, 4] [0, 2, 4] h3 (bn4 (l := [0, 2, 4]) (by simp)) (by simp) (by simp) H
 rw [decide_eq_true rfl] at h4
 have h5 := fun H => cv2 (E := E) hH hS dc4 hm [97, 98, 98] (by simp) H
 have e5 : dg6 (posL 0 (ab5 [97, 98, 98] abT (atL ([97, 98, 98] : List UInt8).length 0))) = 2 := by decide +kernel
 rw [e5] at h5
 have h6 := fun H => ca0 (E := E) hH hS dc4 (by decide +kernel) [97, 98, 97] (by simp) H
 have e6 : (mayT abT && ee4 [97, 98, 97] abT) = true := by decide +kernel
 rw [e6] at h6
 have h7 := fun H => ca0 (E := E) hH hS dc4 (by decide +kernel) [97, 98, 98] (by simp) H
 have e7 : (mayT abT && ee4 [97, 98, 98] abT) = false := by decide +kernel
 rw [e7] at h7
 obtain ⟨cy, oy⟩ := h3.one
 unfold EV.one at oy
 unfold EV.cells at cy
 clear hm e3 e5 e6 e7 h3
 generalize abT.E = z at *
 refine ae7 R.be8 (by simp) ?_
 unfold Gn.ao4 Gn.ak5
 repeat' first | (simp (disch := first | omega | assumption) only [go_sem, simprocAttr, *]) | refine aa0 (fun hb=>?_) fun hb=>?_ | refine aa1 (fun hb=>?_) fun hb=>?_
 all_goals (try simp only [FX] at *)
 exact ac8 rfl rfl
end
section
variable {E : Env} [R : LawE E]
set_option maxHeartbeats 2000000 in
theorem bz9 (hAl : ∀ H, den E R.ag5 [] H = some (.ret (.bool true), H)) (hR : bk2 E R.ai5 .i64) (hH : bk2 E R.an5 .u8) (hS : bf2 E R.ab3) {t : RT} (ht : t.Ok) (s : List UInt8) (p : Int) (H : Heap) :
  den E R.ar0 [t.E, .str s, .int .i64 p] H = some (.ret (.bool true), H) := by
 have h1 := fun H => ds8 (E := E) ht H
 have hsz := ee9 (t := t)
 generalize co1 t = hv at h1 hsz
 by_cases hg : hv = true ∨ s.length > 40
 ·cases ht with
  | mk kd w x0 ts lo hi hw hx0 hts =>
  obtain ⟨cx, ox⟩ := hx0.one
  refine ae7 R.ak8 (by simp) ?_
  unfold Gn.af7 Gn.ae3
  unfold RT.E at h1 ⊢
  unfold EV.one at ox
  unfold EV.cells at cx
  simp only at h1
  clear hsz
  cases hv with
  | true =>
   repeat' first | (simp (disch := first | omega | assumption) only [go_sem, simprocAttr, *]) | refine aa0 (fun hb=>?_) fun hb=>?_ | refine aa1 (fun hb=>?_) fun hb=>?_
   all_goals (try simp only [FX] at *)
   all_goals first | omega | exact aa4 rfl rfl
  | false =>
   have hl : s.length > 40 := by simpa using hg
   repeat' first | (simp (disch := first | omega | assumption) only [go_sem, simprocAttr, *]) | refine aa0 (fun hb=>?_) fun hb=>?_ | refine aa1 (fun hb=>?_) fun hb=>?_
   all_goals (try simp only [FX] at *)
   all_goals first | omega | exact aa4 rfl rfl
 ·have hv0 : hv = false := by cases hv <;> simp at hg ⊢
  have hs : s.length ≤ 40 := by omega
  subst hv0
  have hsz := hsz rfl
  have hd := eu0 t
  have h2 := fun H => dr3 (E := E) ht (by omega) H
  rw [← et3 (by omega)] at h2
  by_cases hm : mayT t = true ∧ 0 ≤ p ∧ p ≤ s.length
  ·obtain ⟨hm, hp0, hp1⟩ := hm
   obtain ⟨q, rfl⟩ : ∃ q : Nat, p = q := ⟨p.toNat, by omega⟩
   have hq : q ≤ s.length := by omega
   have hn : ah1 t = true := by
    unfold mayT at hm
    simp only [Bool.and_eq_true] at hm
    exact hm.2.2
   obtain ⟨y, h3, h4⟩ := bl7 (E := E) hH hS ht hm s (by omega) q hq (H ++ [some (.row 8 [t.E])])
   have h5 := fun H => ct6 (E := E) hR ht hn s (by omega) q hq H
   have hll := (bb8 s ht).len _ (bg9 s.length q)
   have hV := ec5 (m := s.length + 1) (by omega) hll
   have hpl : (posL 0 (ab5 s t (atL s.length q))).length ≤ 1000000 := by
    have := az1 (ab5 s t (atL s.length q))
    rw [ar2]
    omega
   have h6 := fun H => cd5 (E := E) y _ _ _ h4 hV hpl hpl H
   rw [decide_eq_true rfl] at h6
   generalize outV (posL 0 (ab5 s t (atL s.length q))) = z at h5 h6 hV
   generalize posL 0 (ab5 s t (atL s.length q)) = l at h4 hV
   obtain ⟨cy, oy⟩ := h4.one
   obtain ⟨cz, oz⟩ := hV.one
   rw [hm] at h2
   cases ht with
   | mk kd w x0 ts lo hi hw hx0 hts =>
   obtain ⟨cx, ox⟩ := hx0.one
   refine ae7 R.ak8 (by simp) ?_
   unfold Gn.af7 Gn.ae3
   unfold RT.E at h1 h2 h3 h5 ⊢
   unfold EV.one at ox oy oz
   unfold EV.cells at cx cy cz
   simp only at h1 h2 h3 h5
   clear hg hsz hd hm hn hll hpl h4 hV
   repeat' first | (simp (disch := first | omega | assumption) only [go_sem, simprocAttr, *]) | refine aa0 (fun hb=>?_) fun hb=>?_ | refine aa1 (fun hb=>?_) fun hb=>?_
   all_goals (try simp only [FX] at *)
   all_goals first | omega | exact aa4 rfl rfl
  ·have h3 := fun H => cv3 (E := E) ht s (by omega) p hm H
   generalize mayT t = m at h2 hm
   cases ht with
   | mk kd w x0 ts lo hi hw hx0 hts =>
   obtain ⟨cx, ox⟩ := hx0.one
   refine ae7 R.ak8 (by simp) ?_
   unfold Gn.af7 Gn.ae3
   unfold RT.E at h1 h2 h3 ⊢
   unfold EV.one at ox
   unfold EV.cells at cx
   simp only at h1 h2 h3
   clear hg hsz hd
   cases m with
   | false =>
    repeat' first | (simp (disch := first | omega | assumption) only [go_sem, simprocAttr, *]) | refine aa0 (fun hb=>?_) fun hb=>?_ | refine aa1 (fun hb=>?_) fun hb=>?_
    all_goals (try simp only [FX] at *)
    all_goals first | omega | exact aa4 rfl rfl
   | true =>
    simp only [true_and] at hm
    by_cases hp : p < 0
    ·repeat' first | (simp (disch := first | omega | assumption) only [go_sem, simprocAttr, *]) | refine aa0 (fun hb=>?_) fun hb=>?_ | refine aa1 (fun hb=>?_) fun hb=>?_
     all_goals (try simp only [FX] at *)
     all_goals first | omega | exact aa4 rfl rfl
    ·have hp2 : p > s.length := by omega
     repeat' first | (simp (disch := first | omega | assumption) only [go_sem, simprocAttr, *]) | refine aa0 (fun hb=>?_) fun hb=>?_ | refine aa1 (fun hb=>?_) fun hb=>?_
     all_goals (try simp only [FX] at *)
     all_goals first | omega | exact aa4 rfl rfl
end
end Abs
