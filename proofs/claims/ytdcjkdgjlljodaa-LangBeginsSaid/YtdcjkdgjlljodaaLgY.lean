/- A part. -/
import Derived.Test.YtdcjkdgjlljodaaLgA
set_option linter.all false
namespace Abs
open Go
set_option maxRecDepth 20000
theorem et6 (l : List RT) : slT l = slE 8 (l.map RT.E) := by cases l <;> rfl
theorem RT.boxed {t : RT} (ht : t.Ok) : t.E.cells.length = 8 ∧ t.E.cells.all EV.one = true ∧ EV.agg t.E.cells = t.E ∧ List.take 8 t.E.cells = t.E.cells := by
 have := RT.cells t
 exact ⟨this, RT.ones ht, by cases t; rfl, List.take_of_length_le (by omega)⟩
theorem el1 {n : Nat} : ∀ {us : List RT}, (∀ t ∈ us, t.Ok) → okL n (us.map RT.E) = true
 | [], _ => rfl
 | u :: us, h => by
  have := el1 (n := n) (us := us) fun v hv => h v (by simp [hv])
  simp only [List.map_cons, okL, RT.ok (h u (by simp)), this, Bool.and_self]
theorem dr3 {n : Nat} : ∀ {l : List EV}, okL n l = true → ∀ x ∈ l, x.ok n = true
 | [], _, x, h => by simp at h
 | a :: l, h, x, hx => by
  simp only [okL, Bool.and_eq_true] at h
  rcases List.mem_cons.1 hx with rfl | hx
  ·exact h.1
  ·exact dr3 h.2 x hx
theorem ev4 {L : Nat} {W : Heap} {k lo hi : Int} {X Y : EV} {b : Bool} (h : Abs.fz L W 6 X = some Y) : Abs.fz L W 8 (.tup [.agg [.int .i64 k, .int .u64 0, .int .u64 0, .int .u64 0, .int .u64 0, X, .int .i64 lo, .int .i64 hi], .bool b]) =
  some (.tup [.agg [.int .i64 k, .int .u64 0, .int .u64 0, .int .u64 0, .int .u64 0, Y, .int .i64 lo, .int .i64 hi], .bool b]) := by
 by_cases ho : X.ok L = true
 ·have := bg6 (L := L) (H := W) (n := 6) ho
  rw [h] at this
  obtain rfl := Option.some.inj this
  exact bg6 (by simp [EV.ok, okL, ho])
 ·have ho : X.ok L = false := by simpa using ho
  have i1 : ∀ (κ : IntKind) (m : Int), Abs.fz L W 6 (.int κ m) = some (.int κ m) := fun κ m => bg6 rfl
  have e7 : Abs.fz L W 7 (.agg [.int .i64 k, .int .u64 0, .int .u64 0, .int .u64 0, .int .u64 0, X, .int .i64 lo, .int .i64 hi]) = some (.agg [.int .i64 k, .int .u64 0, .int .u64 0, .int .u64 0, .int .u64 0, Y, .int .i64 lo, .int .i64 hi]) := by
   unfold Abs.fz
   rw [if_neg (by simp [EV.ok, okL, ho])]
   simp only [mapO, i1, h]
   rfl
  have b7 : Abs.fz L W 7 (.bool b) = some (.bool b) := bg6 rfl
  unfold Abs.fz
  rw [if_neg (by simp [EV.ok, okL, ho])]
  simp only [mapO, e7, b7]
  rfl
def owA (L k : Nat) : Nat := if k < L then 0 else if k = L then 1 else 2
theorem owA_0 (L : Nat) : owA L L = 1 := by unfold owA; rw [if_neg (by omega), if_pos rfl]
theorem owA_1 (L : Nat) : owA L (L + 1) = 2 := by unfold owA; rw [if_neg (by omega), if_neg (by omega)]
theorem dm4 : ∀ {ts : List RT} {t : RT}, t ∈ ts → szT t ≤ szL ts
 | u :: ts, t, h => by
  simp only [szL]
  rcases List.mem_cons.1 h with rfl | h
  ·omega
  ·have := dm4 h; omega
theorem dm5 : ∀ ts : List RT, ts.length ≤ szL ts
 | [] => Nat.le_refl _
 | t :: ts => by
  have := dm5 ts
  cases t with
  | mk k w x us lo hi =>
   simp only [szL, szT, List.length_cons]
   omega
theorem de0 {ts : List RT} {i : Nat} {u : RT} (h : ts[i]? = some u) : ay0 (ts.take (i + 1)) = (ay0 (ts.take i) || ai5 u) := by
 rw [List.take_add_one, h]
 generalize ts.take i = l
 induction l with
 | nil => simp [ay0]
 | cons v l ih => simp only [List.cons_append, ay0, Option.toList_some] at ih ⊢; rw [ih, Bool.or_assoc]
theorem dd9 {ts : List RT} {u : RT} (h : u ∈ ts) (hv : ai5 u = true) : ay0 ts = true := by
 cases hc : ay0 ts with
 | true => rfl
 | false => rw [bq2 hc u h] at hv; simp at hv
theorem eu2 (H G : Heap) : Bs H (H ++ G) (owA H.length) := ⟨by simp, by simp, fun k hk => by unfold owA; rw [if_pos hk]⟩
theorem er3 {ts : List RT} {i : Nat} {u : RT} (h : ts[i]? = some u) : ag3 (alL (ts.take (i + 1))) = if (alT u).2 = true then ag3 (alL (ts.take i)) ++ [(alT u).1] else ag3 (alL (ts.take i)) := by
 rw [List.take_add_one, h, bk4, List.map_append, ← bk4]
 unfold ag3
 rw [List.filter_append, List.map_append]
 split
 ·rename_i e; simp [e]
 ·rename_i e; simp [e]
section
variable {E : Env} [R : bv0 E]
set_option maxHeartbeats 4000000 in
theorem ev8 {t : RT} (ht : t.Ok) : aj3 t = true → szT t ≤ 100000 → ∀ H, den E R.aw2 [t.E] H = some (.ret (.tup [(alT t).1.E, .bool (alT t).2]), H) := by
 induction ht with
 | mk kd w x0 ts lo hi hw hx0 hts ih =>
  intro hn hsz H
  simp only [szT] at hsz
  have hsl := dm5 ts
  simp only [aj3, Bool.and_eq_true] at hn
  obtain ⟨hnb, hnl⟩ := hn
  have hm := bh7 hnl
  have hih := fun u hu => ih u hu (hm u hu) (by have := dm4 hu; omega)
  have hok := fun u hu => dk8 (hts u hu) (hm u hu)
  have lx0 := hx0.len
  rw [List.length_map] at lx0
  have lex := hx0.le
  rw [List.length_map] at lex
  have ox := hx0.one.2
  have cx := hx0.one.1
  have hxo := hx0.ok H.length
  have hself : ∀ b, EV.ok H.length (.tup [.agg [.int .i64 kd, .int .u64 (w 0 : Nat), .int .u64 (w 1 : Nat), .int .u64 (w 2 : Nat), .int .u64 (w 3 : Nat), x0, .int .i64 lo, .int .i64 hi], .bool b]) = true := fun b => by simp [EV.ok, okL, hxo]
  refine ag1 R.bm7 (by simp) ?_
  unfold Gn.bh9 Gn.ba1
  rw [show (RT.mk kd w x0 ts lo hi).E = .agg [.int .i64 kd, .int .u64 (w 0 : Nat), .int .u64 (w 1 : Nat), .int .u64 (w 2 : Nat), .int .u64 (w 3 : Nat), x0, .int .i64 lo, .int .i64 hi] from rfl]
  unfold EV.one at ox
  unfold EV.cells at cx
  clear ih
  by_cases k1 : kd = 1
  ·subst k1
   have e : alT (.mk 1 w x0 ts lo hi) = (.mk 1 w x0 ts lo hi, !zset w) := by rw [alT]; simp
   rw [e]
   rw [show (RT.mk 1 w x0 ts lo hi).E = .agg [.int .i64 1, .int .u64 (w 0 : Nat), .int .u64 (w 1 : Nat), .int .u64 (w 2 : Nat), .int .u64 (w 3 : Nat), x0, .int .i64 lo, .int .i64 hi] from rfl]
   have hz := da1 w
   generalize zset w = z at hz ⊢
   clear hih hok hm hnl hnb
   repeat' first | (simp (disch := first | omega | assumption) only [go_sem, simprocAttr, *]) | refine aa0 (fun hb=>?_) fun hb=>?_ | refine aa1 (fun hb=>?_) fun hb=>?_
   all_goals (try simp only [FX] at *)
   all_goals first | omega | skip
   refine dd3 (h := by
    simp (disch := omega) only [go_sem, simprocAttr, dsF, fbOf, Option.getD_some, Option.getD_none, ox, cx, hz]
    exact rfl) ?_ ?_
   ·simp [ck8]
   repeat' first | (simp (disch := first | omega | assumption) only [go_sem, simprocAttr, *]) | refine aa0 (fun hb=>?_) fun hb=>?_ | refine aa1 (fun hb=>?_) fun hb=>?_
   all_goals (try simp only [FX] at *)
   exact aa4 (hself _) rfl
  by_cases k0 : kd = 0
  ·subst k0
   have e : alT (.mk 0 w x0 ts lo hi) = (.mk 0 w x0 ts lo hi, true) := by rw [alT]; simp
   rw [e]
   rw [show (RT.mk 0 w x0 ts lo hi).E = .agg [.int .i64 0, .int .u64 (w 0 : Nat), .int .u64 (w 1 : Nat), .int .u64 (w 2 : Nat), .int .u64 (w 3 : Nat), x0, .int .i64 lo, .int .i64 hi] from rfl]
   clear hih hok hm hnl hnb
   repeat' first | (simp (disch := first | omega | assumption) only [go_sem, simprocAttr, *]) | refine aa0 (fun hb=>?_) fun hb=>?_ | refine aa1 (fun hb=>?_) fun hb=>?_
   all_goals (try simp only [FX] at *)
   all_goals first | omega | skip
   exact aa4 (hself _) rfl
  by_cases k4 : kd = 4
  ·subst k4
   simp [bd3] at hnb
   obtain ⟨hn1, hz, hlo, hlo2, hhi⟩ := hnb
   match ts, hn1 with
   | [t0], _ =>
    have h0 := hih t0 (by simp)
    have hk0 := hok t0 (by simp)
    have hat := hx0.atT (i := 0) (t := t0) rfl
    have hat : be0 8 0 x0 = some (.iptr t0.E.cells 0) := hat
    obtain ⟨hyl, hyo, hya, hyt⟩ := RT.boxed (hts t0 (by simp))
    obtain ⟨hzl, hzo, hza, hzt⟩ := RT.boxed hk0.1
    have hzok := fun n => RT.ok hk0.1 n
    have e : alT (.mk 4 w x0 [t0] lo hi) = alH [alT t0] w lo hi := by rw [alT, if_neg (by omega), if_neg (by omega), if_neg (by omega), if_pos rfl, alL, alL]
    rw [e, alH]
    clear hih hok hm hnl e
    generalize (alT t0).1 = y at h0 hzl hzo hza hzt hzok ⊢
    generalize (alT t0).2 = b at h0 ⊢
    generalize hu : t0.E = u at *
    cases b with
    | true =>
     rw [if_pos rfl]
     rw [show (RT.mk 4 w (.imm 8 [y.E]) [y] lo hi).E = .agg [.int .i64 4, .int .u64 (w 0 : Nat), .int .u64 (w 1 : Nat), .int .u64 (w 2 : Nat), .int .u64 (w 3 : Nat), .imm 8 [y.E], .int .i64 lo, .int .i64 hi] from rfl]
     generalize y.E = z at *
     unfold EV.cells at hyl hyo hya hyt hzl hzo hza hzt
     repeat' first | (simp (disch := first | omega | assumption) only [go_sem, simprocAttr, *]) | refine aa0 (fun hb=>?_) fun hb=>?_ | refine aa1 (fun hb=>?_) fun hb=>?_
     all_goals (try simp only [FX] at *)
     all_goals first | omega | skip
     exact aa4 (by simp [EV.ok, okL, hzok]) rfl
    | false =>
     rw [if_neg (by simp)]
     rw [show (RT.mk 0 (fun _ => 0) .nilsl [] 0 0).E = .agg [.int .i64 0, .int .u64 0, .int .u64 0, .int .u64 0, .int .u64 0, .nilsl, .int .i64 0, .int .i64 0] from rfl]
     generalize y.E = z at *
     unfold EV.cells at hyl hyo hya hyt hzl hzo hza hzt
     repeat' first | (simp (disch := first | omega | assumption) only [go_sem, simprocAttr, *]) | refine aa0 (fun hb=>?_) fun hb=>?_ | refine aa1 (fun hb=>?_) fun hb=>?_
     all_goals (try simp only [FX] at *)
     refine dd3 (h := by
      simp (disch := omega) only [go_sem, simprocAttr, dsF, fbOf, Option.getD_some, Option.getD_none, ox, cx, hzl, hzo, hza, hzt]
      exact rfl) ?_ ?_
     ·simp [ck8]
     repeat' first | (simp (disch := first | omega | assumption) only [go_sem, simprocAttr, *]) | refine aa0 (fun hb=>?_) fun hb=>?_ | refine aa1 (fun hb=>?_) fun hb=>?_
     all_goals (try simp only [FX] at *)
     exact aa4 rfl rfl
  have hkd : kd = 2 ∨ kd = 3 := by
   by_cases k2 : kd = 2
   ·exact .inl k2
   by_cases k3 : kd = 3
   ·exact .inr k3
   ·simp [bd3, k0, k1, k2, k3, k4] at hnb
  have hnlen : ts.length < 9223372036854775808 := by omega
  have hlist := cl0 (ts := ts) fun u hu => (hok u hu).2.2
  have hLen : (ag3 (alL ts)).length ≤ ts.length := by
   have := cb4 (alL ts)
   rw [bk4] at this ⊢
   simpa using this
  have hEnd : (kd = 2 → ay0 ts = false) → alT (.mk kd w x0 ts lo hi) = (.mk kd (fun _ => 0) (slT (ag3 (alL ts))) (ag3 (alL ts)) 0 0, decide (0 < (ag3 (alL ts)).length)) := fun hv => by
   rcases hkd with rfl | rfl
   ·rw [alT, if_neg (by omega), if_pos rfl, if_pos (by rw [hlist.1, hv rfl]; rfl)]
   ·rw [alT, if_neg (by omega), if_neg (by omega), if_pos rfl]
  have hNo : kd = 2 → ay0 ts = true → alT (.mk kd w x0 ts lo hi) = (.mk kd w x0 ts lo hi, false) := fun e hv => by
   subst e
   rw [alT, if_neg (by omega), if_pos rfl, if_neg (by rw [hlist.1, hv]; simp)]
  generalize alT (.mk kd w x0 ts lo hi) = res at hEnd hNo ⊢
  clear k0 k1 k4
  have hk1 : ((kd : Int) == 1) = false := by rcases hkd with rfl | rfl <;> rfl
  have go0 : ∀ d e : Option EB, ((H ++ [d, e])[H.length]? = some d) ∧ ((H ++ [d, e])[H.length + 1]? = some e) := fun d e => ⟨by rw [List.getElem?_append_right (by omega), Nat.sub_self]; rfl, by rw [List.getElem?_append_right (by omega), Nat.add_sub_cancel_left]; rfl⟩
  clear hnb hnl
  repeat' first | (simp (disch := first | omega | assumption) only [go_sem, simprocAttr, *]) | refine aa0 (fun hb=>?_) fun hb=>?_ | refine aa1 (fun hb=>?_) fun hb=>?_
  all_goals (try simp only [FX] at *)
  all_goals first | omega | skip
  all_goals
   refine al1 (ι := Nat × EV × Heap × (Nat → Nat)) (fun q => q.1 ≤ ts.length ∧ Bs H q.2.2.1 q.2.2.2 ∧ At q.2.2.1 q.2.2.2 1 H.length (.row 8 [.agg [.int .i64 kd, .int .u64 (w 0 : Nat), .int .u64 (w 1 : Nat), .int .u64 (w 2 : Nat), .int .u64 (w 3 : Nat), x0, .int .i64 lo, .int .i64 hi]]) ∧
     At q.2.2.1 q.2.2.2 2 (H.length + 1) (.row 8 [.agg [.int .i64 0, .int .u64 0, .int .u64 0, .int .u64 0, .int .u64 0, .nilsl, .int .i64 0, .int .i64 0]]) ∧ Hl q.2.2.1 q.2.2.2 3 8 q.2.1 ((ag3 (alL (ts.take q.1))).map RT.E) ∧ (kd = 2 → ay0 (ts.take q.1) = false))
    (fun q => ts.length - q.1) (fun q => [(1, .ptr H.length 8 0 0), (2, .ptr (H.length + 1) 8 0 0), (4, q.2.1), (24, x0), (25, .int .i64 ts.length), (26, .int .i64 q.1)]) (fun q => q.2.2.1) (0, .nilsl, _, owA H.length) ?_ ?_ rfl ?_
   ·exact ⟨by simp, eu2 _ _, ⟨(go0 _ _).1, owA_0 _⟩, ⟨(go0 _ _).2, owA_1 _⟩, .inl ⟨rfl, by simp [alL, ag3]⟩, fun _ => by simp [ay0]⟩
   ·simp (disch := omega) only [go_sem, simprocAttr, Sl]
   clear go0
   rintro ⟨i, X, W, ow⟩ t1 ⟨hi1, hbs, ha1, ha2, hX, hvd⟩ ht K hK
   simp only at hi1 hbs ha1 ha2 hX hvd ht
   simp (disch := omega) only [go_sem, simprocAttr, Sl] at ht
   have hWl := hbs.len
   have g1 : ∀ G : Heap, (W ++ G)[H.length]? = some (some (.row 8 [.agg [.int .i64 kd, .int .u64 (w 0 : Nat), .int .u64 (w 1 : Nat), .int .u64 (w 2 : Nat), .int .u64 (w 3 : Nat), x0, .int .i64 lo, .int .i64 hi]])) := fun G => by rw [List.getElem?_append_left (aa2 ha1.1)]; exact ha1.1
   have g2 : ∀ G : Heap, (W ++ G)[H.length + 1]? = some (some (.row 8 [.agg [.int .i64 0, .int .u64 0, .int .u64 0, .int .u64 0, .int .u64 0, .nilsl, .int .i64 0, .int .i64 0]])) := fun G => by rw [List.getElem?_append_left (aa2 ha2.1)]; exact ha2.1
   have g3 := ha1.1
   have g4 := ha2.1
   obtain ⟨oX, cX⟩ := hX.one
   have lX := hX.len
   rw [List.length_map] at lX
   unfold EV.one at oX
   unfold EV.cells at cX
   by_cases hlt : i < ts.length
   ·obtain ⟨u, hu⟩ := ac0 hlt
    have hum := List.mem_of_getElem? hu
    have hat := hx0.atT hu
    have h0 := hih u hum
    have hk0 := hok u hum
    have hnx := er3 hu
    have hvx := de0 hu
    obtain ⟨hyl, hyo, hya, hyt⟩ := RT.boxed (hts u hum)
    obtain ⟨hzl, hzo, hza, hzt⟩ := RT.boxed hk0.1
    have b1 := hbs.new 4 (.row 8 [u.E])
    have b2 := b1.new 4 (.row 8 [(alT u).1.E])
    have k1 := Kp.new (W := W) ow 4 5 (.row 8 [u.E])
    have k2 := Kp.new (W := W ++ [some (.row 8 [u.E])]) (fun k => if k = W.length then 4 else ow k) 4 5 (.row 8 [(alT u).1.E])
    have hX2 := k2.hl (k1.hl hX (by omega)) (by omega)
    have ha12 := k2.at (k1.at ha1 (by omega)) (by omega)
    have ha22 := k2.at (k1.at ha2 (by omega)) (by omega)
    have hgl : (ag3 (alL (ts.take i))).length ≤ 100000 := by
     have := cb4 (alL (ts.take i))
     rw [bk4, List.length_map, List.length_take] at this
     rw [bk4]
     omega
    generalize (fun k => if k = (W ++ [some (EB.row 8 [u.E])]).length then 4 else if k = W.length then 4 else ow k) = ow2 at b2 hX2 ha12 ha22
    simp only [List.append_assoc, List.cons_append, List.nil_append] at b2 hX2 ha12 ha22
    clear b1 k1 k2
    have hnv : ai5 u = !(alT u).2 := by rw [hk0.2.2, Bool.not_not]
    cases hb2 : (alT u).2 with
    | true =>
     rw [hb2] at h0 hnv
     rw [hb2, if_pos rfl] at hnx
     obtain ⟨X', W', ow', hap, hX', hkp, hbs'⟩ := hX2.append b2 (by omega) (alT u).1.E 80 (by omega) hzl hzo (by rw [List.length_map]; omega) (by omega)
     have go := fun s' H' => hK (i + 1, X', W', ow') s' H' ⟨by simp only; omega, hbs', hkp.at ha12 (by omega), hkp.at ha22 (by omega), by simp only; rw [hnx, List.map_append]; exact hX', fun e => by simp only; rw [hvx, hvd e, hnv]; rfl⟩ (by simp only; omega)
     clear hK hX2 hX' hkp hbs' hnx hvx hvd hih hok hm
     generalize (alT u).1.E = z at *
     generalize u.E = y at *
     unfold EV.cells at hyl hyo hya hyt hzl hzo hza hzt
     repeat' first | (simp (disch := first | omega | assumption) only [go_sem, simprocAttr, *]) | refine aa0 (fun hb=>?_) fun hb=>?_ | refine aa1 (fun hb=>?_) fun hb=>?_
     all_goals (try simp only [FX] at *)
     all_goals first | omega | skip
     refine go _ _ ?_ rfl
     simp (disch := omega) only [go_sem, simprocAttr, Sl, ht, and_self, ad6]
    | false =>
     rw [hb2] at h0 hnv
     rw [hb2, if_neg (by simp)] at hnx
     rcases hkd with e | e
     ·have hno := hNo e (dd9 hum hnv)
      rw [hno]
      rw [show (RT.mk kd w x0 ts lo hi).E = .agg [.int .i64 kd, .int .u64 (w 0 : Nat), .int .u64 (w 1 : Nat), .int .u64 (w 2 : Nat), .int .u64 (w 3 : Nat), x0, .int .i64 lo, .int .i64 hi] from rfl]
      have hfin := fun b => b2.set ha22 (by omega) b
      have g6 : ∀ b : Option EB, ((W ++ [some (EB.row 8 [u.E]), some (EB.row 8 [(alT u).1.E])]).set (H.length + 1) b)[H.length + 1]? = some b := fun b => List.getElem?_set_self (aa2 ha22.1)
      subst e
      clear hK hX2 hnx hvx hvd hih hok hm hNo hEnd hno
      generalize (alT u).1.E = z at *
      generalize u.E = y at *
      unfold EV.cells at hyl hyo hya hyt hzl hzo hza hzt
      repeat' first | (simp (disch := first | omega | assumption) only [go_sem, simprocAttr, *]) | refine aa0 (fun hb=>?_) fun hb=>?_ | refine aa1 (fun hb=>?_) fun hb=>?_
      all_goals (try simp only [FX] at *)
      all_goals first | omega | skip
      all_goals exact (hfin _).drop (hself _) rfl
     ·have go := fun s' H' => hK (i + 1, X, _, ow2) s' H' ⟨by simp only; omega, b2, ha12, ha22, by simp only; rw [hnx]; exact hX2, fun e2 => by omega⟩ (by simp only; omega)
      clear hK hX2 hnx hvx hvd hih hok hm hNo hEnd
      generalize (alT u).1.E = z at *
      generalize u.E = y at *
      unfold EV.cells at hyl hyo hya hyt hzl hzo hza hzt
      repeat' first | (simp (disch := first | omega | assumption) only [go_sem, simprocAttr, *]) | refine aa0 (fun hb=>?_) fun hb=>?_ | refine aa1 (fun hb=>?_) fun hb=>?_
      all_goals (try simp only [FX] at *)
      all_goals first | omega | skip
      all_goals refine go _ _ ?_ rfl
      all_goals simp (disch := omega) only [go_sem, simprocAttr, Sl, ht, and_self, ad6]
   ·have hie : i = ts.length := by omega
    subst hie
    rw [List.take_length] at hX hvd lX
    have hfl := fun b => hbs.set ha2 (by omega) b
    have hXs := fun b => (Kp.set ha2 b).hl hX (by omega)
    have hes : okL H.length ((ag3 (alL ts)).map RT.E) = true := el1 fun t h => by
     obtain ⟨p, h1, _, rfl⟩ := cp4.1 h
     rw [bk4] at h1
     obtain ⟨u, hu, rfl⟩ := List.mem_map.1 h1
     exact (hok u hu).1
    rw [hEnd hvd]
    rw [show (RT.mk kd (fun _ => 0) (slT (ag3 (alL ts))) (ag3 (alL ts)) 0 0).E = .agg [.int .i64 kd, .int .u64 0, .int .u64 0, .int .u64 0, .int .u64 0, slT (ag3 (alL ts)), .int .i64 0, .int .i64 0] from rfl, et6]
    have hlz : (ag3 (alL ts)).length ≤ 100000 := by omega
    have hfin : ∀ b : Option EB, Abs.fz H.length (W.set (H.length + 1) b) 6 X = some (slE 8 ((ag3 (alL ts)).map RT.E)) := fun b => (hXs b).fz (fun k hk => by
     rcases Nat.lt_or_ge k H.length with h | h
     ·have := hbs.ow0 k h; omega
     ·exact h) (br7 fun x hx => bg6 (dr3 hes x hx))
    generalize slE 8 ((ag3 (alL ts)).map RT.E) = Y at hfin ⊢
    generalize (ag3 (alL ts)).length = m at hlz lX ⊢
    have g5 : ∀ b : Option EB, (W.set (H.length + 1) b)[H.length + 1]? = some b := fun b => List.getElem?_set_self (aa2 ha2.1)
    clear hK hXs hes hNo hEnd hih hok hm hX
    repeat' first | (simp (disch := first | omega | assumption) only [go_sem, simprocAttr, *]) | refine aa0 (fun hb=>?_) fun hb=>?_ | refine aa1 (fun hb=>?_) fun hb=>?_
    all_goals (try simp only [FX] at *)
    all_goals first | omega | skip
    exact (hfl _).fz rfl (ev4 (hfin _)) (by simp)
end
def cb2 (l : List Int) : Int := l.getLast?.getD (-1)
theorem cb1 {l : List Int} (h : l ≠ []) : l[l.length - 1]? = some (cb2 l) := by
 unfold cb2
 rw [← List.getLast?_eq_getElem?]
 obtain ⟨v, hv⟩ := Option.isSome_iff_exists.1 (by rw [List.getLast?_isSome]; exact h)
 rw [hv]; rfl
theorem ds8 {a : List Bool} {n : Nat} (h : a.length = n + 1) : decide (cb2 (posL 0 a) = (n : Int)) = a.getD n false := by
 rw [Bool.eq_iff_iff, decide_eq_true_eq]
 constructor
 ·intro e
  have hne : posL 0 a ≠ [] := fun e2 => by
   rw [e2] at e
   simp [cb2] at e
  have hm := List.mem_of_getElem? (cb1 hne)
  have := (bz9 hm).2.2
  rw [e] at this
  exact this
 ·intro e
  have hm : ((n : Nat) : Int) ∈ posL 0 a := al3.2 ⟨n, e, by omega⟩
  have hne : posL 0 a ≠ [] := fun e2 => by rw [e2] at hm; simp at hm
  have hg := cb1 hne
  obtain ⟨i, hi⟩ := List.mem_iff_getElem?.1 hm
  have hlt := aa2 hi
  have hlast := bz9 (List.mem_of_getElem? hg)
  by_cases he : i = (posL 0 a).length - 1
  ·subst he
   rw [hi] at hg
   exact (Option.some.inj hg).symm
  ·have hp := aw6 a 0
   rw [List.pairwise_iff_getElem] at hp
   have h1 := hp i ((posL 0 a).length - 1) hlt (by omega) (by omega)
   have e1 := (List.getElem?_eq_some_iff.1 hi).2
   have e2 := (List.getElem?_eq_some_iff.1 hg).2
   rw [e1, e2] at h1
   omega
section
variable {E : Env} [R : bv0 E]
theorem dh4 {t : RT} (ht : t.Ok) (hm : mayT t = false) (s : List UInt8) (hs : s.length ≤ 100000) (H : Heap) :
  den E R.aj6 [t.E, .str s] H = some (.ret (.int .i64 (-1)), H) := by
 have h1 := fun H => cw0 (E := E) ht s hs 0 (by rw [hm]; simp) H
 cases ht with
 | mk kd w x0 ts lo hi hw hx0 hts =>
 obtain ⟨cx, ox⟩ := hx0.one
 refine ag1 R.at8 (by simp) ?_
 unfold Gn.ar5 Gn.am6
 unfold RT.E at h1 ⊢
 unfold EV.one at ox
 unfold EV.cells at cx
 simp only at h1
 repeat' first | (simp (disch := first | omega | assumption) only [go_sem, simprocAttr, *]) | refine aa0 (fun hb=>?_) fun hb=>?_ | refine aa1 (fun hb=>?_) fun hb=>?_
 all_goals (try simp only [FX] at *)
 all_goals first | omega | exact aa4 rfl rfl
theorem ca8 (hH : bt4 E R.al0 .u8) (hS : bb4 E R.ab1) {t : RT} (ht : t.Ok) (hm : mayT t = true) (s : List UInt8) (hs : s.length ≤ 100000) (H : Heap) :
  den E R.aj6 [t.E, .str s] H = some (.ret (.int .i64 (cb2 (posL 0 (aa5 s t (atL s.length 0))))), H) := by
 obtain ⟨y, h1, h4⟩ := bv7 (E := E) hH hS ht hm s hs 0 (by omega) (H ++ [some (.row 8 [t.E])])
 rw [show ((0 : Nat) : Int) = 0 from rfl] at h1
 have lf := h4.lenI
 have hll : (posL 0 (aa5 s t (atL s.length 0))).length ≤ 1000000 := by
  have := (ak6 s ht).len _ (bg9 s.length 0)
  have h4 := bb3 (aa5 s t (atL s.length 0))
  rw [au1]
  omega
 generalize posL 0 (aa5 s t (atL s.length 0)) = l at h1 h4 lf hll ⊢
 obtain ⟨cy, oy⟩ := h4.one
 by_cases he : l = []
 ·subst he
  rw [show cb2 [] = -1 from rfl]
  cases ht with
  | mk kd w x0 ts lo hi hw hx0 hts =>
  obtain ⟨cx, ox⟩ := hx0.one
  refine ag1 R.at8 (by simp) ?_
  unfold Gn.ar5 Gn.am6
  unfold RT.E at h1 ⊢
  unfold EV.one at ox oy
  unfold EV.cells at cx cy
  simp only [List.length_nil] at h1 lf
  repeat' first | (simp (disch := first | omega | assumption) only [go_sem, simprocAttr, *]) | refine aa0 (fun hb=>?_) fun hb=>?_ | refine aa1 (fun hb=>?_) fun hb=>?_
  all_goals (try simp only [FX] at *)
  all_goals first | omega | exact aa4 rfl rfl
 ·have hg := cb1 he
  have hlp := List.length_pos_iff.2 he
  have hat := h4.at hg
  rw [show ((l.length - 1 : Nat) : Int) = (l.length : Int) - 1 by omega] at hat
  generalize cb2 l = r at hat hg ⊢
  cases ht with
  | mk kd w x0 ts lo hi hw hx0 hts =>
  obtain ⟨cx, ox⟩ := hx0.one
  refine ag1 R.at8 (by simp) ?_
  unfold Gn.ar5 Gn.am6
  unfold RT.E at h1 ⊢
  unfold EV.one at ox oy
  unfold EV.cells at cx cy
  simp only at h1
  repeat' first | (simp (disch := first | omega | assumption) only [go_sem, simprocAttr, *]) | refine aa0 (fun hb=>?_) fun hb=>?_ | refine aa1 (fun hb=>?_) fun hb=>?_
  all_goals (try simp only [FX] at *)
  all_goals first | omega | exact aa4 rfl rfl
end
section
variable {E : Env} [R : TakR E]
theorem dh5 (hH : bt4 E R.al0 .u8) (hS : bb4 E R.ab1) {t : RT} (ht : t.Ok) (s : List UInt8) (hs : s.length ≤ 100000) (H : Heap) :
  den E R.bf4 [t.E, .str s] H = some (.ret (.bool (mayT t && (aa5 s t (atL s.length 0)).getD s.length false)), H) := by
 have h1 : ∀ H, den E R.aj6 [t.E, .str s] H = some (.ret (.int .i64 (if mayT t = true then cb2 (posL 0 (aa5 s t (atL s.length 0))) else -1)), H) := fun H => by
  by_cases hm : mayT t = true
  ·rw [if_pos hm]; exact ca8 (E := E) hH hS ht hm s hs H
  ·rw [if_neg hm]; exact dh4 (E := E) ht (by simpa using hm) s hs H
 have hv : (mayT t && (aa5 s t (atL s.length 0)).getD s.length false) = decide ((if mayT t = true then cb2 (posL 0 (aa5 s t (atL s.length 0))) else -1) = (s.length : Int)) := by
  by_cases hm : mayT t = true
  ·rw [if_pos hm, hm, Bool.true_and, ds8 ((ak6 s ht).len _ (bg9 _ _))]
  ·rw [if_neg hm]
   have : mayT t = false := by simpa using hm
   rw [this, Bool.false_and]
   symm
   exact decide_eq_false (by omega)
 rw [hv]
 clear hv
 generalize (if mayT t = true then cb2 (posL 0 (aa5 s t (atL s.length 0))) else -1) = v at h1 ⊢
 cases ht with
 | mk kd w x0 ts lo hi hw hx0 hts =>
 obtain ⟨cx, ox⟩ := hx0.one
 refine ag1 R.bw0 (by simp) ?_
 unfold Gn.bi0 Gn.ba2
 unfold RT.E at h1 ⊢
 unfold EV.one at ox
 unfold EV.cells at cx
 simp only at h1
 repeat' first | (simp (disch := first | omega | assumption) only [go_sem, simprocAttr, *]) | refine aa0 (fun hb=>?_) fun hb=>?_ | refine aa1 (fun hb=>?_) fun hb=>?_
 all_goals (try simp only [FX] at *)
 all_goals first | omega | exact aa4 rfl rfl
end
theorem dc2 {p : Int → Bool} : ∀ {l : List Int} {i : Int}, 0 ≤ i → decide (0 ≤ idxI p l i) = l.any p
 | [], i, h => by simp [idxI]
 | v :: l, i, h => by
  have ih := dc2 (p := p) (l := l) (i := i + 1) (by omega)
  rw [List.any_cons]
  by_cases hp : p v = true
  ·have e : idxI p (v :: l) i = i := by simp [idxI, hp]
   rw [e, hp, Bool.true_or]; exact decide_eq_true h
  ·have hp' : p v = false := by simpa using hp
   have e : idxI p (v :: l) i = idxI p l (i + 1) := by simp [idxI, hp']
   rw [e, hp', Bool.false_or]; exact ih
theorem er2 (v : Int) (l : List Int) : l.any (fun u => v == u) = decide (v ∈ l) := by
 rw [Bool.eq_iff_iff, List.any_eq_true, decide_eq_true_eq]
 constructor
 ·rintro ⟨u, h1, h2⟩
  rw [beq_iff_eq] at h2
  exact h2 ▸ h1
 ·intro h
  exact ⟨v, h, by simp⟩
section
variable {E : Env} [R : SlcR E]
theorem dt5 (x : EV) (l : List Int) (hx : am9 x l) (v : Int) (H : Heap) (hl : l.length ≤ 1000000) :
  den E R.ai0 [x, .int .i64 v] H = some (.ret (.int .i64 (idxI (fun u => v == u) l 0)), H) := by
 have lx := hx.lenI
 obtain ⟨cx, ox⟩ := hx.one
 refine ag1 R.aq4 (by simp) ?_
 unfold Gn.aj2 Gn.ah9
 unfold EV.one at ox
 unfold EV.cells at cx
 simp (disch := omega) only [go_sem, simprocAttr, *]
 refine al1 (ι := Nat) (fun i => i ≤ l.length ∧ idxI (fun u => v == u) l 0 = idxI (fun u => v == u) (l.drop i) i) (fun i => l.length - i) (fun i => [(0, x), (1, .int .i64 v), (7, .int .i64 l.length), (8, .int .i64 i)]) (fun _ => H) 0 ⟨by omega, rfl⟩ ?_ rfl ?_
 ·simp (disch := omega) only [go_sem, simprocAttr, Sl]
 ·rintro i t ⟨hi, hr⟩ ht K hK
  simp (disch := omega) only [go_sem, simprocAttr, Sl] at ht
  by_cases hlt : i < l.length
  ·obtain ⟨u, hu⟩ := ac0 hlt
   have hat := hx.at hu
   rw [by0 hu] at hr
   simp only [idxI] at hr
   have go : (v == u) = false → _ := fun h s' H' => hK (i + 1) s' H' ⟨by omega, by rw [hr, if_neg (by simp [h])]; rfl⟩ (by omega)
   by_cases hp : (v == u) = true
   ·rw [if_pos hp] at hr
    rw [hr]
    clear go hK hr
    repeat' first | (simp (disch := first | omega | assumption) only [go_sem, simprocAttr, *]) | refine aa0 (fun hb=>?_) fun hb=>?_ | refine aa1 (fun hb=>?_) fun hb=>?_
    all_goals (try simp only [FX] at *)
    all_goals first | omega | skip
    all_goals exact ac5 rfl rfl
   ·have hp : (v == u) = false := by simpa using hp
    replace go := go hp
    clear hK hr
    repeat' first | (simp (disch := first | omega | assumption) only [go_sem, simprocAttr, *]) | refine aa0 (fun hb=>?_) fun hb=>?_ | refine aa1 (fun hb=>?_) fun hb=>?_
    all_goals (try simp only [FX] at *)
    all_goals first | omega | skip
    all_goals refine go _ _ ?_ rfl
    all_goals simp (disch := omega) only [go_sem, simprocAttr, Sl, ht, and_self, ad6]
  ·have : i = l.length := by omega
   subst this
   have he : idxI (fun u => v == u) l 0 = -1 := by rw [hr]; simp [idxI]
   rw [he]
   clear hK hr
   repeat' first | (simp (disch := first | omega | assumption) only [go_sem, simprocAttr, *]) | refine aa0 (fun hb=>?_) fun hb=>?_ | refine aa1 (fun hb=>?_) fun hb=>?_
   all_goals (try simp only [FX] at *)
   all_goals first | omega | skip
   exact ac5 rfl rfl
theorem cr3 (x : EV) (l : List Int) (hx : am9 x l) (v : Int) (H : Heap) (hl : l.length ≤ 1000000) :
  den E R.ag0 [x, .int .i64 v] H = some (.ret (.bool (decide (v ∈ l))), H) := by
 have h1 := fun H => dt5 (E := E) x l hx v H hl
 have h2 := dc2 (p := fun u => v == u) (l := l) (i := 0) (by omega)
 rw [er2] at h2
 rw [← h2]
 clear h2
 generalize idxI (fun u => v == u) l 0 = k at h1 ⊢
 obtain ⟨cx, ox⟩ := hx.one
 refine ag1 R.am8 (by simp) ?_
 unfold Gn.ah0 Gn.af8
 unfold EV.one at ox
 unfold EV.cells at cx
 repeat' first | (simp (disch := first | omega | assumption) only [go_sem, simprocAttr, *]) | refine aa0 (fun hb=>?_) fun hb=>?_ | refine aa1 (fun hb=>?_) fun hb=>?_
 all_goals (try simp only [FX] at *)
 exact ac5 rfl rfl
end
def cb0 (s : List UInt8) (t : RT) : Bool := (alT t).2 && (as8 s (alT t).1 (atL s.length 0) || (aa5 s (alT t).1 (atL s.length 0)).getD s.length false)
section
variable {E : Env} [R : bv0 E]
set_option maxHeartbeats 1000000 in
theorem bj9 (hH : bt4 E R.al0 .u8) (hS : bb4 E R.ab1) {t : RT} (ht : t.Ok) (hz : szT t ≤ 100000) (s : List UInt8) (hs : s.length ≤ 100000) (H : Heap) :
  den E R.as0 [t.E, .str s] H = some (.ret (.bool (mayT t && cb0 s t)), H) := by
 have h1 := fun H => cj2 (E := E) ht H
 cases hm : mayT t with
 | false =>
  rw [hm] at h1
  cases ht with
  | mk kd w x0 ts lo hi hw hx0 hts =>
  obtain ⟨cx, ox⟩ := hx0.one
  refine ag1 R.bb8 (by simp) ?_
  unfold Gn.ay8 Gn.as2
  unfold RT.E at h1 ⊢
  unfold EV.one at ox
  unfold EV.cells at cx
  simp only at h1
  repeat' first | (simp (disch := first | omega | assumption) only [go_sem, simprocAttr, *]) | refine aa0 (fun hb=>?_) fun hb=>?_ | refine aa1 (fun hb=>?_) fun hb=>?_
  all_goals (try simp only [FX] at *)
  exact aa4 rfl rfl
 | true =>
  rw [hm] at h1
  have hn : aj3 t = true := by
   unfold mayT at hm
   simp only [Bool.and_eq_true] at hm
   exact hm.2.2
  have h2 := ev8 (E := E) ht hn hz
  obtain ⟨xok, xfit, _⟩ := dk8 ht hn
  have hA : am9 (.imm 1 [.int .i64 0]) (posL 0 (atL s.length 0)) := by
   rw [dp5 _ _ (by omega)]
   exact bn9 (l := [(0 : Int)]) (by simp)
  unfold cb0
  obtain ⟨xl, xo, xa, xt⟩ := RT.boxed xok
  obtain ⟨y, h3, h4⟩ := co5 (E := E) hH hS s hs xok xfit (.imm 1 [.int .i64 0]) (atL s.length 0) (H.length + 2) false (H ++ [some (.row 8 [t.E]), some (.row 8 [(alT t).1.E]), some (.row 2 [.agg [.str s, .bool false]])]) hA (bg9 _ _) (by rw [List.getElem?_append_right (by omega), Nat.add_sub_cancel_left]; rfl)
  rw [List.set_append_right _ _ (by omega), Nat.add_sub_cancel_left] at h3
  simp only [List.set_cons_succ, List.set_cons_zero, Bool.false_or] at h3
  have hel := (ak6 s xok).len _ (bg9 s.length 0)
  have hll : (posL 0 (aa5 s (alT t).1 (atL s.length 0))).length ≤ 1000000 := by
   have h4 := bb3 (aa5 s (alT t).1 (atL s.length 0))
   rw [au1]
   omega
  have h5 := fun H => cr3 (E := E) y _ h4 (s.length : Int) H hll
  have hmem : decide ((s.length : Int) ∈ posL 0 (aa5 s (alT t).1 (atL s.length 0))) = (aa5 s (alT t).1 (atL s.length 0)).getD s.length false := by
   rw [Bool.eq_iff_iff, decide_eq_true_eq, al3]
   constructor
   ·rintro ⟨i, h, e⟩
    obtain rfl : i = s.length := by omega
    exact h
   ·intro h
    exact ⟨s.length, h, by omega⟩
  rw [hmem] at h5
  generalize (aa5 s (alT t).1 (atL s.length 0)).getD s.length false = q at h5 ⊢
  generalize as8 s (alT t).1 (atL s.length 0) = op at h3 ⊢
  generalize posL 0 (aa5 s (alT t).1 (atL s.length 0)) = l at h4
  obtain ⟨cy, oy⟩ := h4.one
  generalize (alT t).2 = b at h2 ⊢
  generalize (alT t).1.E = z at *
  cases ht with
  | mk kd w x0 ts lo hi hw hx0 hts =>
  obtain ⟨cx, ox⟩ := hx0.one
  refine ag1 R.bb8 (by simp) ?_
  unfold Gn.ay8 Gn.as2
  unfold RT.E at h1 h2 h3 ⊢
  unfold EV.one at ox oy
  unfold EV.cells at cx cy xl xo xa xt
  simp only at h1 h2 h3
  clear hA hn hz hll hmem h4 hel
  cases b with
  | false =>
   repeat' first | (simp (disch := first | omega | assumption) only [go_sem, simprocAttr, *]) | refine aa0 (fun hb=>?_) fun hb=>?_ | refine aa1 (fun hb=>?_) fun hb=>?_
   all_goals (try simp only [FX] at *)
   exact aa4 rfl rfl
  | true =>
   cases op with
   | true =>
    repeat' first | (simp (disch := first | omega | assumption) only [go_sem, simprocAttr, *]) | refine aa0 (fun hb=>?_) fun hb=>?_ | refine aa1 (fun hb=>?_) fun hb=>?_
    all_goals (try simp only [FX] at *)
    exact aa4 rfl rfl
   | false =>
    repeat' first | (simp (disch := first | omega | assumption) only [go_sem, simprocAttr, *]) | refine aa0 (fun hb=>?_) fun hb=>?_ | refine aa1 (fun hb=>?_) fun hb=>?_
    all_goals (try simp only [FX] at *)
    exact aa4 rfl rfl
end
def wA : Nat → Nat := fun i => if i = 1 then 8589934592 else 0
def wB : Nat → Nat := fun i => if i = 1 then 17179869184 else 0
def bj8 (w : Nat → Nat) : RT := .mk 1 w .nilsl [] 0 0
def abT : RT := .mk 4 (fun _ => 0) (.imm 8 [(RT.mk 2 (fun _ => 0) (.imm 8 [(bj8 wA).E, (bj8 wB).E]) [bj8 wA, bj8 wB] 0 0).E]) [.mk 2 (fun _ => 0) (.imm 8 [(bj8 wA).E, (bj8 wB).E]) [bj8 wA, bj8 wB] 0 0] 0 (-1)
theorem cj4 {w : Nat → Nat} (h : bp9 w) : (bj8 w).Ok := .mk _ _ _ _ _ _ h .nil fun t h => by simp at h
theorem et2 : bp9 wA := fun i => by unfold wA; split <;> omega
theorem et1 : bp9 wB := fun i => by unfold wB; split <;> omega
theorem dd2 : abT.Ok := by
 have h : (RT.mk 2 (fun _ => 0) (.imm 8 [(bj8 wA).E, (bj8 wB).E]) [bj8 wA, bj8 wB] 0 0).Ok := .mk _ _ _ _ _ _ da2 (.imm (es := [(bj8 wA).E, (bj8 wB).E]) (fun n => by simp [okL, RT.ok (cj4 et2), RT.ok (cj4 et1)]) (by simp)) fun t h => by
  simp only [List.mem_cons, List.not_mem_nil, or_false] at h
  rcases h with rfl | rfl
  ·exact cj4 et2
  ·exact cj4 et1
 exact .mk _ _ _ _ _ _ da2 (.imm (es := [(RT.mk 2 (fun _ => 0) (.imm 8 [(bj8 wA).E, (bj8 wB).E]) [bj8 wA, bj8 wB] 0 0).E]) (fun n => by simp [okL, RT.ok h]) (by simp)) fun t ht => by
  simp only [List.mem_cons, List.not_mem_nil, or_false] at ht
  subst ht
  exact h
section
variable {E : Env} [R : AliR E]
structure ea2 (E : Env) (f : FuncId) : Prop where
 a : ∀ H, den E f [.int .i64 97, .int .i64 97] H = some (.ret (.agg [.int .u64 0, .int .u64 8589934592, .int .u64 0, .int .u64 0]), H)
 b : ∀ H, den E f [.int .i64 98, .int .i64 98] H = some (.ret (.agg [.int .u64 0, .int .u64 17179869184, .int .u64 0, .int .u64 0]), H)
theorem ev9 (hG : ea2 E R.ao7) (H : Heap) : den E R.au2 [] H = some (.ret abT.E, H) := by
 have h1 := hG.a
 have h2 := hG.b
 refine ag1 R.bk8 (by simp) ?_
 unfold Gn.at7 Gn.ap8
 repeat' first | (simp (disch := first | omega | assumption) only [go_sem, simprocAttr, *]) | refine aa0 (fun hb=>?_) fun hb=>?_ | refine aa1 (fun hb=>?_) fun hb=>?_
 all_goals (try simp only [FX] at *)
 exact aa4 rfl rfl
set_option maxHeartbeats 1000000 in
theorem cz9 (hG : ea2 E R.ao7) (hH : bt4 E R.al0 .u8) (hS : bb4 E R.ab1) (H : Heap) : den E R.ag5 [] H = some (.ret (.bool true), H) := by
 have h1 := fun H => ev9 (E := E) hG H
 have hm : mayT abT = true := by decide +kernel
 obtain ⟨y, h2, h3⟩ := bv7 (E := E) hH hS dd2 hm [97, 98, 97, 98, 97] (by simp) 0 (by simp) H
 have e3 : posL 0 (aa5 [97, 98, 97, 98, 97] abT (atL ([97, 98, 97, 98, 97] : List UInt8).length 0)) = [0, 2, 4] := by decide +kernel
 rw [e3] at h3
 rw [show ((0 : Nat) : Int) = 0 from rfl] at h2
 have h4 := fun H => de4 (E := E) y (.imm 1 [.int .i64 0, .int .i64 2, .int .i64 4]) [0, 2, 4] [0, 2, 4] h3 (bn9 (l := [0, 2, 4]) (by simp)) (by simp) (by simp) H
 rw [decide_eq_true rfl] at h4
 have h5 := fun H => ca8 (E := E) hH hS dd2 hm [97, 98, 98] (by simp) H
 have e5 : cb2 (posL 0 (aa5 [97, 98, 98] abT (atL ([97, 98, 98] : List UInt8).length 0))) = 2 := by decide +kernel
 rw [e5] at h5
 have h6 := fun H => bj9 (E := E) hH hS dd2 (by decide +kernel) [97, 98, 97] (by simp) H
 have e6 : (mayT abT && cb0 [97, 98, 97] abT) = true := by decide +kernel
 rw [e6] at h6
 have h7 := fun H => bj9 (E := E) hH hS dd2 (by decide +kernel) [97, 98, 98] (by simp) H
 have e7 : (mayT abT && cb0 [97, 98, 98] abT) = false := by decide +kernel
 rw [e7] at h7
 obtain ⟨cy, oy⟩ := h3.one
 unfold EV.one at oy
 unfold EV.cells at cy
 clear hm e3 e5 e6 e7 h3
 generalize abT.E = z at *
 refine ag1 R.be4 (by simp) ?_
 unfold Gn.ao0 Gn.ak3
 repeat' first | (simp (disch := first | omega | assumption) only [go_sem, simprocAttr, *]) | refine aa0 (fun hb=>?_) fun hb=>?_ | refine aa1 (fun hb=>?_) fun hb=>?_
 all_goals (try simp only [FX] at *)
 exact ac5 rfl rfl
end
theorem cv9 (s : List UInt8) {t : RT} (ht : t.Ok) (hn : aj3 t = true) : cb0 s t = begT s t (atL s.length 0) := by
 have h3 := (dk8 ht hn).2.2
 unfold cb0
 rw [h3]
 cases hv : ai5 t with
 | true => rw [by2 s ht hv]; rfl
 | false =>
  obtain ⟨h1, h2⟩ := dz9 s ht hn hv (atL s.length 0) (bg9 _ _)
  rw [h1, h2]; rfl
theorem co3 {t : RT} (h : mayT t = true) : aj3 t = true := by
 unfold mayT at h
 simp only [Bool.and_eq_true] at h
 exact h.2.2
def LeM (m : Nat) (a b : List Bool) : Prop := ∀ i, i ≤ m → a.getD i false = true → b.getD i false = true
def Cut2 (m : Nat) (f F : List Bool → List Bool) : Prop := ∀ a b, a.length = m + 2 → b.length = m + 1 → LeM m a b → LeM m (f a) (F b)
theorem LeM.or {m : Nat} {a b c d : List Bool} (h1 : LeM m a b) (h2 : LeM m c d) (hl : a.length = c.length) (hr : b.length = d.length) : LeM m (orL a c) (orL b d) := fun i hm hi => by
 rw [ac8 hl, Bool.or_eq_true] at hi
 rw [ac8 hr]
 rcases hi with hi | hi
 ·rw [h1 i hm hi, Bool.true_or]
 ·rw [h2 i hm hi, Bool.or_true]
section
variable {m : Nat} {f F : List Bool → List Bool}
theorem dy1 (hf : Lin (m + 2) f) (hF : Lin (m + 1) F) (h : Cut2 m f F) {a b : List Bool} (ha : a.length = m + 2) (hb : b.length = m + 1) (hl : LeM m a b) : ∀ n, LeM m (powN f n a) (powN F n b)
 | 0 => hl
 | n + 1 => h _ _ ((ae8 hf n).len _ ha) ((ae8 hF n).len _ hb) (dy1 hf hF h ha hb hl n)
theorem dx9 (hf : Lin (m + 2) f) (hF : Lin (m + 1) F) (h : Cut2 m f F) {a b : List Bool} (ha : a.length = m + 2) (hb : b.length = m + 1) (hl : LeM m a b) : ∀ n, LeM m (sumN f a n) (sumN F b n)
 | 0 => hl
 | n + 1 => by
  have ih := dx9 hf hF h ha hb hl n
  have l1 := au0 hf ha n
  have l2 := au0 hF hb n
  exact ih.or (h _ _ l1 l2 ih) (by rw [hf.len _ l1, l1]) (by rw [hF.len _ l2, l2])
theorem ec1 (hF : Lin (m + 1) F) {b : List Bool} (hb : b.length = m + 1) : sumN F b (m + 2) = sumN F b (m + 1) := by
 obtain ⟨k, hk, hc⟩ := bj2 hF hb
 have h1 := at0 hF hb hc (m + 2 - k)
 have h2 := at0 hF hb hc (m + 1 - k)
 rw [show k + (m + 2 - k) = m + 2 by omega] at h1
 rw [show k + (m + 1 - k) = m + 1 by omega] at h2
 rw [h1, h2]
end
section
variable {m : Nat} {s S : List UInt8} (hs : s.length = m + 1) (hS : S.length = m) (hE : ∀ i, i < m → S[i]? = s[i]?)
include hs hS hE
theorem ei1 {t : RT} (ht : t.Ok) : Cut2 m (aa5 s t) (aa5 S t) := by
 induction ht with
 | mk kd w x ts lo hi hw hx hts ih =>
  have e1 : ∀ s : List UInt8, aa5 s (.mk kd w x ts lo hi) = an0 s kd w lo hi (ts.map (aa5 s)) := fun s => by funext a; rw [aa5, aq1]
  rw [e1, e1]
  have hl1 : ∀ t ∈ ts, Lin (m + 2) (aa5 s t) := fun t h => by have := ak6 s (hts t h); rwa [hs] at this
  have hl2 : ∀ t ∈ ts, Lin (m + 1) (aa5 S t) := fun t h => by have := ak6 S (hts t h); rwa [hS] at this
  clear e1 hx hts
  intro a b ha hb hab
  unfold an0
  by_cases k0 : kd = 0
  ·rw [if_pos k0, if_pos k0]; exact hab
  rw [if_neg k0, if_neg k0]
  by_cases k1 : kd = 1
  ·rw [if_pos k1, if_pos k1]
   intro i hm hi
   cases i with
   | zero => rw [bi9] at hi; simp at hi
   | succ i =>
    obtain ⟨c, hc⟩ := ac0 (l := s) (i := i) (by omega)
    rw [aq3 hc, Bool.and_eq_true] at hi
    rw [aq3 (by rw [hE i (by omega)]; exact hc), hab i (by omega) hi.1, hi.2]
    rfl
  rw [if_neg k1, if_neg k1]
  by_cases k2 : kd = 2
  ·rw [if_pos k2, if_pos k2]
   clear k0 k1 k2
   induction ts generalizing a b with
   | nil => exact hab
   | cons t ts ih2 =>
    simp only [List.map_cons, List.foldl_cons]
    exact ih2 (fun u hu => ih u (by simp [hu])) (fun u hu => hl1 u (by simp [hu])) (fun u hu => hl2 u (by simp [hu])) _ _ ((hl1 t (by simp)).len _ ha) ((hl2 t (by simp)).len _ hb) (ih t (by simp) a b ha hb hab)
  rw [if_neg k2, if_neg k2]
  by_cases k3 : kd = 3
  ·rw [if_pos k3, if_pos k3]
   clear k0 k1 k2 k3
   have key : ∀ (us : List RT), (∀ t ∈ us, t ∈ ts) → ∀ o O, o.length = m + 2 → O.length = m + 1 → LeM m o O →
     LeM m ((us.map (aa5 s)).foldl (fun o f => orL o (f a)) o) ((us.map (aa5 S)).foldl (fun o f => orL o (f b)) O) := by
    intro us
    induction us with
    | nil => intro _ o O _ _ h; exact h
    | cons t us ih2 =>
     intro hm o O h1 h2 h
     have m1 := (hl1 t (hm t (by simp))).len _ ha
     have m2 := (hl2 t (hm t (by simp))).len _ hb
     simp only [List.map_cons, List.foldl_cons]
     exact ih2 (fun u hu => hm u (by simp [hu])) _ _ (by rw [af9 (by omega), h1]) (by rw [af9 (by omega), h2]) (h.or (ih t (hm t (by simp)) a b ha hb hab) (by omega) (by omega))
   exact key ts (fun _ h => h) _ _ (by rw [ah3, hs]) (by rw [ah3, hS]) fun i _ hi => by rw [ad8] at hi; simp at hi
  rw [if_neg k3, if_neg k3]
  have hh : ∃ f F, (ts.map (aa5 s)).headD (fun a => a) = f ∧ (ts.map (aa5 S)).headD (fun a => a) = F ∧ Lin (m + 2) f ∧ Lin (m + 1) F ∧ Cut2 m f F := by
   cases ts with
   | nil => exact ⟨_, _, rfl, rfl, Lin.id _, Lin.id _, fun _ _ _ _ h => h⟩
   | cons t ts => exact ⟨_, _, rfl, rfl, hl1 t (by simp), hl2 t (by simp), ih t (by simp)⟩
  obtain ⟨f, F, e1, e2, h1, h2, h3⟩ := hh
  rw [e1, e2]
  have p1 := (ae8 h1 lo.toNat).len _ ha
  have p2 := (ae8 h2 lo.toNat).len _ hb
  have hsm := dx9 h1 h2 h3 p1 p2 (dy1 h1 h2 h3 ha hb hab lo.toNat)
  by_cases hn : hi < 0
  ·rw [if_pos hn, if_pos hn, hs, hS]
   have := hsm (m + 2)
   rwa [ec1 h2 p2] at this
  ·rw [if_neg hn, if_neg hn]
   exact hsm _
def KM (m : Nat) (a b : List Bool) : Prop := LeM m a b ∧ (a.getD (m + 1) false = true → b.getD m false = true)
theorem dt1 {t : RT} (ht : t.Ok) (hn : aj3 t = true) (hb : ∀ a b, a.length = m + 2 → b.length = m + 1 → KM m a b → begT s t a = true → begT S t b = true) {a b : List Bool} (ha : a.length = m + 2) (hbl : b.length = m + 1) (h : KM m a b) :
  begT S t b = true ∨ KM m (aa5 s t a) (aa5 S t b) := by
 cases hv : begT S t b with
 | true => exact .inl rfl
 | false =>
  refine .inr ⟨ei1 hs hS hE ht a b ha hbl h.1, fun hx => ?_⟩
  have := hb a b ha hbl h (ck1 s ht hn (by omega) (by rw [hs]; exact hx))
  rw [hv] at this
  simp at this
theorem er0 {t : RT} (ht : t.Ok) : aj3 t = true → ∀ a b, a.length = m + 2 → b.length = m + 1 → KM m a b → begT s t a = true → begT S t b = true := by
 induction ht with
 | mk k w x ts lo hi hw hx hts ih =>
  intro hn a b ha hb hK hB
  simp only [aj3, Bool.and_eq_true] at hn
  obtain ⟨hn, hnl⟩ := hn
  have hm := bh7 hnl
  have hih := fun t h => ih t h (hm t h)
  have hl1 : ∀ t ∈ ts, Lin (m + 2) (aa5 s t) := fun t h => by have := ak6 s (hts t h); rwa [hs] at this
  have hl2 : ∀ t ∈ ts, Lin (m + 1) (aa5 S t) := fun t h => by have := ak6 S (hts t h); rwa [hS] at this
  rw [begT] at hB ⊢
  by_cases k0 : k = 0
  ·rw [if_pos k0] at hB ⊢
   rw [hS]; rw [hs] at hB
   exact hK.2 hB
  rw [if_neg k0] at hB ⊢
  by_cases k1 : k = 1
  ·rw [if_pos k1] at hB ⊢
   simp only [Bool.and_eq_true, Bool.or_eq_true] at hB ⊢
   refine ⟨hB.1, .inl ?_⟩
   rw [hS]
   rcases hB.2 with h | h
   ·rw [hs] at h; exact hK.2 h
   ·obtain ⟨c, hc⟩ := ac0 (l := s) (i := m) (by omega)
    rw [hs, aq3 hc, Bool.and_eq_true] at h
    exact hK.1 m (Nat.le_refl _) h.1
  rw [if_neg k1] at hB ⊢
  by_cases k2 : k = 2
  ·rw [if_pos k2] at hB ⊢
   rw [Bool.and_eq_true] at hB ⊢
   refine ⟨hB.1, ?_⟩
   have h2 := hB.2
   clear hB hn hx k0 k1 k2
   induction ts generalizing a b with
   | nil =>
    rw [begC] at h2 ⊢
    rw [hS]; rw [hs] at h2
    exact hK.2 h2
   | cons t ts ih2 =>
    rw [begC, Bool.or_eq_true] at h2 ⊢
    simp only [bh8, Bool.and_eq_true] at hnl
    rcases h2 with h2 | h2
    ·exact .inl (hih t (by simp) a b ha hb hK h2)
    ·rcases dt1 hs hS hE (hts t (by simp)) (hm t (by simp)) (hih t (by simp)) ha hb hK with h3 | h3
     ·exact .inl h3
     ·exact .inr (ih2 (fun u hu => hts u (by simp [hu])) (fun u hu => ih u (by simp [hu])) _ _ ((hl1 t (by simp)).len _ ha) ((hl2 t (by simp)).len _ hb) h3 hnl.2 (fun u hu => hm u (by simp [hu])) (fun u hu => hih u (by simp [hu])) (fun u hu => hl1 u (by simp [hu])) (fun u hu => hl2 u (by simp [hu])) h2)
  rw [if_neg k2] at hB ⊢
  by_cases k3 : k = 3
  ·rw [if_pos k3] at hB ⊢
   clear hn hx k0 k1 k2 k3 hl1 hl2 hnl
   induction ts with
   | nil => rw [begA] at hB; simp at hB
   | cons t ts ih2 =>
    rw [begA, Bool.or_eq_true] at hB ⊢
    rcases hB with h | h
    ·exact .inl (hih t (by simp) a b ha hb hK h)
    ·exact .inr (ih2 (fun u hu => hts u (by simp [hu])) (fun u hu => ih u (by simp [hu])) h (fun u hu => hm u (by simp [hu])) (fun u hu => hih u (by simp [hu])))
  rw [if_neg k3] at hB ⊢
  by_cases k4 : k = 4
  ·subst k4
   simp [bd3] at hn
   obtain ⟨hn1, hz, hlo, hlo2, hhi⟩ := hn
   match ts, hn1 with
   | [t0], _ =>
    have f1 := hl1 t0 (by simp)
    have f2 := hl2 t0 (by simp)
    have ok0 := hts t0 (by simp)
    have n0 := hm t0 (by simp)
    have g0 := hih t0 (by simp)
    rw [Bool.and_eq_true, Bool.or_eq_true, begR, Bool.or_eq_true] at hB ⊢
    refine ⟨hB.1, ?_⟩
    have chain : ∀ k, (∃ j, j < k ∧ begT S t0 (powN (aa5 S t0) j b) = true) ∨ KM m (powN (aa5 s t0) k a) (powN (aa5 S t0) k b) := by
     intro k
     induction k with
     | zero => exact .inr hK
     | succ k ih3 =>
      rcases ih3 with ⟨j, h1, h2⟩ | h
      ·exact .inl ⟨j, by omega, h2⟩
      ·rcases dt1 hs hS hE ok0 n0 g0 ((ae8 f1 k).len _ ha) ((ae8 f2 k).len _ hb) h with h3 | h3
       ·exact .inl ⟨k, by omega, h3⟩
       ·exact .inr h3
    have fin : ∀ k, k < co2 (m + 1) lo hi → begT s t0 (powN (aa5 s t0) k a) = true → opP (aa5 S t0) (begT S t0) (co2 m lo hi) b = true := by
     intro k hk hg
     have hj : ∃ j, j ≤ k ∧ begT S t0 (powN (aa5 S t0) j b) = true := by
      rcases chain k with ⟨j, h1, h2⟩ | h
      ·exact ⟨j, by omega, h2⟩
      ·exact ⟨k, Nat.le_refl _, g0 _ _ ((ae8 f1 k).len _ ha) ((ae8 f2 k).len _ hb) h hg⟩
     obtain ⟨j, h1, h2⟩ := hj
     by_cases hlt : j < co2 m lo hi
     ·exact bd2.2 ⟨j, hlt, h2⟩
     ·unfold co2 at hk hlt ⊢
      by_cases hn : hi < 0
      ·rw [if_pos hn] at hk hlt ⊢
       have e : j = lo.toNat + (m + 1) := by omega
       rw [e, bn4] at h2
       have p2 := (ae8 f2 lo.toNat).len _ hb
       have hadd : Add (m + 1) (begT S t0) := by have := er1 S ok0 n0; rwa [hS] at this
       have h3 := (bt5 f2 hadd p2 (k := m + 1)).2 ⟨m + 1, Nat.le_refl _, h2⟩
       rw [da3 f2 p2 (by omega)] at h3
       obtain ⟨i, h4, h5⟩ := (bt5 f2 hadd p2).1 h3
       rw [← bn4] at h5
       exact bd2.2 ⟨lo.toNat + i, by omega, h5⟩
      ·rw [if_neg hn] at hk hlt
       omega
    rw [hS]
    rcases hB.2 with h | h | h
    ·rw [hs] at h; exact .inl (hK.2 h)
    ·rw [hs] at h
     obtain ⟨k, h1, h2⟩ := bd2.1 h
     exact .inr (.inl (fin k h1 h2))
    ·rw [hs] at h
     cases hM : co2 (m + 1) lo hi with
     | zero =>
      rw [hM] at h
      exact .inl (hK.2 h)
     | succ k =>
      rw [hM] at h
      have := ck1 s ok0 n0 (a := powN (aa5 s t0) k a) (by rw [hs]; exact (ae8 f1 k).len _ ha) (by rw [hs]; exact h)
      exact .inr (.inl (fin k (by omega) this))
  ·simp [bd3, k0, k1, k2, k3, k4] at hn
end
section
variable {E : Env} [R : LawB E]
set_option maxHeartbeats 2000000 in
theorem bu1 (hAl : ∀ H, den E R.ag5 [] H = some (.ret (.bool true), H)) (hH : bt4 E R.al0 .u8) (hS : bb4 E R.ab1) {t : RT} (ht : t.Ok) (s : List UInt8) (H : Heap) :
  den E R.an3 [t.E, .str s] H = some (.ret (.bool true), H) := by
 have h1 := fun H => dt6 (E := E) ht H
 have hsz := eg5 (t := t)
 generalize cp3 t = hv at h1 hsz
 by_cases hg : hv = true ∨ s.length > 40
 ·cases ht with
  | mk kd w x0 ts lo hi hw hx0 hts =>
  obtain ⟨cx, ox⟩ := hx0.one
  refine ag1 R.ao3 (by simp) ?_
  unfold Gn.af7 Gn.ae5
  unfold RT.E at h1 ⊢
  unfold EV.one at ox
  unfold EV.cells at cx
  simp only at h1
  clear hsz
  cases hv with
  | true =>
   repeat' first | (simp (disch := first | omega | assumption) only [go_sem, simprocAttr, *]) | refine aa0 (fun hb=>?_) fun hb=>?_ | refine aa1 (fun hb=>?_) fun hb=>?_
   all_goals (try simp only [FX] at *)
   all_goals first | omega | exact aa4 rfl rfl
  | false =>
   have hl : s.length > 40 := by simpa using hg
   repeat' first | (simp (disch := first | omega | assumption) only [go_sem, simprocAttr, *]) | refine aa0 (fun hb=>?_) fun hb=>?_ | refine aa1 (fun hb=>?_) fun hb=>?_
   all_goals (try simp only [FX] at *)
   all_goals first | omega | exact aa4 rfl rfl
 ·have hv0 : hv = false := by cases hv <;> simp at hg ⊢
  have hs : s.length ≤ 40 := by omega
  subst hv0
  have hsz := hsz rfl
  have h3 := fun H => dh5 (E := E) hH hS ht s (by omega) H
  have h4 := fun H => bj9 (E := E) hH hS ht (by omega) s (by omega) H
  have h5 := fun H => bj9 (E := E) hH hS ht (by omega) (s.take (s.length - 1)) (by rw [List.length_take]; omega) H
  have e1 : (mayT t && (aa5 s t (atL s.length 0)).getD s.length false) = true → (mayT t && cb0 s t) = true := fun h => by
   rw [Bool.and_eq_true] at h ⊢
   have hn := co3 h.1
   exact ⟨h.1, by rw [cv9 s ht hn]; exact ck1 s ht hn (bg9 _ _) h.2⟩
  have e2 : s.length ≠ 0 → (mayT t && cb0 s t) = true → (mayT t && cb0 (s.take (s.length - 1)) t) = true := fun h0 h => by
   rw [Bool.and_eq_true] at h ⊢
   have hn := co3 h.1
   refine ⟨h.1, ?_⟩
   rw [cv9 _ ht hn]
   have h2 := h.2
   rw [cv9 s ht hn] at h2
   have hl : (s.take (s.length - 1)).length = s.length - 1 := by rw [List.length_take]; omega
   refine er0 (m := s.length - 1) (s := s) (by omega) hl (fun i hi => by rw [List.getElem?_take, if_pos hi]) ht hn _ _ (by rw [bg9]; omega) (by rw [bg9, hl]) ⟨fun i hi hx => ?_, fun hx => ?_⟩ h2
   ·rw [cd2 (by omega), decide_eq_true_eq] at hx
    subst hx
    rw [cd2 (by omega)]; rfl
   ·rw [cd2 (by omega), decide_eq_true_eq] at hx
    omega
  generalize (mayT t && (aa5 s t (atL s.length 0)).getD s.length false) = b1 at h3 e1
  generalize (mayT t && cb0 s t) = b2 at h4 e1 e2
  generalize (mayT t && cb0 (s.take (s.length - 1)) t) = b3 at h5 e2
  have hnat : ((s.length : Int) - 1).toNat = s.length - 1 := by omega
  cases ht with
  | mk kd w x0 ts lo hi hw hx0 hts =>
  obtain ⟨cx, ox⟩ := hx0.one
  refine ag1 R.ao3 (by simp) ?_
  unfold Gn.af7 Gn.ae5
  unfold RT.E at h1 h3 h4 h5 ⊢
  unfold EV.one at ox
  unfold EV.cells at cx
  simp only at h1 h3 h4 h5
  clear hg hsz
  cases b2 with
  | false =>
   have eb : b1 = false := by cases b1; rfl; exact absurd (e1 rfl) (by simp)
   subst eb
   clear e1 e2
   repeat' first | (simp (disch := first | omega | assumption) only [go_sem, simprocAttr, *]) | refine aa0 (fun hb=>?_) fun hb=>?_ | refine aa1 (fun hb=>?_) fun hb=>?_
   all_goals (try simp only [FX] at *)
   all_goals first | omega | exact aa4 rfl rfl
  | true =>
   clear e1
   by_cases h0 : s.length = 0
   ·clear e2 h5 hnat
    cases b1 with
    | true =>
     repeat' first | (simp (disch := first | omega | assumption) only [go_sem, simprocAttr, *]) | refine aa0 (fun hb=>?_) fun hb=>?_ | refine aa1 (fun hb=>?_) fun hb=>?_
     all_goals (try simp only [FX] at *)
     all_goals first | omega | exact aa4 rfl rfl
    | false =>
     repeat' first | (simp (disch := first | omega | assumption) only [go_sem, simprocAttr, *]) | refine aa0 (fun hb=>?_) fun hb=>?_ | refine aa1 (fun hb=>?_) fun hb=>?_
     all_goals (try simp only [FX] at *)
     all_goals first | omega | exact aa4 rfl rfl
   ·have e3 := e2 h0 rfl
    subst e3
    have hp : 0 < s.length := by omega
    clear e2
    cases b1 with
    | true =>
     repeat' first | (simp (disch := first | omega | assumption) only [go_sem, simprocAttr, Nat.sub_zero, *]) | refine aa0 (fun hb=>?_) fun hb=>?_ | refine aa1 (fun hb=>?_) fun hb=>?_
     all_goals (try simp only [FX] at *)
     all_goals first | omega | exact aa4 rfl rfl
    | false =>
     repeat' first | (simp (disch := first | omega | assumption) only [go_sem, simprocAttr, Nat.sub_zero, *]) | refine aa0 (fun hb=>?_) fun hb=>?_ | refine aa1 (fun hb=>?_) fun hb=>?_
     all_goals (try simp only [FX] at *)
     all_goals first | omega | skip
     exact aa4 rfl rfl
end
end Abs
