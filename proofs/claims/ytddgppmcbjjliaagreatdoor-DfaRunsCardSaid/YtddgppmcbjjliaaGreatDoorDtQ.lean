/- A part. -/
import Derived.Test.YtddgppmcbjjliaaGreatDoorDtA
set_option linter.all false
namespace Abs
open Go
set_option maxRecDepth 20000
theorem KH.grow2 {H : Heap} {m i : Nat} {G : Heap} {ow : Nat → Nat} {X1 X2 : EV} {xs : List EV} {rows : List (List Int)} {tags : List Int} (h : KH (H.length + m) i G ow X1 X2 xs rows tags) (ht : tags.length = i) (hi : i ≤ 100000) {y : EV} {l : List Int} (hy : Hold (H.length + m) G ow (3 + i) 1 y (intsE l)) (t : Int) :
  ∃ X1' X2' G1 G2 ow2, (∀ L : Heap, L.length = m → evAppend 1 24 X1 (.imm 1 [y]) (H ++ (L ++ G)) = some (X1', H ++ (L ++ G1))) ∧ (∀ L : Heap, L.length = m → evAppend 1 8 X2 (.imm 1 [.int .i64 t]) (H ++ (L ++ G1)) = some (X2', H ++ (L ++ G2))) ∧
   KH (H.length + m) (i + 1) G2 ow2 X1' X2' (xs ++ [y]) (rows ++ [l]) (tags ++ [t]) ∧ (∀ sz x es, Hold (H.length + m) G ow 0 sz x es → Hold (H.length + m) G2 ow2 0 sz x es) ∧ ∃ ow1, ∀ sz x es, Hold (H.length + m) G ow 0 sz x es → Hold (H.length + m) G1 ow1 0 sz x es := by
 obtain ⟨X1', G1, ow1, a1, b1, c1⟩ := h.n1.appendL y 24 (by omega) (by rw [hy.one.2]; rfl) (by rw [hy.one.2]; simp [hy.one.1]) (by rw [h.xl]; omega) (by omega)
 obtain ⟨X2', G2, ow2, a2, b2, c2⟩ := (c1 2 _ _ _ (by omega) h.n2).appendL (.int .i64 t) 8 (by omega) rfl rfl (by rw [intsE_len]; omega) (by omega)
 refine ⟨X1', X2', G1, G2, ow2, a1, a2, ⟨c2 1 _ _ _ (by omega) b1, by rw [show intsE (tags ++ [t]) = intsE tags ++ [.int .i64 t] by simp [intsE]]; exact b2, fun j z r hz hr => ?_, by simp [h.xl], by simp [h.rl]⟩, fun sz x es hx => c2 0 _ _ _ (by omega) (c1 0 _ _ _ (by omega) hx), ow1, fun sz x es hx => c1 0 _ _ _ (by omega) hx⟩
 refine c2 (3 + j) _ _ _ (by omega) (c1 (3 + j) _ _ _ (by omega) ?_)
 by_cases e : j < i
 ·rw [List.getElem?_append_left (by rw [h.xl]; exact e)] at hz
  rw [List.getElem?_append_left (by rw [h.rl]; exact e)] at hr
  exact h.nr j z r hz hr
 ·have hj : j = i := by
   have := (List.getElem?_eq_some_iff.1 hz).1
   rw [List.length_append, h.xl, List.length_singleton] at this
   omega
  subst hj
  rw [List.getElem?_append_right (by rw [h.xl]; omega), h.xl, Nat.sub_self] at hz
  rw [List.getElem?_append_right (by rw [h.rl]; omega), h.rl, Nat.sub_self] at hr
  simp only [List.getElem?_cons_zero, Option.some.injEq] at hz hr
  subst hz hr
  exact hy
section
variable {E : Env} [R : DfaR E]
set_option maxHeartbeats 4000000 in
theorem refTrim_den (d : DF) (g : d.Good) (H : Heap) : den E R.n_hackleref09_Trim [d.E] H = some (.ret d.trimE, H) := by
 obtain ⟨k1, k2, hle, hle2, o1, o2, hA, hL, hx1, hx2, hn, htk⟩ := d.facts
 unfold EV.one at o1 o2
 have g6 := g.le
 have gtl := g.tl
 rw [g.tl] at k2 hle2
 have hlive := fun H => refLive_den (R := R) d g H
 have h257 : List.take 257 ((tab 256 fun i => EV.int .u8 ((d.of i : Nat) : Int)) ++ [EV.int .i64 d.n, EV.nilsl, EV.nilsl]) = (tab 256 fun i => EV.int .u8 ((d.of i : Nat) : Int)) ++ [EV.int .i64 d.n] := by
  rw [List.take_append, List.take_of_length_le (by rw [tab_len]; omega), tab_len]; rfl
 refine den_of R.d_hackleref09_Trim (by simp) ?_
 unfold Gn.hackleref09_Trim Gn.hackleref09_Trim_r
 unfold DF.E at hlive ⊢
 refine Hd_cut2 (fun t H' => Sl t [(1, .ptr H.length 259 0 0), (2, .ptr (H.length + 1) 259 0 0)] ∧ H' = H ++ [some (.row 259 [.agg (dfc d.of d.n d.x1 d.x2)]), some (.row 259 [.agg ((tab 256 fun _ => EV.int .u8 0) ++ [EV.int .i64 0, EV.nilsl, EV.nilsl])])]) ?_ ?_
 ·repeat' first | (simp (disch := first | omega | assumption) only [go_sem, ↓reduceIte, simprocAttr, Sl, *]) | refine HG_split (fun hb=>?_) fun hb=>?_ | refine HC_split (fun hb=>?_) fun hb=>?_
 rintro t _ ⟨ht, rfl⟩
 simp (disch := omega) only [go_sem, ↓reduceIte, simprocAttr, Sl] at ht
 have hc1 : (List.take 257 (dfc d.of d.n d.x1 d.x2)).all EV.one = true := List.all_eq_true.2 fun x hx => List.all_eq_true.1 hA x (List.mem_of_mem_take hx)
 have hc2 : (List.take 257 (dfc d.of d.n d.x1 d.x2)).length = 257 := by rw [List.length_take, hL]; rfl
 have hc3 : List.take 257 (dfc d.of d.n d.x1 d.x2) ++ [EV.nilsl, EV.nilsl] = dfc d.of d.n .nilsl .nilsl := by rw [dfc_cls]; rfl
 have hLn := dfc_len (of := d.of) (n := d.n) (x1 := .nilsl) (x2 := .nilsl)
 have hAn : (dfc d.of d.n .nilsl .nilsl).all EV.one = true := DF.all ⟨d.of, d.n, .nilsl, .nilsl, [], [], [], d.hof, .nil, rfl, fun i y l h => by simp at h, .nil⟩
 have hOn : ∀ n, (EV.agg (dfc d.of d.n .nilsl .nilsl)).ok n = true := fun n => DF.ok ⟨d.of, d.n, .nilsl, .nilsl, [], [], [], d.hof, .nil, rfl, fun i y l h => by simp at h, .nil⟩
 have htn : (dfc d.of d.n .nilsl .nilsl).take 259 = dfc d.of d.n .nilsl .nilsl := dfc_take 259 (by omega)
 refine Hd_cut2 (fun t H' => Sl t [(1, .ptr H.length 259 0 0), (2, .ptr (H.length + 1) 259 0 0), (3, .ptr (H.length + 2) 259 0 0)] ∧ H' = H ++ [some (.row 259 [.agg (dfc d.of d.n d.x1 d.x2)]), some (.row 259 [.agg ((tab 256 fun _ => EV.int .u8 0) ++ [EV.int .i64 0, EV.nilsl, EV.nilsl])]), some (.row 259 [.agg (dfc d.of d.n .nilsl .nilsl)])]) ?_ ?_
 ·repeat' first | (simp (disch := first | omega | assumption) only [go_sem, ↓reduceIte, simprocAttr, Sl, *]) | refine HG_split (fun hb=>?_) fun hb=>?_ | refine HC_split (fun hb=>?_) fun hb=>?_
 rintro t _ ⟨ht, rfl⟩
 simp (disch := omega) only [go_sem, ↓reduceIte, simprocAttr, Sl] at ht
 clear hc1 hc2 hc3
 refine Hd_cut2 (fun t H' => Sl t [(1, .ptr H.length 259 0 0), (2, .ptr (H.length + 1) 259 0 0), (3, .ptr (H.length + 2) 259 0 0), (4, .imm 1 (boolsE d.liveL))] ∧ H' = H ++ [some (.row 259 [.agg (dfc d.of d.n d.x1 d.x2)]), some (.row 259 [.agg ((tab 256 fun _ => EV.int .u8 0) ++ [EV.int .i64 0, EV.nilsl, EV.nilsl])]), some (.row 259 [.agg (dfc d.of d.n .nilsl .nilsl)])]) ?_ ?_
 ·repeat' first | (simp (disch := first | omega | assumption) only [go_sem, ↓reduceIte, simprocAttr, Sl, *]) | refine HG_split (fun hb=>?_) fun hb=>?_ | refine HC_split (fun hb=>?_) fun hb=>?_
 rintro t2 _ ⟨ht2, rfl⟩
 simp (disch := omega) only [go_sem, ↓reduceIte, simprocAttr, Sl] at ht2
 clear ht t hlive
 have hll := liveL_len d
 have hbl := boolsE_len d.liveL
 have hlv : evLen false (.imm 1 (boolsE d.liveL)) = some d.rows.length := by show some (boolsE d.liveL).length = _; rw [hbl, hll]
 cases h0 : d.liveL[0]? with
 | none =>
  have hr0 : d.rows.length = 0 := by
   rw [List.getElem?_eq_none_iff] at h0
   omega
  have e : d.trimE = .agg (dfc d.of d.n .nilsl .nilsl) := by unfold DF.trimE; rw [h0]; simp
  rw [e]
  rw [hr0] at hlv
  clear e h0
  repeat' first | (simp (disch := first | omega | assumption) only [go_sem, ↓reduceIte, simprocAttr, *]) | refine HG_split (fun hb=>?_) fun hb=>?_ | refine HC_split (fun hb=>?_) fun hb=>?_
  all_goals (try simp only [FX] at *)
  all_goals first | omega | exact finV_drop (hOn _) rfl
 | some v =>
 have hN : 0 < d.rows.length := by
  have := (List.getElem?_eq_some_iff.1 h0).1
  omega
 have hg0 := boolsE_get h0
 have hel : evElem 1 0 (.imm 1 (boolsE d.liveL)) = some (.iptr [.bool v] 0) := by
  simp [evElem, hg0, EV.cells]
 cases v with
 | false =>
  have e : d.trimE = .agg (dfc d.of d.n .nilsl .nilsl) := by unfold DF.trimE; rw [h0]; simp
  rw [e]
  clear e h0 hg0
  repeat' first | (simp (disch := first | omega | assumption) only [go_sem, ↓reduceIte, simprocAttr, *]) | refine HG_split (fun hb=>?_) fun hb=>?_ | refine HC_split (fun hb=>?_) fun hb=>?_
  all_goals (try simp only [FX] at *)
  all_goals first | omega | exact finV_drop (hOn _) rfl
 | true =>
 have e : d.trimE = .agg (dfc d.of d.n (slE 1 ((d.bfs d.rows.length).rows.map fun l => slE 1 (intsE l))) (slE 1 (intsE (d.bfs d.rows.length).tags))) := by unfold DF.trimE; rw [h0]; simp
 rw [e]
 clear e
 refine Hd_cut2 (fun t H' => Sl t [(1, .ptr H.length 259 0 0), (2, .ptr (H.length + 1) 259 0 0), (3, .ptr (H.length + 2) 259 0 0), (4, .imm 1 (boolsE d.liveL))] ∧ H' = H ++ [some (.row 259 [.agg (dfc d.of d.n d.x1 d.x2)]), some (.row 259 [.agg ((tab 256 fun _ => EV.int .u8 0) ++ [EV.int .i64 0, EV.nilsl, EV.nilsl])]), some (.row 259 [.agg (dfc d.of d.n .nilsl .nilsl)])]) ?_ ?_
 ·repeat' first | (simp (disch := first | omega | assumption) only [go_sem, ↓reduceIte, simprocAttr, Sl, *]) | refine HG_split (fun hb=>?_) fun hb=>?_ | refine HC_split (fun hb=>?_) fun hb=>?_
  all_goals (try simp only [FX] at *)
  all_goals first | omega | skip
  all_goals simp [ht2]
 rintro t _ ⟨ht, rfl⟩
 simp (disch := omega) only [go_sem, ↓reduceIte, simprocAttr, Sl] at ht
 clear ht2 t2 hg0 h0 hel
 refine Hd_cut2 (fun t H' => Sl t [(1, .ptr H.length 259 0 0), (2, .ptr (H.length + 1) 259 0 0), (3, .ptr (H.length + 2) 259 0 0), (4, .imm 1 (boolsE d.liveL)), (5, .own (H.length + 3) 1 0 1)] ∧ H' = H ++ [some (.row 259 [.agg (dfc d.of d.n d.x1 d.x2)]), some (.row 259 [.agg ((tab 256 fun _ => EV.int .u8 0) ++ [EV.int .i64 0, EV.nilsl, EV.nilsl])]), some (.row 259 [.agg (dfc d.of d.n .nilsl .nilsl)]), some (.row 1 [.int .i64 0])]) ?_ ?_
 ·repeat' first | (simp (disch := first | omega | assumption) only [go_sem, ↓reduceIte, simprocAttr, Sl, *]) | refine HG_split (fun hb=>?_) fun hb=>?_ | refine HC_split (fun hb=>?_) fun hb=>?_
 rintro t2 _ ⟨ht2, rfl⟩
 simp (disch := omega) only [go_sem, ↓reduceIte, simprocAttr, Sl] at ht2
 clear ht t
 refine Hd_cut2 (fun t H' => ∃ i X1 X2 G ow xs, BI d i ∧ i = (d.bfs i).q.length ∧ KH (H.length + 3) i G ow X1 X2 xs (d.bfs i).rows (d.bfs i).tags ∧ Sl t [(1, .ptr H.length 259 0 0), (2, .ptr (H.length + 1) 259 0 0), (3, .ptr (H.length + 2) 259 0 0), (4, .imm 1 (boolsE d.liveL))] ∧ H' = H ++ some (.row 259 [.agg (dfc d.of d.n d.x1 d.x2)]) :: some (.row 259 [.agg ((tab 256 fun _ => EV.int .u8 0) ++ [EV.int .i64 0, EV.nilsl, EV.nilsl])]) :: some (.row 259 [.agg (dfc d.of d.n X1 X2)]) :: G) ?_ ?_
 ·repeat' first | (simp (disch := first | omega | assumption) only [go_sem, ↓reduceIte, simprocAttr, *]) | refine HG_split (fun hb=>?_) fun hb=>?_ | refine HC_split (fun hb=>?_) fun hb=>?_
  refine while_of (ι := Nat × EV × EV × EV × Heap × (Nat → Nat) × List EV) (fun i => BI d i.1 ∧ Hold (H.length + 3) i.2.2.2.2.1 i.2.2.2.2.2.1 0 1 i.2.2.2.1 (intsE (d.bfs i.1).q) ∧ KH (H.length + 3) i.1 i.2.2.2.2.1 i.2.2.2.2.2.1 i.2.1 i.2.2.1 i.2.2.2.2.2.2 (d.bfs i.1).rows (d.bfs i.1).tags) (fun i => d.rows.length - i.1)
   (fun i => [(1, .ptr H.length 259 0 0), (2, .ptr (H.length + 1) 259 0 0), (3, .ptr (H.length + 2) 259 0 0), (4, .imm 1 (boolsE d.liveL)), (5, i.2.2.2.1), (6, .int .i64 i.1)]) (fun i => H ++ some (.row 259 [.agg (dfc d.of d.n d.x1 d.x2)]) :: some (.row 259 [.agg ((tab 256 fun _ => EV.int .u8 0) ++ [EV.int .i64 0, EV.nilsl, EV.nilsl])]) :: some (.row 259 [.agg (dfc d.of d.n i.2.1 i.2.2.1)]) :: i.2.2.2.2.1) (0, .nilsl, .nilsl, .own (H.length + 3) 1 0 1, [some (.row 1 [.int .i64 0])], (fun _ => 0), []) ⟨.zero hN, .inr ⟨0, rfl, rfl, rfl, by simp [intsE, DF.bfs]⟩, .start⟩ ?_ (by first | rfl | simp [DF.bfs]) ?_
  ·simp (disch := omega) only [go_sem, ↓reduceIte, simprocAttr, Sl, ht2]
  rintro ⟨i, X1, X2, Q, G, ow, xs⟩ t ⟨hB, hQ, hK0⟩ ht K hK
  simp only at hB hQ hK0
  simp (disch := omega) only [go_sem, ↓reduceIte, simprocAttr, Sl] at ht
  clear ht2 t2
  generalize hq : (d.bfs i).q = q at hQ
  have hqi := hB.qi
  have hle := hB.le
  rw [hq] at hqi hle
  have hqle := hqi.le
  have lX1 := hK0.n1.len
  have lX2 := hK0.n2.len
  rw [hK0.xl] at lX1
  rw [intsE_len, hB.tl] at lX2
  have lQ := hQ.len
  rw [intsE_len] at lQ
  have oX1 := hK0.n1.one.1
  have oX2 := hK0.n2.one.1
  have dX1 := dfc_x1 (of := d.of) (n := d.n) (x1 := X1) (x2 := X2)
  have dX2 := dfc_x2 (of := d.of) (n := d.n) (x1 := X1) (x2 := X2)
  have dXL := dfc_len (of := d.of) (n := d.n) (x1 := X1) (x2 := X2)
  unfold EV.one at oX1 oX2
  show @Hd E ⟨_⟩ ⟨t⟩ ⟨H ++ some (.row 259 [.agg (dfc d.of d.n d.x1 d.x2)]) :: some (.row 259 [.agg ((tab 256 fun _ => EV.int .u8 0) ++ [EV.int .i64 0, EV.nilsl, EV.nilsl])]) :: some (.row 259 [.agg (dfc d.of d.n X1 X2)]) :: G⟩ ⟨_⟩
  by_cases hlt : i < q.length
  ·refine Hd_cut2 (fun t H' => Sl t [(1, .ptr H.length 259 0 0), (2, .ptr (H.length + 1) 259 0 0), (3, .ptr (H.length + 2) 259 0 0), (4, .imm 1 (boolsE d.liveL)), (5, Q), (6, .int .i64 i)] ∧ H' = H ++ some (.row 259 [.agg (dfc d.of d.n d.x1 d.x2)]) :: some (.row 259 [.agg ((tab 256 fun _ => EV.int .u8 0) ++ [EV.int .i64 0, EV.nilsl, EV.nilsl])]) :: some (.row 259 [.agg (dfc d.of d.n X1 X2)]) :: G) ?_ ?_
   ·clear hK hB hQ hK0
    repeat' first | (simp (disch := first | omega | assumption) only [go_sem, ↓reduceIte, simprocAttr, Sl, *]) | refine HG_split (fun hb=>?_) fun hb=>?_ | refine HC_split (fun hb=>?_) fun hb=>?_
    all_goals (try simp only [FX] at *)
    all_goals first | omega | skip
    all_goals simp [ht]
   rintro t2 _ ⟨ht2, rfl⟩
   simp (disch := omega) only [go_sem, ↓reduceIte, simprocAttr, Sl] at ht2
   clear ht t
   obtain ⟨x, hx⟩ := get_some hlt
   have hxr := hqi.rng x (List.mem_of_getElem? hx)
   obtain ⟨l, hl⟩ := get_some (l := d.rows) (i := x.toNat) (by omega)
   obtain ⟨tg, htg⟩ := get_some (l := d.tags) (i := x.toNat) (by omega)
   obtain ⟨y, hy, hyv, hat⟩ := d.rowI hxr.1 hl
   have hat2 := d.h2.elemI (k := x) (e := .int .i64 tg) hxr.1 (intsE_get htg)
   have hyl := hyv.lenI
   have hyle := hyv.leI
   have hyo := hyv.one.2
   unfold EV.one at hyo
   have hlm := List.mem_of_getElem? hl
   have hln := g.len l hlm
   have hl256 : l.length ≤ 1000000 := by have := mayC_le g.mayC; omega
   clear hln
   have hqx : (d.bfs i).q[i]? = some x := by rw [hq]; exact hx
   have hnext := bfs_next hqx
   rw [hq, show d.rows.getD x.toNat [] = l by simp [List.getD_eq_getElem?_getD, hl], show d.tags.getD x.toNat 0 = tg by simp [List.getD_eq_getElem?_getD, htg]] at hnext
   have hBn := hB.next g hqx
   rw [Hd_seq, Hd_block]
   refine Hd_cut2 (fun t H' => Sl t [(1, .ptr H.length 259 0 0), (2, .ptr (H.length + 1) 259 0 0), (3, .ptr (H.length + 2) 259 0 0), (4, .imm 1 (boolsE d.liveL)), (5, Q), (6, .int .i64 i), (7, .nilsl)] ∧ H' = H ++ some (.row 259 [.agg (dfc d.of d.n d.x1 d.x2)]) :: some (.row 259 [.agg ((tab 256 fun _ => EV.int .u8 0) ++ [EV.int .i64 0, EV.nilsl, EV.nilsl])]) :: some (.row 259 [.agg (dfc d.of d.n X1 X2)]) :: G) ?_ ?_
   ·repeat' first | (simp (disch := first | omega | assumption) only [go_sem, ↓reduceIte, simprocAttr, Sl, *]) | refine HG_split (fun hb=>?_) fun hb=>?_ | refine HC_split (fun hb=>?_) fun hb=>?_
    all_goals simp [ht2]
   rintro t _ ⟨ht, rfl⟩
   simp (disch := omega) only [go_sem, ↓reduceIte, simprocAttr, Sl] at ht
   clear ht2 t2
   refine Hd_cut2 (fun t H' => ∃ Q2 W2 G2 ow2, Hold (H.length + 3) G2 ow2 0 1 Q2 (intsE (rowT d.liveL q l).1) ∧ Hold (H.length + 3) G2 ow2 (3 + i) 1 W2 (intsE (rowT d.liveL q l).2) ∧ KH (H.length + 3) i G2 ow2 X1 X2 xs (d.bfs i).rows (d.bfs i).tags ∧
    Sl t [(1, .ptr H.length 259 0 0), (2, .ptr (H.length + 1) 259 0 0), (3, .ptr (H.length + 2) 259 0 0), (4, .imm 1 (boolsE d.liveL)), (5, Q2), (6, .int .i64 i), (7, W2)] ∧ H' = H ++ some (.row 259 [.agg (dfc d.of d.n d.x1 d.x2)]) :: some (.row 259 [.agg ((tab 256 fun _ => EV.int .u8 0) ++ [EV.int .i64 0, EV.nilsl, EV.nilsl])]) :: some (.row 259 [.agg (dfc d.of d.n X1 X2)]) :: G2) ?_ ?_
   ·clear hK hB hnext hBn
    repeat' first | (simp (disch := first | omega | assumption) only [go_sem, ↓reduceIte, simprocAttr, *]) | refine HG_split (fun hb=>?_) fun hb=>?_ | refine HC_split (fun hb=>?_) fun hb=>?_
    all_goals (try simp only [FX] at *)
    all_goals first | omega | skip
    refine while_of (ι := Nat × EV × EV × Heap × (Nat → Nat)) (fun c => c.1 ≤ l.length ∧ Hold (H.length + 3) c.2.2.2.1 c.2.2.2.2 0 1 c.2.1 (intsE (rowP d.liveL q l c.1).1) ∧ Hold (H.length + 3) c.2.2.2.1 c.2.2.2.2 (3 + i) 1 c.2.2.1 (intsE (rowP d.liveL q l c.1).2) ∧ KH (H.length + 3) i c.2.2.2.1 c.2.2.2.2 X1 X2 xs (d.bfs i).rows (d.bfs i).tags) (fun c => l.length - c.1)
     (fun c => [(1, .ptr H.length 259 0 0), (2, .ptr (H.length + 1) 259 0 0), (3, .ptr (H.length + 2) 259 0 0), (4, .imm 1 (boolsE d.liveL)), (5, c.2.1), (6, .int .i64 i), (7, c.2.2.1), (8, .int .i64 c.1)]) (fun c => H ++ some (.row 259 [.agg (dfc d.of d.n d.x1 d.x2)]) :: some (.row 259 [.agg ((tab 256 fun _ => EV.int .u8 0) ++ [EV.int .i64 0, EV.nilsl, EV.nilsl])]) :: some (.row 259 [.agg (dfc d.of d.n X1 X2)]) :: c.2.2.2.1) (0, Q, .nilsl, G, ow) ⟨by omega, hQ, .inl ⟨rfl, rfl⟩, hK0⟩ ?_ rfl ?_
    ·simp (disch := omega) only [go_sem, ↓reduceIte, simprocAttr, Sl, ht]
    clear hQ hK0 ht t
    rintro ⟨c, Q1, W1, Gc, owc⟩ t ⟨hc, hQ1, hr1, hK1⟩ ht K hK
    simp only at hc hQ1 hr1 hK1
    simp (disch := omega) only [go_sem, ↓reduceIte, simprocAttr, Sl] at ht
    have hpl := rowP_len d.liveL q hc
    have hpq := rowP_qi g hqi l c
    have hpx := rowP_get d.liveL (l := l) (c := c) hx
    generalize hp : rowP d.liveL q l c = p at hpl hpq hpx hQ1 hr1
    have hpi := (List.getElem?_eq_some_iff.1 hpx).1
    have hple := hpq.le
    obtain ⟨kq, hkq, hrq⟩ := hQ1.readL (intsE_ne (by omega))
    have hilq := intsE_len p.1
    rw [hilq] at hkq
    have hrq1 := hrq [some (.row 259 [.agg (dfc d.of d.n d.x1 d.x2)]), some (.row 259 [.agg ((tab 256 fun _ => EV.int .u8 0) ++ [EV.int .i64 0, EV.nilsl, EV.nilsl])]), some (.row 259 [.agg (dfc d.of d.n X1 X2)])] rfl
    simp only [List.cons_append, List.nil_append] at hrq1
    have hgq := intsE_get hpx
    have lQ1 := hQ1.len
    rw [intsE_len] at lQ1
    by_cases hcl : c < l.length
    ·obtain ⟨z, hz⟩ := get_some hcl
     have hzr := g.rng l hlm z (List.mem_of_getElem? hz)
     have hat3 := hyv.at hz
     have hpn := rowP_next d.liveL q hz
     rw [hp] at hpn
     have hins : ∀ v : Int, intsE p.2 ++ [EV.int .i64 v] = intsE (p.2 ++ [v]) := fun v => by simp [intsE]
     by_cases hs : seesP d.liveL z = true
     ·have hz2 := seesP_live g hs
      obtain ⟨bz, hbz⟩ := get_some (l := d.liveL) (i := z.toNat) (by rw [hll]; omega)
      obtain rfl : bz = true := by rw [← seesP_eq hz2.1 hbz]; exact hs
      have hbz1 := boolsE_get hbz
      have hel : evElem 1 z (.imm 1 (boolsE d.liveL)) = some (.iptr [.bool true] 0) := by
       simp [evElem, hbz1, EV.cells, hz2.1]
      have hkQ := hkq
      subst hkq
      clear hbz hp
      show @Hd E ⟨_⟩ ⟨t⟩ ⟨H ++ some (.row 259 [.agg (dfc d.of d.n d.x1 d.x2)]) :: some (.row 259 [.agg ((tab 256 fun _ => EV.int .u8 0) ++ [EV.int .i64 0, EV.nilsl, EV.nilsl])]) :: some (.row 259 [.agg (dfc d.of d.n X1 X2)]) :: Gc⟩ ⟨_⟩
      have hsave := hr1
      have hsaveQ := hQ1
      refine Hd_cut2 (fun t H' => Sl t [(1, .ptr H.length 259 0 0), (2, .ptr (H.length + 1) 259 0 0), (3, .ptr (H.length + 2) 259 0 0), (4, .imm 1 (boolsE d.liveL)), (5, .own (H.length + 3 + kq) 1 0 p.1.length), (6, .int .i64 i), (7, W1), (8, .int .i64 c)] ∧ H' = H ++ some (.row 259 [.agg (dfc d.of d.n d.x1 d.x2)]) :: some (.row 259 [.agg ((tab 256 fun _ => EV.int .u8 0) ++ [EV.int .i64 0, EV.nilsl, EV.nilsl])]) :: some (.row 259 [.agg (dfc d.of d.n X1 X2)]) :: Gc) ?_ ?_
      ·clear hK hpn hQ1 hr1 hK1 hs hsave hsaveQ hrq hkQ
       repeat' first | (simp (disch := first | omega | assumption) only [go_sem, ↓reduceIte, simprocAttr, Sl, *]) | refine HG_split (fun hb=>?_) fun hb=>?_ | refine HC_split (fun hb=>?_) fun hb=>?_
       all_goals (try simp only [FX] at *)
       all_goals first | omega | skip
       all_goals simp [ht]
      rintro t2 _ ⟨ht2, rfl⟩
      simp (disch := omega) only [go_sem, ↓reduceIte, simprocAttr, Sl] at ht2
      clear ht t
      rw [Hd_seq, Hd_block]
      refine Hd_cut2 (fun t H' => Sl t [(1, .ptr H.length 259 0 0), (2, .ptr (H.length + 1) 259 0 0), (3, .ptr (H.length + 2) 259 0 0), (4, .imm 1 (boolsE d.liveL)), (5, .own (H.length + 3 + kq) 1 0 p.1.length), (6, .int .i64 i), (7, W1), (8, .int .i64 c), (9, .int .i64 z)] ∧ H' = H ++ some (.row 259 [.agg (dfc d.of d.n d.x1 d.x2)]) :: some (.row 259 [.agg ((tab 256 fun _ => EV.int .u8 0) ++ [EV.int .i64 0, EV.nilsl, EV.nilsl])]) :: some (.row 259 [.agg (dfc d.of d.n X1 X2)]) :: Gc) ?_ ?_
      ·clear hK hpn hQ1 hr1 hK1 hs hsave hsaveQ hrq hkQ
       repeat' first | (simp (disch := first | omega | assumption) only [go_sem, ↓reduceIte, simprocAttr, Sl, *]) | refine HG_split (fun hb=>?_) fun hb=>?_ | refine HC_split (fun hb=>?_) fun hb=>?_
       all_goals (try simp only [FX] at *)
       all_goals first | omega | skip
      rintro t _ ⟨ht, rfl⟩
      simp (disch := omega) only [go_sem, ↓reduceIte, simprocAttr, Sl] at ht
      clear ht2 t2
      refine Hd_cut2 (fun t H' => Sl t [(1, .ptr H.length 259 0 0), (2, .ptr (H.length + 1) 259 0 0), (3, .ptr (H.length + 2) 259 0 0), (4, .imm 1 (boolsE d.liveL)), (5, .own (H.length + 3 + kq) 1 0 p.1.length), (6, .int .i64 i), (7, W1), (8, .int .i64 c), (9, .int .i64 z), (10, .int .i64 (-1))] ∧ H' = H ++ some (.row 259 [.agg (dfc d.of d.n d.x1 d.x2)]) :: some (.row 259 [.agg ((tab 256 fun _ => EV.int .u8 0) ++ [EV.int .i64 0, EV.nilsl, EV.nilsl])]) :: some (.row 259 [.agg (dfc d.of d.n X1 X2)]) :: Gc) ?_ ?_
      ·clear hK hpn hQ1 hr1 hK1 hs hsave hsaveQ hrq hkQ
       repeat' first | (simp (disch := first | omega | assumption) only [go_sem, ↓reduceIte, simprocAttr, Sl, *]) | refine HG_split (fun hb=>?_) fun hb=>?_ | refine HC_split (fun hb=>?_) fun hb=>?_
      rintro t2 _ ⟨ht2, rfl⟩
      simp (disch := omega) only [go_sem, ↓reduceIte, simprocAttr, Sl] at ht2
      clear ht t hsave hsaveQ hkQ
      have hk0 := kAt_zero p.1 z
      by_cases hmm : z ∈ p.1
      ·have hpn' : rowP d.liveL q l (c + 1) = (p.1, p.2 ++ [(p.1.idxOf z : Int)]) := by rw [hpn]; unfold stepT; rw [if_pos hs, if_pos hmm]
       have hfin : kAt p.1 z p.1.length = (p.1.idxOf z : Int) := by rw [kAt_all, if_pos hmm]
       generalize p.1.idxOf z = v at hpn' hfin
       obtain ⟨W2, Gq, owq, hap, hWq, hoq⟩ := hr1.appendL (.int .i64 v) 8 (by omega) rfl rfl (by rw [intsE_len]; omega) (by omega)
       rw [hins] at hWq
       have hap1 := hap [some (.row 259 [.agg (dfc d.of d.n d.x1 d.x2)]), some (.row 259 [.agg ((tab 256 fun _ => EV.int .u8 0) ++ [EV.int .i64 0, EV.nilsl, EV.nilsl])]), some (.row 259 [.agg (dfc d.of d.n X1 X2)])] rfl
       simp only [List.cons_append, List.nil_append] at hap1
       have hKq := hK1.others (.inr rfl) hoq
       have hQq := hoq 0 _ _ _ (by omega) hQ1
       have hk := hK (c + 1, .own (H.length + 3 + kq) 1 0 p.1.length, W2, Gq, owq)
       simp only [hpn'] at hk
       clear hK hpn hpn' hQ1 hr1 hK1 hs hrq hoq hap hins
       repeat' first | (simp (disch := first | omega | assumption) only [go_sem, ↓reduceIte, simprocAttr, *]) | refine HG_split (fun hb=>?_) fun hb=>?_ | refine HC_split (fun hb=>?_) fun hb=>?_
       refine while_of (ι := Nat) (fun j => j ≤ p.1.length) (fun j => p.1.length - j) (fun j => [(1, .ptr H.length 259 0 0), (2, .ptr (H.length + 1) 259 0 0), (3, .ptr (H.length + 2) 259 0 0), (4, .imm 1 (boolsE d.liveL)), (5, .own (H.length + 3 + kq) 1 0 p.1.length), (6, .int .i64 i), (7, W1), (8, .int .i64 c), (9, .int .i64 z), (10, .int .i64 (kAt p.1 z j)), (11, .int .i64 j)]) (fun _ => H ++ some (.row 259 [.agg (dfc d.of d.n d.x1 d.x2)]) :: some (.row 259 [.agg ((tab 256 fun _ => EV.int .u8 0) ++ [EV.int .i64 0, EV.nilsl, EV.nilsl])]) :: some (.row 259 [.agg (dfc d.of d.n X1 X2)]) :: Gc) 0 (by omega) ?_ rfl ?_
       ·simp (disch := omega) only [go_sem, ↓reduceIte, simprocAttr, Sl, ht2, hk0]
       rintro j t3 hj ht3 K3 hK3
       simp (disch := omega) only [go_sem, ↓reduceIte, simprocAttr, Sl] at ht3
       by_cases hjl : j < p.1.length
       ·obtain ⟨w, hw⟩ := get_some hjl
        have hgw := intsE_get hw
        have hk3 := hK3 (j + 1)
        by_cases e : w = z
        ·subst e
         have hkh := kAt_hit hpq.nd hw
         rw [hkh] at hk3
         clear hK3 hk hw
         repeat' first | (simp (disch := first | omega | assumption) only [go_sem, ↓reduceIte, simprocAttr, *]) | refine HG_split (fun hb=>?_) fun hb=>?_ | refine HC_split (fun hb=>?_) fun hb=>?_
         all_goals (try simp only [FX] at *)
         all_goals first | omega | exact absurd rfl (by assumption) | skip
         refine hk3 _ _ (by omega) (by omega) ?_ rfl
         simp (disch := omega) only [go_sem, ↓reduceIte, simprocAttr, Sl, ht3, and_self, cast_succ]
        ·have hkm := kAt_miss hw e
         rw [hkm] at hk3
         clear hK3 hk hw
         repeat' first | (simp (disch := first | omega | assumption) only [go_sem, ↓reduceIte, simprocAttr, *]) | refine HG_split (fun hb=>?_) fun hb=>?_ | refine HC_split (fun hb=>?_) fun hb=>?_
         all_goals (try simp only [FX] at *)
         all_goals first | omega | skip
         refine hk3 _ _ (by omega) (by omega) ?_ rfl
         simp (disch := omega) only [go_sem, ↓reduceIte, simprocAttr, Sl, ht3, and_self, cast_succ]
       ·-- the end
        have hje : j = p.1.length := by omega
        subst hje
        rw [hfin] at ht3
        clear hK3
        repeat' first | (simp (disch := first | omega | assumption) only [go_sem, ↓reduceIte, simprocAttr, *]) | refine HG_split (fun hb=>?_) fun hb=>?_ | refine HC_split (fun hb=>?_) fun hb=>?_
        all_goals (try simp only [FX] at *)
        all_goals first | omega | skip
        refine hk _ _ ⟨by omega, hQq, hWq, hKq⟩ (by omega) ?_ rfl
        simp (disch := omega) only [go_sem, ↓reduceIte, simprocAttr, Sl, ht3, and_self, cast_succ]
      ·have hidx : p.1.idxOf z = p.1.length := List.idxOf_eq_length hmm
       have hpn' : rowP d.liveL q l (c + 1) = (p.1 ++ [z], p.2 ++ [(p.1.length : Int)]) := by rw [hpn]; unfold stepT; rw [if_pos hs, if_neg hmm, hidx]
       have hfin : kAt p.1 z p.1.length = -1 := by rw [kAt_all, if_neg hmm]
       obtain ⟨Q2, Gq, owq, hap, hQq, hoq⟩ := hQ1.appendL (.int .i64 z) 8 (by omega) rfl rfl (by rw [intsE_len]; omega) (by omega)
       rw [show intsE p.1 ++ [EV.int .i64 z] = intsE (p.1 ++ [z]) by simp [intsE]] at hQq
       have hap1 := hap [some (.row 259 [.agg (dfc d.of d.n d.x1 d.x2)]), some (.row 259 [.agg ((tab 256 fun _ => EV.int .u8 0) ++ [EV.int .i64 0, EV.nilsl, EV.nilsl])]), some (.row 259 [.agg (dfc d.of d.n X1 X2)])] rfl
       simp only [List.cons_append, List.nil_append] at hap1
       have hKq := hK1.others (.inl rfl) hoq
       obtain ⟨W2, Gr, owr, har, hWr, hor⟩ := (hoq (3 + i) _ _ _ (by omega) hr1).appendL (.int .i64 p.1.length) 8 (by omega) rfl rfl (by rw [intsE_len]; omega) (by omega)
       rw [hins] at hWr
       have har1 := har [some (.row 259 [.agg (dfc d.of d.n d.x1 d.x2)]), some (.row 259 [.agg ((tab 256 fun _ => EV.int .u8 0) ++ [EV.int .i64 0, EV.nilsl, EV.nilsl])]), some (.row 259 [.agg (dfc d.of d.n X1 X2)])] rfl
       simp only [List.cons_append, List.nil_append] at har1
       have hKr := hKq.others (.inr rfl) hor
       have hQr := hor 0 _ _ _ (by omega) hQq
       have hk := hK (c + 1, Q2, W2, Gr, owr)
       simp only [hpn'] at hk
       clear hK hpn hpn' hQ1 hr1 hK1 hs hrq hoq hap hins hor har hidx hKq hQq
       repeat' first | (simp (disch := first | omega | assumption) only [go_sem, ↓reduceIte, simprocAttr, *]) | refine HG_split (fun hb=>?_) fun hb=>?_ | refine HC_split (fun hb=>?_) fun hb=>?_
       refine while_of (ι := Nat) (fun j => j ≤ p.1.length) (fun j => p.1.length - j) (fun j => [(1, .ptr H.length 259 0 0), (2, .ptr (H.length + 1) 259 0 0), (3, .ptr (H.length + 2) 259 0 0), (4, .imm 1 (boolsE d.liveL)), (5, .own (H.length + 3 + kq) 1 0 p.1.length), (6, .int .i64 i), (7, W1), (8, .int .i64 c), (9, .int .i64 z), (10, .int .i64 (kAt p.1 z j)), (11, .int .i64 j)]) (fun _ => H ++ some (.row 259 [.agg (dfc d.of d.n d.x1 d.x2)]) :: some (.row 259 [.agg ((tab 256 fun _ => EV.int .u8 0) ++ [EV.int .i64 0, EV.nilsl, EV.nilsl])]) :: some (.row 259 [.agg (dfc d.of d.n X1 X2)]) :: Gc) 0 (by omega) ?_ rfl ?_
       ·simp (disch := omega) only [go_sem, ↓reduceIte, simprocAttr, Sl, ht2, hk0]
       rintro j t3 hj ht3 K3 hK3
       simp (disch := omega) only [go_sem, ↓reduceIte, simprocAttr, Sl] at ht3
       by_cases hjl : j < p.1.length
       ·obtain ⟨w, hw⟩ := get_some hjl
        have hgw := intsE_get hw
        have hk3 := hK3 (j + 1)
        by_cases e : w = z
        ·subst e
         have hkh := kAt_hit hpq.nd hw
         rw [hkh] at hk3
         clear hK3 hk hw
         repeat' first | (simp (disch := first | omega | assumption) only [go_sem, ↓reduceIte, simprocAttr, *]) | refine HG_split (fun hb=>?_) fun hb=>?_ | refine HC_split (fun hb=>?_) fun hb=>?_
         all_goals (try simp only [FX] at *)
         all_goals first | omega | exact absurd rfl (by assumption) | skip
         refine hk3 _ _ (by omega) (by omega) ?_ rfl
         simp (disch := omega) only [go_sem, ↓reduceIte, simprocAttr, Sl, ht3, and_self, cast_succ]
        ·have hkm := kAt_miss hw e
         rw [hkm] at hk3
         clear hK3 hk hw
         repeat' first | (simp (disch := first | omega | assumption) only [go_sem, ↓reduceIte, simprocAttr, *]) | refine HG_split (fun hb=>?_) fun hb=>?_ | refine HC_split (fun hb=>?_) fun hb=>?_
         all_goals (try simp only [FX] at *)
         all_goals first | omega | skip
         refine hk3 _ _ (by omega) (by omega) ?_ rfl
         simp (disch := omega) only [go_sem, ↓reduceIte, simprocAttr, Sl, ht3, and_self, cast_succ]
       ·-- the end
        have hje : j = p.1.length := by omega
        subst hje
        rw [hfin] at ht3
        clear hK3
        repeat' first | (simp (disch := first | omega | assumption) only [go_sem, ↓reduceIte, simprocAttr, *]) | refine HG_split (fun hb=>?_) fun hb=>?_ | refine HC_split (fun hb=>?_) fun hb=>?_
        all_goals (try simp only [FX] at *)
        all_goals first | omega | skip
        refine hk _ _ ⟨by omega, hQr, hWr, hKr⟩ (by omega) ?_ rfl
        simp (disch := omega) only [go_sem, ↓reduceIte, simprocAttr, Sl, ht3, and_self, cast_succ]
     ·have hpn' : rowP d.liveL q l (c + 1) = (p.1, p.2 ++ [-1]) := by rw [hpn]; unfold stepT; rw [if_neg hs]
      obtain ⟨W2, Gq, owq, hap, hWq, hoq⟩ := hr1.appendL (.int .i64 (-1)) 8 (by omega) rfl rfl (by rw [intsE_len]; omega) (by omega)
      rw [hins] at hWq
      have hap1 := hap [some (.row 259 [.agg (dfc d.of d.n d.x1 d.x2)]), some (.row 259 [.agg ((tab 256 fun _ => EV.int .u8 0) ++ [EV.int .i64 0, EV.nilsl, EV.nilsl])]), some (.row 259 [.agg (dfc d.of d.n X1 X2)])] rfl
      simp only [List.cons_append, List.nil_append] at hap1
      have hKq := hK1.others (.inr rfl) hoq
      have hQq := hoq 0 _ _ _ (by omega) hQ1
      have hk := hK (c + 1, Q1, W2, Gq, owq)
      simp only [hpn'] at hk
      subst hkq
      by_cases hz0 : 0 ≤ z
      ·obtain ⟨bz, hbz⟩ := get_some (l := d.liveL) (i := z.toNat) (by rw [hll]; omega)
       obtain rfl : bz = false := by
        have := seesP_eq hz0 hbz
        cases bz with
        | false => rfl
        | true => exact absurd this hs
       have hbz1 := boolsE_get hbz
       have hel : evElem 1 z (.imm 1 (boolsE d.liveL)) = some (.iptr [.bool false] 0) := by
        simp [evElem, hbz1, EV.cells, hz0]
       clear hK hpn hpn' hp hs hbz hK1 hQ1 hr1 hoq hap hins hrq
       repeat' first | (simp (disch := first | omega | assumption) only [go_sem, ↓reduceIte, simprocAttr, *]) | refine HG_split (fun hb=>?_) fun hb=>?_ | refine HC_split (fun hb=>?_) fun hb=>?_
       all_goals (try simp only [FX] at *)
       all_goals first | omega | skip
       refine hk _ _ ⟨by omega, hQq, hWq, hKq⟩ (by omega) ?_ rfl
       simp (disch := omega) only [go_sem, ↓reduceIte, simprocAttr, Sl, ht, and_self, cast_succ]
      ·clear hK hpn hpn' hp hs hK1 hQ1 hr1 hoq hap hins hrq
       repeat' first | (simp (disch := first | omega | assumption) only [go_sem, ↓reduceIte, simprocAttr, *]) | refine HG_split (fun hb=>?_) fun hb=>?_ | refine HC_split (fun hb=>?_) fun hb=>?_
       all_goals (try simp only [FX] at *)
       all_goals first | omega | skip
       refine hk _ _ ⟨by omega, hQq, hWq, hKq⟩ (by omega) ?_ rfl
       simp (disch := omega) only [go_sem, ↓reduceIte, simprocAttr, Sl, ht, and_self, cast_succ]
    ·have hce : c = l.length := by omega
     subst hce
     rw [rowP_full] at hp
     rw [← hp] at hQ1 hr1
     clear hK hpq hpl hp hrq hple
     subst hkq
     repeat' first | (simp (disch := first | omega | assumption) only [go_sem, ↓reduceIte, simprocAttr, *]) | refine HG_split (fun hb=>?_) fun hb=>?_ | refine HC_split (fun hb=>?_) fun hb=>?_
     all_goals (try simp only [FX] at *)
     all_goals first | omega | skip
     refine ⟨_, W1, Gc, owc, hQ1, hr1, hK1, ?_, rfl⟩
     simp (disch := omega) only [go_sem, ↓reduceIte, simprocAttr, Sl, ht, and_self, cast_succ]
   rintro t2 _ ⟨Q2, W2, G2, ow2, hQ2, hr2, hK2, ht2, rfl⟩
   simp (disch := omega) only [go_sem, ↓reduceIte, simprocAttr, Sl] at ht2
   clear ht t hQ hK0
   obtain ⟨X1', X2', G3, G4, ow4, ha1, ha2, hK4, hkeep, ow3, hmid⟩ := hK2.grow2 hB.tl (by omega) hr2 tg
   have hQ4 := hkeep _ _ _ hQ2
   have hb1 := ha1 [some (.row 259 [.agg (dfc d.of d.n d.x1 d.x2)]), some (.row 259 [.agg ((tab 256 fun _ => EV.int .u8 0) ++ [EV.int .i64 0, EV.nilsl, EV.nilsl])]), some (.row 259 [.agg (dfc d.of d.n X1 X2)])] rfl
   have hb2 := ha2 [some (.row 259 [.agg (dfc d.of d.n d.x1 d.x2)]), some (.row 259 [.agg ((tab 256 fun _ => EV.int .u8 0) ++ [EV.int .i64 0, EV.nilsl, EV.nilsl])]), some (.row 259 [.agg (dfc d.of d.n X1' X2)])] rfl
   simp only [List.cons_append, List.nil_append] at hb1 hb2
   -- the queue, read when the tag is
   have hqx2 : (rowT d.liveL q l).1[i]? = some x := by rw [← rowP_full]; exact rowP_get d.liveL hx
   have hqi2 := (List.getElem?_eq_some_iff.1 hqx2).1
   obtain ⟨kq, hkq, hrq⟩ := (hmid _ _ _ hQ2).readL (intsE_ne (by omega))
   rw [intsE_len] at hkq
   have hilq := intsE_len (rowT d.liveL q l).1
   have hrq1 := hrq [some (.row 259 [.agg (dfc d.of d.n d.x1 d.x2)]), some (.row 259 [.agg ((tab 256 fun _ => EV.int .u8 0) ++ [EV.int .i64 0, EV.nilsl, EV.nilsl])]), some (.row 259 [.agg (dfc d.of d.n X1' X2)])] rfl
   simp only [List.cons_append, List.nil_append] at hrq1
   have hgq := intsE_get hqx2
   have eX1 := dfc_x2 (of := d.of) (n := d.n) (x1 := X1') (x2 := X2)
   have eXL := dfc_len (of := d.of) (n := d.n) (x1 := X1') (x2 := X2)
   have fXL := dfc_len (of := d.of) (n := d.n) (x1 := X1') (x2 := X2')
   have hp1 := dfc_put1 (of := d.of) (n := d.n) (x1 := X1) (x2 := X2) (v := X1')
   have hp2 := dfc_put2 (of := d.of) (n := d.n) (x1 := X1') (x2 := X2) (v := X2')
   obtain ⟨u1, u2⟩ := hK4.n1.one
   obtain ⟨u3, u4⟩ := hK4.n2.one
   obtain ⟨u5, u6⟩ := hr2.one
   unfold EV.one at u1 u3 u5
   unfold EV.cells at u2 u4 u6
   have hk := hK (i + 1, X1', X2', Q2, G4, ow4, xs ++ [W2])
   simp only [hnext] at hk
   subst hkq
   clear hK hB hnext ha1 ha2 hkeep hK2 hr2 hQ2 hmid hrq hqx hx hqx2 hq
   repeat' first | (simp (disch := first | omega | assumption) only [go_sem, ↓reduceIte, simprocAttr, *]) | refine HG_split (fun hb=>?_) fun hb=>?_ | refine HC_split (fun hb=>?_) fun hb=>?_
   all_goals (try simp only [FX] at *)
   all_goals first | omega | skip
   refine hk _ _ ⟨hBn, hQ4, hK4⟩ (by omega) ?_ rfl
   simp (disch := omega) only [go_sem, ↓reduceIte, simprocAttr, Sl, ht2, and_self, cast_succ]
  ·have hie : i = q.length := by omega
   clear hK
   repeat' first | (simp (disch := first | omega | assumption) only [go_sem, ↓reduceIte, simprocAttr, *]) | refine HG_split (fun hb=>?_) fun hb=>?_ | refine HC_split (fun hb=>?_) fun hb=>?_
   all_goals (try simp only [FX] at *)
   all_goals first | omega | skip
   refine ⟨i, X1, X2, G, ow, xs, hB, by rw [hq]; exact hie, hK0, ?_, rfl⟩
   simp (disch := omega) only [go_sem, ↓reduceIte, simprocAttr, Sl, ht, and_self, cast_succ]
 rintro t _ ⟨i, X1, X2, G, ow, xs, hB, hb, hK0, ht, rfl⟩
 simp (disch := omega) only [go_sem, ↓reduceIte, simprocAttr, Sl] at ht
 clear ht2 t2
 rw [hB.last hb]
 have hfz := fz_out (H := H) (P := [some (.row 259 [.agg (dfc d.of d.n d.x1 d.x2)]), some (.row 259 [.agg (dfc d.of d.n X1 X2)]), some (.row 259 [.agg (dfc d.of d.n X1 X2)])]) (of := d.of) (n := d.n) rfl hK0
 have dXL := dfc_len (of := d.of) (n := d.n) (x1 := X1) (x2 := X2)
 have dXT : (dfc d.of d.n X1 X2).take 259 = dfc d.of d.n X1 X2 := dfc_take 259 (by omega)
 have dXA : (dfc d.of d.n X1 X2).all EV.one = true := by
  rw [List.all_eq_true]
  intro x hx
  simp only [dfc, List.mem_append, List.mem_cons, List.not_mem_nil, or_false] at hx
  rcases hx with (hx | rfl) | rfl | rfl
  ·obtain ⟨q, _, rfl⟩ := cls_mem (n := 0) hx
   rfl
  ·rfl
  ·exact hK0.n1.one.1
  ·exact hK0.n2.one.1
 simp only [List.cons_append, List.nil_append] at hfz
 clear hb hB hK0
 repeat' first | (simp (disch := first | omega | assumption) only [go_sem, ↓reduceIte, simprocAttr, *]) | refine HG_split (fun hb=>?_) fun hb=>?_ | refine HC_split (fun hb=>?_) fun hb=>?_
 all_goals (try simp only [FX] at *)
 all_goals first | omega | skip
 exact finV_fz rfl hfz rfl
end
theorem bfs_len (d : DF) : ∀ k : Nat, (d.bfs k).rows.length ≤ k ∧ (d.bfs k).tags.length ≤ k ∧ (∀ l ∈ (d.bfs k).rows, l.length ≤ 9223372036854775807) ∧ (d.bfs k).rows.length = (d.bfs k).tags.length
 | 0 => by simp [DF.bfs]
 | k + 1 => by
  obtain ⟨h1, h2, h3, h4⟩ := bfs_len d k
  cases hx : (d.bfs k).q[k]? with
  | none =>
   have e : d.bfs (k + 1) = d.bfs k := by
    show (match (d.bfs k).q[k]? with
     | none => d.bfs k
     | some x => _) = _
    rw [hx]
   rw [e]
   exact ⟨by omega, by omega, h3, h4⟩
  | some x =>
   rw [bfs_next hx]
   refine ⟨by simp; omega, by simp; omega, fun l hl => ?_, by simp [h4]⟩
   rcases List.mem_append.1 hl with hl | hl
   ·exact h3 l hl
   ·simp only [List.mem_cons, List.not_mem_nil, or_false] at hl
    subst hl
    unfold rowT
    rw [(fold_len d.liveL _ _).1]
    simp only [List.length_nil, Nat.zero_add]
    rw [List.getD_eq_getElem?_getD]
    cases hr : d.rows[x.toNat]? with
    | none => simp
    | some r =>
     obtain ⟨y, _, hv, _⟩ := d.row hr
     simpa using hv.leI
theorem sl_slE {es : List EV} (ho : ∀ n, okL n es = true) (hl : es.length ≤ 9223372036854775807) : SlV 1 (slE 1 es) es := by
 unfold slE
 split
 ·rename_i h
  subst h
  exact .nil
 ·exact .imm ho hl
def ByteSt (q : List (Nat × EV)) (n : Nat) (t : Slots) : Prop := ∃ b : Nat, b < 256 ∧ Sl t (q ++ [(n, .int .u8 b)])
noncomputable def DF.trimD (d : DF) (h : d.rows.length ≤ 600) : DF :=
 if d.liveL[0]? = some true then
  ⟨d.of, d.n, slE 1 ((d.bfs d.rows.length).rows.map fun l => slE 1 (intsE l)), slE 1 (intsE (d.bfs d.rows.length).tags), (d.bfs d.rows.length).rows.map fun l => slE 1 (intsE l), (d.bfs d.rows.length).rows, (d.bfs d.rows.length).tags, d.hof,
   sl_slE (fun n => okL_rows n _) (by rw [List.length_map]; have := (bfs_len d d.rows.length).1; omega), by simp, fun i y l hy hl => by
    rw [List.getElem?_map, hl] at hy
    simp only [Option.map_some, Option.some.injEq] at hy
    subst hy
    exact ints_slE ((bfs_len d d.rows.length).2.2.1 l (List.mem_of_getElem? hl)), ints_slE (by have := (bfs_len d d.rows.length).2.1; omega)⟩
 else ⟨d.of, d.n, .nilsl, .nilsl, [], [], [], d.hof, .nil, rfl, fun i y l h => by simp at h, .nil⟩
theorem trimD_E (d : DF) (h : d.rows.length ≤ 600) : (d.trimD h).E = d.trimE := by
 unfold DF.trimD DF.trimE
 split <;> rfl
section
variable {E : Env} [R : DfaR E]
set_option maxHeartbeats 4000000 in
theorem dfaRuns_den (hC : ClsDen E R.n_class_May) (hC2 : ClsDen E R.n_hackleref02_May) (ha : ∀ H, den E R.n_hacklelaw09_alive [] H = some (.ret (.bool true), H)) (d : DF) (at' : Int) (s : List UInt8) (hs0 : s.length ≤ 9223372036854775807) :
  den E R.n_hacklelaw09_DfaRuns [d.E, .int .i64 at', .str s] [] = some (.ret (.bool true), []) := by
 obtain ⟨k1, k2, hle, hle2, o1, o2, hA, hL, hx1, hx2, hn, htk⟩ := d.facts
 unfold EV.one at o1 o2
 have al := fun H => ha H
 have hgr := fun H => great_den (R := R) d H
 have hof := fun H => of_den (R := R) d H
 have hm1 := fun H => dfaMay_den (R := R) hC d H
 have hm2 := fun H => refDMay_den (R := R) hC2 d H
 have hsm := fun H => dSame_den (R := R) d d ⟨rfl, rfl, rfl, rfl⟩ H
 refine den_of R.d_hacklelaw09_DfaRuns (by simp) ?_
 unfold Gn.hacklelaw09_DfaRuns Gn.hacklelaw09_DfaRuns_r
 unfold DF.E at hgr hof hm1 hm2 hsm ⊢
 let B0 : Option EB := some (.row 259 [.agg (dfc d.of d.n d.x1 d.x2)])
 refine Hd_cut2 (fun t H' => Sl t [(1, .int .i64 at'), (2, .str s), (3, .ptr 0 259 0 0)] ∧ H' = [some (.row 259 [.agg (dfc d.of d.n d.x1 d.x2)])]) ?_ ?_
 ·repeat' first | (simp (disch := first | omega | assumption) only [go_sem, ↓reduceIte, simprocAttr, Sl, *]) | refine HG_split (fun hb=>?_) fun hb=>?_ | refine HC_split (fun hb=>?_) fun hb=>?_
 rintro t _ ⟨ht, rfl⟩
 simp (disch := omega) only [go_sem, ↓reduceIte, simprocAttr, Sl] at ht
 refine Hd_cut2 (fun t H' => Sl t [(1, .int .i64 at'), (2, .str s), (3, .ptr 0 259 0 0)] ∧ H' = [some (.row 259 [.agg (dfc d.of d.n d.x1 d.x2)])]) ?_ ?_
 ·repeat' first | (simp (disch := first | omega | assumption) only [go_sem, ↓reduceIte, simprocAttr, Sl, *]) | refine HG_split (fun hb=>?_) fun hb=>?_ | refine HC_split (fun hb=>?_) fun hb=>?_
  all_goals simp [ht]
 rintro t2 _ ⟨ht2, rfl⟩
 simp (disch := omega) only [go_sem, ↓reduceIte, simprocAttr, Sl] at ht2
 clear ht t al ha
 cases hg : d.great with
 | true =>
  rw [hg] at hgr
  repeat' first | (simp (disch := first | omega | assumption) only [go_sem, ↓reduceIte, simprocAttr, *]) | refine HG_split (fun hb=>?_) fun hb=>?_ | refine HC_split (fun hb=>?_) fun hb=>?_
  all_goals (try simp only [FX] at *)
  all_goals first | omega | exact finV_drop (H := []) rfl rfl
 | false =>
 rw [hg] at hgr
 by_cases hs1 : s.length > 100
 ·repeat' first | (simp (disch := first | omega | assumption) only [go_sem, ↓reduceIte, simprocAttr, *]) | refine HG_split (fun hb=>?_) fun hb=>?_ | refine HC_split (fun hb=>?_) fun hb=>?_
  all_goals (try simp only [FX] at *)
  all_goals first | omega | exact finV_drop (H := []) rfl rfl
 refine Hd_cut2 (fun t H' => Sl t [(1, .int .i64 at'), (2, .str s), (3, .ptr 0 259 0 0)] ∧ H' = [some (.row 259 [.agg (dfc d.of d.n d.x1 d.x2)])]) ?_ ?_
 ·repeat' first | (simp (disch := first | omega | assumption) only [go_sem, ↓reduceIte, simprocAttr, Sl, *]) | refine HG_split (fun hb=>?_) fun hb=>?_ | refine HC_split (fun hb=>?_) fun hb=>?_
  all_goals (try simp only [FX] at *)
  all_goals first | omega | skip
  all_goals simp [ht2]
 rintro t _ ⟨ht, rfl⟩
 simp (disch := omega) only [go_sem, ↓reduceIte, simprocAttr, Sl] at ht
 clear ht2 t2
 refine Hd_cut2 (fun t H' => Sl t [(1, .int .i64 at'), (2, .str s), (3, .ptr 0 259 0 0), (7, .ptr 1 259 0 0)] ∧ H' = [some (.row 259 [.agg (dfc d.of d.n d.x1 d.x2)]), some (.row 259 [.agg (dfc d.of d.n d.x1 d.x2)])]) ?_ ?_
 ·repeat' first | (simp (disch := first | omega | assumption) only [go_sem, ↓reduceIte, simprocAttr, Sl, *]) | refine HG_split (fun hb=>?_) fun hb=>?_ | refine HC_split (fun hb=>?_) fun hb=>?_
 rintro t2 _ ⟨ht2, rfl⟩
 simp (disch := omega) only [go_sem, ↓reduceIte, simprocAttr, Sl] at ht2
 clear ht t
 have hbb : (d.may == d.may) = true := by simp
 refine Hd_cut2 (fun t H' => Sl t [(1, .int .i64 at'), (2, .str s), (3, .ptr 0 259 0 0), (7, .ptr 1 259 0 0)] ∧ H' = [some (.row 259 [.agg (dfc d.of d.n d.x1 d.x2)]), some (.row 259 [.agg (dfc d.of d.n d.x1 d.x2)])]) ?_ ?_
 ·repeat' first | (simp (disch := first | omega | assumption) only [go_sem, ↓reduceIte, simprocAttr, Sl, Bool.not_true, *]) | refine HG_split (fun hb=>?_) fun hb=>?_ | refine HC_split (fun hb=>?_) fun hb=>?_
  all_goals (try simp only [FX] at *)
  all_goals first | omega | skip
  all_goals simp [ht2]
 rintro t _ ⟨ht, rfl⟩
 simp (disch := omega) only [go_sem, ↓reduceIte, simprocAttr, Sl] at ht
 clear ht2 t2 hbb hsm hgr hof
 refine Hd_cut2 (fun t H' => Sl t [(1, .int .i64 at'), (2, .str s), (3, .ptr 0 259 0 0), (7, .ptr 1 259 0 0), (8, .int .u8 97)] ∧ H' = [some (.row 259 [.agg (dfc d.of d.n d.x1 d.x2)]), some (.row 259 [.agg (dfc d.of d.n d.x1 d.x2)])]) ?_ ?_
 ·repeat' first | (simp (disch := first | omega | assumption) only [go_sem, ↓reduceIte, simprocAttr, Sl, *]) | refine HG_split (fun hb=>?_) fun hb=>?_ | refine HC_split (fun hb=>?_) fun hb=>?_
 rintro t2 _ ⟨ht2, rfl⟩
 simp (disch := omega) only [go_sem, ↓reduceIte, simprocAttr, Sl] at ht2
 clear ht t
 refine Hd_cut2 (fun t H' => ByteSt [(1, .int .i64 at'), (2, .str s), (3, .ptr 0 259 0 0), (7, .ptr 1 259 0 0)] 8 t ∧ H' = [some (.row 259 [.agg (dfc d.of d.n d.x1 d.x2)]), some (.row 259 [.agg (dfc d.of d.n d.x1 d.x2)])]) ?_ ?_
 ·by_cases h0 : s.length > 0
  ·obtain ⟨b0, hb0⟩ := get_some (l := s) (i := 0) h0
   repeat' first | (simp (disch := first | omega | assumption) only [go_sem, ↓reduceIte, simprocAttr, *]) | refine HG_split (fun hb=>?_) fun hb=>?_ | refine HC_split (fun hb=>?_) fun hb=>?_
   all_goals (try simp only [FX] at *)
   all_goals first | omega | skip
   refine ⟨b0.toNat, b0.toNat_lt, ?_⟩
   simp (disch := omega) only [go_sem, ↓reduceIte, simprocAttr, Sl, ht2, and_self, List.cons_append, List.nil_append]
  ·repeat' first | (simp (disch := first | omega | assumption) only [go_sem, ↓reduceIte, simprocAttr, *]) | refine HG_split (fun hb=>?_) fun hb=>?_ | refine HC_split (fun hb=>?_) fun hb=>?_
   all_goals (try simp only [FX] at *)
   all_goals first | omega | skip
   refine ⟨97, by omega, ?_⟩
   simp (disch := omega) only [go_sem, ↓reduceIte, simprocAttr, Sl, ht2, and_self, List.cons_append, List.nil_append]
 rintro t _ ⟨⟨b, hb, ht⟩, rfl⟩
 simp only [List.cons_append, List.nil_append] at ht
 simp (disch := omega) only [go_sem, ↓reduceIte, simprocAttr, Sl] at ht
 clear ht2 t2
 have e1 := fun H => dStep_den (R := R) hC d at' b hb H
 have e2 := fun H => dRun_den (R := R) hC d s hs0 H
 have e3 := fun H => dTag_den (R := R) hC d s hs0 H
 cases hm : d.may with
 | false =>
  have e4 := fun H => dTrim_no (R := R) hC d hm H
  have e5 := fun H => plain_den (R := R) zeroD H
  have e6 := fun H => refDSame_den (R := R) zeroD zeroD ⟨rfl, rfl, rfl, rfl⟩ H
  rw [hm] at e1 e2 e3 hm2
  simp only [Bool.false_eq_true, if_false] at e1 e2 e3
  have hz : zeroD.E = .agg ((tab 256 fun _ => EV.int .u8 0) ++ [EV.int .i64 0, EV.nilsl, EV.nilsl]) := by
   show EV.agg (dfc _ _ _ _) = _
   unfold dfc zeroD
   simp
  have e4' : ∀ H, den E R.n_dfa_Trim [.agg (dfc d.of d.n d.x1 d.x2)] H = some (.ret zeroD.E, H) := e4
  rw [hz] at e4' e5 e6
  unfold DF.E at e1 e2 e3
  clear hC hC2 hm e4 hm1
  repeat' first | (simp (disch := first | omega | assumption) only [go_sem, ↓reduceIte, simprocAttr, *]) | refine HG_split (fun hb=>?_) fun hb=>?_ | refine HC_split (fun hb=>?_) fun hb=>?_
  all_goals (try simp only [FX] at *)
  all_goals first | omega | skip
  all_goals exact finV_drop (H := []) rfl rfl
 | true =>
  have g := DF.good hm
  have e4 := fun H => dTrim_den (R := R) hC d hm H
  have e5 := fun H => plain_den (R := R) (d.trimD g.le) H
  have e6 := fun H => refDSame_den (R := R) (d.trimD g.le) (d.trimD g.le) ⟨rfl, rfl, rfl, rfl⟩ H
  have e7 := fun H => refTrim_den (R := R) d g H
  have e8 := fun H => refStep_den (R := R) d at' b hb g.wide H
  have e9 := fun H => refDRun_den (R := R) d g.wide s hs0 H
  have e10 := fun H => refDTag_den (R := R) d g s hs0 H
  rw [trimD_E] at e5 e6
  rw [hm] at e1 e2 e3 hm2
  simp only [if_true] at e1 e2 e3
  unfold DF.E at e1 e2 e3 e4 e7 e8 e9 e10
  generalize d.trimE = T at e4 e5 e6 e7
  clear hC hC2 hm hm1
  repeat' first | (simp (disch := first | omega | assumption) only [go_sem, ↓reduceIte, simprocAttr, *]) | refine HG_split (fun hb=>?_) fun hb=>?_ | refine HC_split (fun hb=>?_) fun hb=>?_
  all_goals (try simp only [FX] at *)
  all_goals first | omega | skip
  all_goals exact finV_drop (H := []) rfl rfl
end
def nmT (L : List Bool) (Q : List Int) (z : Int) : Int := if seesP L z = true then (Q.idxOf z : Int) else -1
theorem nmT_app {L : List Bool} {q q' : List Int} {z : Int} (h : seesP L z = true → z ∈ q) : nmT L (q ++ q') z = nmT L q z := by
 unfold nmT
 split
 ·rename_i hs
  rw [List.idxOf_append, if_pos (h hs)]
 ·rfl
theorem nmT_map {L : List Bool} {q q' l : List Int} (h : ∀ z ∈ l, seesP L z = true → z ∈ q) : l.map (nmT L (q ++ q')) = l.map (nmT L q) :=
 List.map_congr_left fun z hz => nmT_app (h z hz)
theorem foldT (L : List Bool) : ∀ (l q acc : List Int), ∃ q', (l.foldl (stepT L) (q, acc)).1 = q ++ q' ∧ (l.foldl (stepT L) (q, acc)).2 = acc ++ l.map (nmT L (q ++ q')) ∧
  (∀ z ∈ l, seesP L z = true → z ∈ q ++ q') ∧ ∀ y ∈ q', seesP L y = true
 | [], q, acc => ⟨[], by simp, by simp, by simp, by simp⟩
 | z :: l, q, acc => by
  rw [List.foldl_cons]
  by_cases hs : seesP L z = true
  ·by_cases hz : z ∈ q
   ·have e : stepT L (q, acc) z = (q, acc ++ [(q.idxOf z : Int)]) := by unfold stepT; rw [if_pos hs]; simp only [if_pos hz]
    rw [e]
    obtain ⟨q', h1, h2, h3, h4⟩ := foldT L l q (acc ++ [(q.idxOf z : Int)])
    refine ⟨q', h1, ?_, fun y hy hy' => ?_, h4⟩
    ·rw [h2, List.map_cons, nmT_app (fun _ => hz)]
     unfold nmT
     rw [if_pos hs]
     simp
    ·rcases List.mem_cons.1 hy with rfl | hy
     ·exact List.mem_append_left _ hz
     ·exact h3 y hy hy'
   ·have e : stepT L (q, acc) z = (q ++ [z], acc ++ [(q.idxOf z : Int)]) := by unfold stepT; rw [if_pos hs]; simp only [if_neg hz]
    rw [e]
    obtain ⟨q', h1, h2, h3, h4⟩ := foldT L l (q ++ [z]) (acc ++ [(q.idxOf z : Int)])
    have hi : (q ++ [z]).idxOf z = q.idxOf z := by
     rw [List.idxOf_append, if_neg hz]
     have := List.idxOf_eq_length hz
     simp [this]
    refine ⟨z :: q', by rw [h1]; simp, ?_, fun y hy hy' => ?_, fun y hy => ?_⟩
    ·rw [h2, List.map_cons, show q ++ z :: q' = (q ++ [z]) ++ q' by simp, nmT_app (fun _ => by simp)]
     rw [show nmT L (q ++ [z]) z = (q.idxOf z : Int) by unfold nmT; rw [if_pos hs, hi]]
     simp
    ·rw [show q ++ z :: q' = (q ++ [z]) ++ q' by simp]
     rcases List.mem_cons.1 hy with rfl | hy
     ·simp
     ·exact h3 y hy hy'
    ·rcases List.mem_cons.1 hy with rfl | hy
     ·exact hs
     ·exact h4 y hy
  ·have e : stepT L (q, acc) z = (q, acc ++ [-1]) := by unfold stepT; rw [if_neg hs]
   rw [e]
   obtain ⟨q', h1, h2, h3, h4⟩ := foldT L l q (acc ++ [-1])
   refine ⟨q', h1, ?_, fun y hy hy' => ?_, h4⟩
   ·rw [h2, List.map_cons, show nmT L (q ++ q') z = -1 by unfold nmT; rw [if_neg hs]]
    simp
   ·rcases List.mem_cons.1 hy with rfl | hy
    ·exact absurd hy' hs
    ·exact h3 y hy hy'
structure JT (d : DF) (i : Nat) (b : BS) : Prop where
 live : ∀ x ∈ b.q, seesP d.liveL x = true
 z0 : b.q[0]? = some 0
 row : ∀ (j : Nat) (x : Int), j < i → b.q[j]? = some x → ∃ l, d.rows[x.toNat]? = some l ∧ b.rows[j]? = some (l.map (nmT d.liveL b.q)) ∧ ∀ z ∈ l, seesP d.liveL z = true → z ∈ b.q
 tag : ∀ (j : Nat) (x : Int), j < i → b.q[j]? = some x → ∃ t, d.tags[x.toNat]? = some t ∧ b.tags[j]? = some t
theorem JT.zero {d : DF} (h : d.liveL[0]? = some true) : JT d 0 (d.bfs 0) := by
 refine ⟨fun x hx => ?_, rfl, fun j x hj => by omega, fun j x hj => by omega⟩
 simp only [DF.bfs, List.mem_cons, List.not_mem_nil, or_false] at hx
 subst hx
 unfold seesP
 simp [List.getD_eq_getElem?_getD, h]
theorem JT.next {d : DF} (g : d.Good) {i : Nat} (hB : BI d i) (h : JT d i (d.bfs i)) {x : Int} (hx : (d.bfs i).q[i]? = some x) : JT d (i + 1) (d.bfs (i + 1)) := by
 have hxr := hB.qi.rng x (List.mem_of_getElem? hx)
 obtain ⟨l, hl⟩ := get_some (l := d.rows) (i := x.toNat) (by omega)
 obtain ⟨t, ht⟩ := get_some (l := d.tags) (i := x.toNat) (by rw [g.tl]; omega)
 have el : d.rows.getD x.toNat [] = l := by simp [List.getD_eq_getElem?_getD, hl]
 have et : d.tags.getD x.toNat 0 = t := by simp [List.getD_eq_getElem?_getD, ht]
 rw [bfs_next hx, el, et]
 obtain ⟨q', h1, h2, h3, h4⟩ := foldT d.liveL l (d.bfs i).q []
 have e1 : (rowT d.liveL (d.bfs i).q l).1 = (d.bfs i).q ++ q' := h1
 have e2 : (rowT d.liveL (d.bfs i).q l).2 = l.map (nmT d.liveL ((d.bfs i).q ++ q')) := by rw [show (rowT d.liveL (d.bfs i).q l).2 = _ from h2]; simp
 rw [e1, e2]
 have hiq := (List.getElem?_eq_some_iff.1 hx).1
 refine ⟨fun y hy => ?_, ?_, fun j y hj hy => ?_, fun j y hj hy => ?_⟩
 ·rcases List.mem_append.1 hy with hy | hy
  ·exact h.live y hy
  ·exact h4 y hy
 ·simp only
  rw [List.getElem?_append_left (by omega)]
  exact h.z0
 ·simp only at hy ⊢
  rw [List.getElem?_append_left (by omega)] at hy
  by_cases hji : j < i
  ·obtain ⟨l', k1, k2, k3⟩ := h.row j y hji hy
   refine ⟨l', k1, ?_, fun z hz hz' => List.mem_append_left _ (k3 z hz hz')⟩
   rw [List.getElem?_append_left (by rw [hB.rl]; exact hji), nmT_map k3]
   exact k2
  ·have : j = i := by omega
   subst this
   rw [hx] at hy
   obtain rfl := Option.some.inj hy
   refine ⟨l, hl, ?_, h3⟩
   rw [List.getElem?_append_right (by rw [hB.rl]; exact Nat.le_refl _), hB.rl, Nat.sub_self]
   rfl
 ·simp only at hy ⊢
  rw [List.getElem?_append_left (by omega)] at hy
  by_cases hji : j < i
  ·obtain ⟨t', k1, k2⟩ := h.tag j y hji hy
   exact ⟨t', k1, by rw [List.getElem?_append_left (by rw [hB.tl]; exact hji)]; exact k2⟩
  ·have : j = i := by omega
   subst this
   rw [hx] at hy
   obtain rfl := Option.some.inj hy
   refine ⟨t, ht, ?_⟩
   rw [List.getElem?_append_right (by rw [hB.tl]; exact Nat.le_refl _), hB.tl, Nat.sub_self]
   rfl
theorem JT.all {d : DF} (g : d.Good) (h0 : d.liveL[0]? = some true) : ∃ i, i = (d.bfs i).q.length ∧ BI d i ∧ JT d i (d.bfs i) ∧ d.bfs d.rows.length = d.bfs i := by
 have hN : 0 < d.rows.length := by
  have := (List.getElem?_eq_some_iff.1 h0).1
  rwa [liveL_len] at this
 have key : ∀ (k i : Nat), d.rows.length - i ≤ k → BI d i → JT d i (d.bfs i) → ∃ i, i = (d.bfs i).q.length ∧ BI d i ∧ JT d i (d.bfs i) := by
  intro k
  induction k with
  | zero =>
   intro i hi hB hJ
   have := hB.qi.le
   have := hB.le
   exact ⟨i, by omega, hB, hJ⟩
  | succ k ih =>
   intro i hi hB hJ
   by_cases e : i = (d.bfs i).q.length
   ·exact ⟨i, e, hB, hJ⟩
   ·have := hB.le
    obtain ⟨x, hx⟩ := get_some (l := (d.bfs i).q) (i := i) (by omega)
    have hl := hB.qi.le
    exact ih (i + 1) (by omega) (hB.next g hx) (hJ.next g hB hx)
 obtain ⟨i, h1, h2, h3⟩ := key _ 0 (Nat.le_refl _) (BI.zero hN) (JT.zero h0)
 exact ⟨i, h1, h2, h3, h2.last h1⟩
/-! ### Steps and tags -/
/-! ### Trimmed again -/
end Abs
