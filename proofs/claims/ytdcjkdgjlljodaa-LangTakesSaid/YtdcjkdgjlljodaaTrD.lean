/- A part. -/
import Derived.Test.YtdcjkdgjlljodaaLnB
set_option linter.all false
namespace Abs
open Go
set_option maxRecDepth 20000
def ArgB (H : Heap) (y : EV) (a : List Bool) : Prop := SlV 1 y (ab3 a) ∨ ∃ k, y = .own k 1 0 a.length ∧ H[k]? = some (some (.row 1 (ab3 a)))
theorem ArgB.len {H : Heap} {y : EV} {a : List Bool} (h : ArgB H y a) : br9 false y = some a.length := by
 rcases h with h | ⟨k, rfl, _⟩
 ·rw [h.len, ae0]
 ·rfl
theorem ArgB.elems {H : Heap} {y : EV} {a : List Bool} (h : ArgB H y a) (G : Heap) : Abs.elems (H ++ G) y = some (ab3 a) := by
 rcases h with h | ⟨k, rfl, hk⟩
 ·exact h.els _
 ·have := aa3 hk
  simp [Abs.elems, List.getElem?_append_left this, hk, ← ae0 a]
theorem ArgB.mono {H : Heap} {y : EV} {a : List Bool} (h : ArgB H y a) (G : Heap) : ArgB (H ++ G) y a := by
 rcases h with h | ⟨k, e, hk⟩
 ·exact .inl h
 ·exact .inr ⟨k, e, by rw [List.getElem?_append_left (aa3 hk)]; exact hk⟩
theorem ArgB.at {H : Heap} {y : EV} {a : List Bool} (h : ArgB H y a) {i : Nat} {v : Bool} (hv : a[i]? = some v) : ∃ p, az2 1 (i : Int) y = some p ∧ ∀ G, bd2 false 1 p (H ++ G) = some (.bool v) := by
 rcases h with h | ⟨k, rfl, hk⟩
 ·refine ⟨_, h.elem i _ (at1 hv), fun G => ?_⟩
  simp [bd2, pack, EV.cells]
 ·have hi := aa3 hv
  refine ⟨.ptr k 1 i 0, by simp [az2, hi], fun G => ?_⟩
  have := aa3 hk
  have hb := at1 hv
  simp [bd2, List.getElem?_append_left this, hk, hb, pack, EV.cells]
theorem ArgB.one {H : Heap} {y : EV} {a : List Bool} (h : ArgB H y a) : y.one = true ∧ y.cells = [y] := by
 rcases h with h | ⟨k, rfl, _⟩
 ·exact ⟨h.one.2, h.one.1⟩
 ·exact ⟨rfl, rfl⟩
def mixB (c o : List Bool) (i : Nat) : List Bool := c.take i ++ o.drop i
theorem cr3 (c o : List Bool) : mixB c o 0 = o := by simp [mixB]
theorem cl5 {c o : List Bool} (h : c.length = o.length) (i : Nat) : (mixB c o i).length = o.length := by unfold mixB; rw [List.length_append, List.length_take, List.length_drop, h]; omega
theorem cd3 {c o : List Bool} (h : c.length = o.length) : mixB c o o.length = c := by unfold mixB; rw [List.drop_length, List.append_nil, ← h, List.take_length]
theorem cl4 {c o : List Bool} (h : c.length = o.length) {i : Nat} {v : Bool} (hv : c[i]? = some v) : (mixB c o i).set i v = mixB c o (i + 1) := by
 have hi := aa3 hv
 unfold mixB
 rw [List.set_append_right _ _ (by rw [List.length_take]; omega), List.length_take, Nat.min_eq_left (by omega), Nat.sub_self, List.take_add_one, hv]
 obtain ⟨z, hz⟩ := aa8 (l := o) (i := i) (by omega)
 rw [be8 hz]
 simp
theorem cl6 {c o : List Bool} (h : c.length = o.length) {i : Nat} : (mixB c o i)[i]? = o[i]? := by
 unfold mixB
 by_cases hi : i < c.length
 ·rw [List.getElem?_append_right (by rw [List.length_take]; omega), List.length_take, Nat.min_eq_left (by omega), Nat.sub_self, List.getElem?_drop, Nat.add_zero]
 ·rw [List.getElem?_eq_none (by rw [List.length_append, List.length_take, List.length_drop]; omega), List.getElem?_eq_none (by omega)]
theorem cr2 (n : Nat) (hn : n ≤ 1000000) (W : Heap) : ct5 1 1 (.bool false) (.int .i64 ((n : Int) + 1)) (.int .i64 ((n : Int) + 1)) W = some (.own W.length 1 0 (n + 1), W ++ [some (.row 1 (ab3 (ab8 (n + 1))))]) := by
 unfold ct5
 simp only
 rw [if_pos ⟨by omega, by omega, by omega, by omega⟩, show ((n : Int) + 1).toNat = n + 1 by omega, cn3]
theorem ca5 {H : Heap} {b : Option EB} {o : List Bool} {m : Nat} (ho : o.length = m) : Abs.fz H.length (H ++ [b, some (.row 1 (ab3 o))]) 8 (.own (H.length + 1) 1 0 m) = some (.imm 1 (ab3 o)) := by
 unfold Abs.fz
 rw [if_neg (by simp [EV.ok])]
 have hg : (H ++ [b, some (EB.row 1 (ab3 o))])[H.length + 1]? = some (some (.row 1 (ab3 o))) := by rw [List.getElem?_append_right (by omega), Nat.add_sub_cancel_left]; rfl
 simp only [hg, if_pos (show H.length ≤ H.length + 1 by omega)]
 rw [if_pos ⟨trivial, by rw [ae0]; omega⟩, List.drop_zero, List.take_of_length_le (by rw [ae0]; omega), bk2 fun x hx => by
  obtain ⟨v, _, rfl⟩ := List.mem_map.1 hx
  exact bh0 rfl]
 rfl
theorem bo3 (n : Nat) : ∀ M : List Bool, okL n (ab3 M) = true
 | [] => rfl
 | x :: l => by
  have := bo3 n l
  unfold ab3 at this ⊢
  simp [okL, EV.ok, this]
theorem do1 (o : List Bool) : ((ab3 o).all fun e => e.cells.length == 1 && e.cells.all EV.one) = true := List.all_eq_true.2 fun e he => by
 obtain ⟨v, _, rfl⟩ := List.mem_map.1 he
 rfl
theorem cj2 {H : Heap} {b : Option EB} {o a : List Bool} {y : EV} {m : Nat} (hy : ArgB H y a) (ha : a.length = m) (ho : o.length = m) :
  ct6 1 (.own (H.length + 1) 1 0 m) y (H ++ [b, some (.row 1 (ab3 o))]) = some (.int .i64 m, H ++ [b, some (.row 1 (ab3 a))]) := by
 unfold ct6
 have hg : (H ++ [b, some (EB.row 1 (ab3 o))])[H.length + 1]? = some (some (.row 1 (ab3 o))) := by rw [List.getElem?_append_right (by omega), Nat.add_sub_cancel_left]; rfl
 have hset : ∀ c : Option EB, (H ++ [b, some (EB.row 1 (ab3 o))]).set (H.length + 1) c = H ++ [b, c] := fun c => by rw [List.set_append_right _ _ (by omega), Nat.add_sub_cancel_left]; rfl
 rw [hy.elems]
 simp only [hg, hset]
 rw [if_pos ⟨by omega, do1 a⟩, if_pos ⟨trivial, trivial, by rw [ae0]; omega, by rw [ae0]; omega⟩, ae0, ha, List.take_zero, List.nil_append, List.drop_eq_nil_of_le (by rw [ae0]; omega), List.append_nil]
theorem bt9 (f : List Bool → List Bool) (m : Nat) (a : List Bool) : ∀ k, powN f (m + k) a = powN f k (powN f m a)
 | 0 => rfl
 | k + 1 => by
  show f (powN f (m + k) a) = f (powN f k (powN f m a))
  rw [bt9 f m a k]
def outN (f : List Bool → List Bool) (s : List UInt8) (lo : Nat) (a : List Bool) (j : Nat) : List Bool := if j ≤ lo then ab8 (s.length + 1) else sumN f (powN f lo a) (j - lo - 1)
section
variable {E : Env} [R : EndR E]
set_option maxHeartbeats 4000000 in
theorem cm6 (hR : be5 E R.ac8 .i64) (s : List UInt8) (hs : s.length ≤ 100000) {t : RT} (ht : t.Ok) : ae7 t = true → ∀ (y : EV) (a : List Bool) (H : Heap), ArgB H y a → a.length = s.length + 1 →
  den E R.ag3 [t.E, .str s, y] H = some (.ret (.imm 1 (ab3 (aa5 s t a))), H) := by
 induction ht with
 | mk kd w x ts lo hi hw hx hts ih =>
  intro hn y a H hy ha
  have hlin : ∀ t ∈ ts, Lin (s.length + 1) (aa5 s t) := fun t ht => aj9 s (hts t ht)
  rw [ae7, Bool.and_eq_true, bf3] at hn
  obtain ⟨hnb, hnl⟩ := hn
  have hsub : ∀ t ∈ ts, ae7 t = true := fun t ht => by
   cases hq : ae7 t with
   | true => rfl
   | false =>
    have : (ts.any fun t => !ae7 t) = true := List.any_eq_true.2 ⟨t, ht, by rw [hq]; rfl⟩
    rw [this] at hnl
    simp at hnl
  have he : aa5 s (.mk kd w x ts lo hi) a = ak3 s kd w lo hi (ts.map (aa5 s)) a := by rw [aa5, as8]
  rw [he]
  clear he hnl
  have ly := hy.len
  rw [ha] at ly
  have lx := hx.len
  rw [List.length_map] at lx
  have lex := hx.le
  rw [List.length_map] at lex
  have ox := hx.one.2
  have cx := hx.one.1
  have oy := hy.one.1
  have cy := hy.one.2
  have hmk := fun W => cr2 s.length (by omega) W
  have hfl := ae0 (ab8 (s.length + 1))
  rw [ac1] at hfl
  refine ad9 R.ba0 (by simp) ?_
  unfold Gn.as2 Gn.ao1
  show @Hd E ⟨_⟩ ⟨am2 [.agg [.int .i64 kd, .int .u64 (w 0 : Nat), .int .u64 (w 1 : Nat), .int .u64 (w 2 : Nat), .int .u64 (w 3 : Nat), x, .int .i64 lo, .int .i64 hi], .str s, y]⟩ ⟨_⟩ ⟨_⟩
  unfold EV.one at ox oy
  unfold EV.cells at cx cy
  by_cases k0 : kd = 0
  ·subst k0
   have hcp := cj2 (b := some (.row 8 [.agg [.int .i64 0, .int .u64 (w 0 : Nat), .int .u64 (w 1 : Nat), .int .u64 (w 2 : Nat), .int .u64 (w 3 : Nat), x, .int .i64 lo, .int .i64 hi]])) (o := ab8 (s.length + 1)) hy ha (ac1 _)
   have e : ak3 s 0 w lo hi (ts.map (aa5 s)) a = a := by simp [ak3]
   rw [e]
   clear e ih hlin hsub hts
   repeat' first | (simp (disch := first | omega | assumption) only [go_sem, simprocAttr, *]) | refine aa0 (fun hb=>?_) fun hb=>?_ | refine aa1 (fun hb=>?_) fun hb=>?_
   all_goals (try simp only [FX] at *)
   exact bh1 rfl (ca5 ha) rfl
  by_cases k1 : kd = 1
  ·subst k1
   have e : ak3 s 1 w lo hi (ts.map (aa5 s)) a = bc0 w s a := by simp [ak3]
   rw [e]
   clear e ih hlin hsub hts
   have hl := bd4 (w := w) ha
   have hHas : ∀ (b : Nat) (H : Heap), b < 256 → den E R.ac8 [.agg [.int .u64 (w 0 : Nat), .int .u64 (w 1 : Nat), .int .u64 (w 2 : Nat), .int .u64 (w 3 : Nat)], .int .i64 b] H = some (.ret (.bool (bb3 w b)), H) := fun b H hb => hR w b H hw hb
   repeat' first | (simp (disch := first | omega | assumption) only [go_sem, simprocAttr, *]) | refine aa0 (fun hb=>?_) fun hb=>?_ | refine aa1 (fun hb=>?_) fun hb=>?_
   all_goals (try simp only [FX] at *)
   all_goals first | omega | skip
   refine ae4 (ι := Nat) (fun i => i ≤ s.length) (fun i => s.length - i) (fun i => [(1, .str s), (2, y), (3, .ptr H.length 8 0 0), (7, .own (H.length + 1) 1 0 (s.length + 1)), (8, .int .i64 i)])
    (fun i => H ++ [some (.row 8 [.agg [.int .i64 1, .int .u64 (w 0 : Nat), .int .u64 (w 1 : Nat), .int .u64 (w 2 : Nat), .int .u64 (w 3 : Nat), x, .int .i64 lo, .int .i64 hi]]), some (.row 1 (ab3 (mixB (bc0 w s a) (ab8 (s.length + 1)) (i + 1))))]) 0 (by omega) ?_ ?_ ?_
   ·simp (disch := omega) only [go_sem, simprocAttr, Sl]
   ·rfl
   rintro i t hil ht K hK
   simp (disch := omega) only [go_sem, simprocAttr, Sl] at ht
   by_cases hlt : i < s.length
   ·obtain ⟨b, hb⟩ := aa8 hlt
    obtain ⟨v, hv⟩ := aa8 (l := a) (i := i) (by omega)
    obtain ⟨p, hp1, hp2⟩ := hy.at hv
    simp (disch := omega) only [go_sem, simprocAttr] at hp2
    have hb8 := b.toNat_lt
    have hbl : b.toNat < 256 := by omega
    have hHb := fun H => hHas b.toNat H hbl
    have hcv : (bc0 w s a)[i + 1]? = some (v && bb3 w b.toNat) := by
     unfold bc0
     rw [List.getElem?_cons_succ, List.getElem?_zipWith, hv, hb]
    have hset := cl4 (c := bc0 w s a) (o := ab8 (s.length + 1)) (by rw [hl, ac1]) hcv
    have hset2 : (ab3 (mixB (bc0 w s a) (ab8 (s.length + 1)) (i + 1))).set (i + 1) (.bool (v && bb3 w b.toNat)) = ab3 (mixB (bc0 w s a) (ab8 (s.length + 1)) (i + 1 + 1)) := by rw [bq5, hset]
    have hlen : (ab3 (mixB (bc0 w s a) (ab8 (s.length + 1)) (i + 1))).length = s.length + 1 := by rw [ae0, cl5 (by rw [hl, ac1]), ac1]
    have hz : (ab3 (mixB (bc0 w s a) (ab8 (s.length + 1)) (i + 1)))[i + 1]? = some (.bool false) := at1 (by rw [cl6 (by rw [hl, ac1])]; unfold ab8; rw [List.getElem?_replicate, if_pos (by omega)])
    have htn : ((i : Int) + 1).toNat = i + 1 := by omega
    have go := fun s' H' => hK (i + 1) s' H' (by omega) (by omega)
    clear hK hHas hset
    cases v with
    | true =>
     simp only [Bool.true_and] at hset2
     repeat' first | (simp (disch := first | omega | assumption) only [go_sem, simprocAttr, *]) | refine aa0 (fun hb=>?_) fun hb=>?_ | refine aa1 (fun hb=>?_) fun hb=>?_
     all_goals (try simp only [FX] at *)
     all_goals first | omega | skip
     refine go _ _ ?_ rfl
     simp (disch := omega) only [go_sem, simprocAttr, Sl, ht, and_self, aa7]
    | false =>
     simp only [Bool.false_and] at hset2
     repeat' first | (simp (disch := first | omega | assumption) only [go_sem, simprocAttr, *]) | refine aa0 (fun hb=>?_) fun hb=>?_ | refine aa1 (fun hb=>?_) fun hb=>?_
     all_goals (try simp only [FX] at *)
     all_goals first | omega | skip
     refine go _ _ ?_ rfl
     simp (disch := omega) only [go_sem, simprocAttr, Sl, ht, and_self, aa7]
   ·have hie : i = s.length := by omega
    subst hie
    clear hK
    repeat' first | (simp (disch := first | omega | assumption) only [go_sem, simprocAttr, *]) | refine aa0 (fun hb=>?_) fun hb=>?_ | refine aa1 (fun hb=>?_) fun hb=>?_
    all_goals (try simp only [FX] at *)
    all_goals first | omega | skip
    rw [show mixB (bc0 w s a) (ab8 (s.length + 1)) (s.length + 1) = bc0 w s a from by
     have := cd3 (c := bc0 w s a) (o := ab8 (s.length + 1)) (by rw [hl, ac1])
     rwa [ac1] at this]
    exact bh1 rfl (ca5 hl) rfl
  by_cases k2 : kd = 2
  ·subst k2
   have hcp := cj2 (b := some (.row 8 [.agg [.int .i64 2, .int .u64 (w 0 : Nat), .int .u64 (w 1 : Nat), .int .u64 (w 2 : Nat), .int .u64 (w 3 : Nat), x, .int .i64 lo, .int .i64 hi]])) (o := ab8 (s.length + 1)) hy ha (ac1 _)
   have e : ak3 s 2 w lo hi (ts.map (aa5 s)) a = ts.foldl (fun x t => aa5 s t x) a := by simp [ak3, List.foldl_map]
   rw [e]
   clear e hlin
   have h2 : 0 < ts.length := by
    simp only [ap4] at hnb
    simp at hnb
    omega
   have hfl2 : ∀ i, ((ts.take i).foldl (fun x t => aa5 s t x) a).length = s.length + 1 := fun i => by
    have := (bo6 (m := s.length + 1) (fs := (ts.take i).map (aa5 s)) fun f hf => by
     obtain ⟨t, h1, rfl⟩ := List.mem_map.1 hf
     exact aj9 s (hts t (List.mem_of_mem_take h1))).len a ha
    rwa [List.foldl_map] at this
   clear hts
   repeat' first | (simp (disch := first | omega | assumption) only [go_sem, simprocAttr, *]) | refine aa0 (fun hb=>?_) fun hb=>?_ | refine aa1 (fun hb=>?_) fun hb=>?_
   all_goals (try simp only [FX] at *)
   all_goals first | omega | skip
   refine ae4 (ι := Nat × EV) (fun p => p.1 ≤ ts.length ∧ ArgB (H ++ [some (.row 8 [.agg [.int .i64 2, .int .u64 (w 0 : Nat), .int .u64 (w 1 : Nat), .int .u64 (w 2 : Nat), .int .u64 (w 3 : Nat), x, .int .i64 lo, .int .i64 hi]]), some (.row 1 (ab3 a))]) p.2 ((ts.take p.1).foldl (fun x t => aa5 s t x) a) ∧ (p.1 = 0 ∨ p.2 = .imm 1 (ab3 ((ts.take p.1).foldl (fun x t => aa5 s t x) a)))) (fun p => ts.length - p.1) (fun p => [(1, .str s), (3, .ptr H.length 8 0 0), (7, p.2), (9, .int .i64 p.1)])
    (fun _ => H ++ [some (.row 8 [.agg [.int .i64 2, .int .u64 (w 0 : Nat), .int .u64 (w 1 : Nat), .int .u64 (w 2 : Nat), .int .u64 (w 3 : Nat), x, .int .i64 lo, .int .i64 hi]]), some (.row 1 (ab3 a))]) (0, .own (H.length + 1) 1 0 (s.length + 1)) ⟨by omega, .inr ⟨H.length + 1, by rw [List.take_zero, List.foldl_nil, ha], by rw [List.getElem?_append_right (by omega), Nat.add_sub_cancel_left]; rfl⟩, .inl rfl⟩ ?_ rfl ?_
   ·simp (disch := omega) only [go_sem, simprocAttr, Sl]
   rintro ⟨i, v⟩ t ⟨hil, hv, hv0⟩ ht K hK
   simp only at hil hv hv0
   simp (disch := omega) only [go_sem, simprocAttr, Sl] at ht
   show @Hd E ⟨_⟩ ⟨t⟩ ⟨H ++ [some (.row 8 [.agg [.int .i64 2, .int .u64 (w 0 : Nat), .int .u64 (w 1 : Nat), .int .u64 (w 2 : Nat), .int .u64 (w 3 : Nat), x, .int .i64 lo, .int .i64 hi]]), some (.row 1 (ab3 a))]⟩ ⟨_⟩
   by_cases hlt : i < ts.length
   ·obtain ⟨q, hq⟩ := aa8 hlt
    have hat := hx.atT hq
    have hyl := RT.cells q
    have hyt : List.take 8 q.E.cells = q.E.cells := List.take_of_length_le (by omega)
    have hya : EV.agg q.E.cells = q.E := by cases q; rfl
    have hqm := List.mem_of_getElem? hq
    have hih := ih q hqm (hsub q hqm) v _ _ hv (hfl2 i)
    have hnx : (ts.take (i + 1)).foldl (fun x t => aa5 s t x) a = aa5 s q ((ts.take i).foldl (fun x t => aa5 s t x) a) := by rw [List.take_add_one, hq, List.foldl_append]; rfl
    have hlx := hfl2 (i + 1)
    rw [← hnx] at hih
    have go := fun s' H' => hK (i + 1, .imm 1 (ab3 ((ts.take (i + 1)).foldl (fun x t => aa5 s t x) a))) s' H' ⟨by simp only; omega, .inl (.imm (fun n => bo3 n _) (by rw [ae0, hlx]; omega)), .inr rfl⟩ (by simp only; omega)
    generalize (ts.take (i + 1)).foldl (fun x t => aa5 s t x) a = r at hih go
    unfold EV.cells at hyt hyl hya hat
    clear hK ih hnx hlx hfl2
    repeat' first | (simp (disch := first | omega | assumption) only [go_sem, simprocAttr, *]) | refine aa0 (fun hb=>?_) fun hb=>?_ | refine aa1 (fun hb=>?_) fun hb=>?_
    all_goals (try simp only [FX] at *)
    all_goals first | omega | skip
    refine go _ _ ?_ rfl
    simp (disch := omega) only [go_sem, simprocAttr, Sl, ht, and_self, aa7]
   ·have hie : i = ts.length := by omega
    subst hie
    rw [List.take_length] at hv hv0
    have hve : v = .imm 1 (ab3 (ts.foldl (fun x t => aa5 s t x) a)) := by
     rcases hv0 with h | h
     ·omega
     ·exact h
    subst hve
    generalize ts.foldl (fun x t => aa5 s t x) a = r at hv hv0 ht ⊢
    clear hK ih hfl2
    repeat' first | (simp (disch := first | omega | assumption) only [go_sem, simprocAttr, *]) | refine aa0 (fun hb=>?_) fun hb=>?_ | refine aa1 (fun hb=>?_) fun hb=>?_
    all_goals (try simp only [FX] at *)
    all_goals first | omega | skip
    exact aa2 (by simpa [EV.ok] using bo3 _ _) rfl
  by_cases k3 : kd = 3
  ·subst k3
   have e : ak3 s 3 w lo hi (ts.map (aa5 s)) a = ts.foldl (fun o t => orL o (aa5 s t a)) (ab8 (s.length + 1)) := by simp [ak3, List.foldl_map]
   rw [e]
   clear e
   have hfl2 : ∀ i, ((ts.take i).foldl (fun o t => orL o (aa5 s t a)) (ab8 (s.length + 1))).length = s.length + 1 := fun i => by
    have := (bv3 (m := s.length + 1) (g := fun _ => ab8 (s.length + 1)) (fs := (ts.take i).map (aa5 s)) (ce5 _) fun f hf => by
     obtain ⟨t, h1, rfl⟩ := List.mem_map.1 hf
     exact hlin t (List.mem_of_mem_take h1)).len a ha
    rwa [List.foldl_map] at this
   clear hts
   repeat' first | (simp (disch := first | omega | assumption) only [go_sem, simprocAttr, *]) | refine aa0 (fun hb=>?_) fun hb=>?_ | refine aa1 (fun hb=>?_) fun hb=>?_
   all_goals (try simp only [FX] at *)
   all_goals first | omega | skip
   refine ae4 (ι := Nat) (fun i => i ≤ ts.length) (fun i => ts.length - i) (fun i => [(1, .str s), (2, y), (3, .ptr H.length 8 0 0), (7, .own (H.length + 1) 1 0 (s.length + 1)), (10, .int .i64 i)])
    (fun i => H ++ [some (.row 8 [.agg [.int .i64 3, .int .u64 (w 0 : Nat), .int .u64 (w 1 : Nat), .int .u64 (w 2 : Nat), .int .u64 (w 3 : Nat), x, .int .i64 lo, .int .i64 hi]]), some (.row 1 (ab3 ((ts.take i).foldl (fun o t => orL o (aa5 s t a)) (ab8 (s.length + 1)))))]) 0 (by omega) ?_ rfl ?_
   ·simp (disch := omega) only [go_sem, simprocAttr, Sl]
   rintro i t hil ht K hK
   simp (disch := omega) only [go_sem, simprocAttr, Sl] at ht
   by_cases hlt : i < ts.length
   ·obtain ⟨q, hq⟩ := aa8 hlt
    have hat := hx.atT hq
    have hyl := RT.cells q
    have hyt : List.take 8 q.E.cells = q.E.cells := List.take_of_length_le (by omega)
    have hya : EV.agg q.E.cells = q.E := by cases q; rfl
    have hqm := List.mem_of_getElem? hq
    have hih := fun G => ih q hqm (hsub q hqm) y a (H ++ G) (hy.mono G) ha
    have hnx : (ts.take (i + 1)).foldl (fun o t => orL o (aa5 s t a)) (ab8 (s.length + 1)) = orL ((ts.take i).foldl (fun o t => orL o (aa5 s t a)) (ab8 (s.length + 1))) (aa5 s q a) := by rw [List.take_add_one, hq, List.foldl_append]; rfl
    have hX := (hlin q hqm).len a ha
    have ho := hfl2 i
    have go := fun s' H' => hK (i + 1) s' H' (by omega) (by omega)
    rw [hnx] at go
    generalize (ts.take i).foldl (fun o t => orL o (aa5 s t a)) (ab8 (s.length + 1)) = o at ho go ⊢
    generalize aa5 s q a = X at hih hX go
    unfold EV.cells at hyt hyl hya hat
    clear hK ih hnx hlin hfl2 hsub
    show @Hd E ⟨_⟩ ⟨t⟩ ⟨H ++ [some (.row 8 [.agg [.int .i64 3, .int .u64 (w 0 : Nat), .int .u64 (w 1 : Nat), .int .u64 (w 2 : Nat), .int .u64 (w 3 : Nat), x, .int .i64 lo, .int .i64 hi]]), some (.row 1 (ab3 o))]⟩ ⟨_⟩
    repeat' first | (simp (disch := first | omega | assumption) only [go_sem, simprocAttr, *]) | refine aa0 (fun hb=>?_) fun hb=>?_ | refine aa1 (fun hb=>?_) fun hb=>?_
    all_goals (try simp only [FX] at *)
    all_goals first | omega | skip
    clear hih hat hyl hyt hya
    refine ae4 (ι := Nat) (fun k => k ≤ s.length + 1) (fun k => s.length + 1 - k) (fun k => [(1, .str s), (2, y), (3, .ptr H.length 8 0 0), (7, .own (H.length + 1) 1 0 (s.length + 1)), (10, .int .i64 i), (11, .imm 1 (ab3 X)), (12, .int .i64 k)])
     (fun k => H ++ [some (.row 8 [.agg [.int .i64 3, .int .u64 (w 0 : Nat), .int .u64 (w 1 : Nat), .int .u64 (w 2 : Nat), .int .u64 (w 3 : Nat), x, .int .i64 lo, .int .i64 hi]]), some (.row 1 (ab3 (mixB (orL o X) o k)))]) 0 (by omega) ?_ ?_ ?_
    ·simp (disch := omega) only [go_sem, simprocAttr, Sl, ht, and_self]
    ·rw [cr3]
    clear ht t
    rintro k t hkl ht K2 hK2
    simp (disch := omega) only [go_sem, simprocAttr, Sl] at ht
    have hoX : (orL o X).length = o.length := ag2 (by omega)
    by_cases hkt : k < s.length + 1
    ·obtain ⟨ov, hov⟩ := aa8 (l := o) (i := k) (by omega)
     obtain ⟨xv, hxv⟩ := aa8 (l := X) (i := k) (by omega)
     have hxe := at1 hxv
     have hme : (ab3 (mixB (orL o X) o k))[k]? = some (.bool ov) := at1 (by rw [cl6 hoX]; exact hov)
     have hcv : (orL o X)[k]? = some (ov || xv) := by unfold orL; rw [List.getElem?_zipWith, hov, hxv]
     have hset2 : (ab3 (mixB (orL o X) o k)).set k (.bool (ov || xv)) = ab3 (mixB (orL o X) o (k + 1)) := by rw [bq5, cl4 hoX hcv]
     have hlen : (ab3 (mixB (orL o X) o k)).length = s.length + 1 := by rw [ae0, cl5 hoX, ho]
     have go2 := fun s' H' => hK2 (k + 1) s' H' (by omega) (by omega)
     clear hK2 go
     cases ov with
     | true =>
      simp only [Bool.true_or] at hset2
      repeat' first | (simp (disch := first | omega | assumption) only [go_sem, simprocAttr, *]) | refine aa0 (fun hb=>?_) fun hb=>?_ | refine aa1 (fun hb=>?_) fun hb=>?_
      all_goals (try simp only [FX] at *)
      all_goals first | omega | skip
      refine go2 _ _ ?_ rfl
      simp (disch := omega) only [go_sem, simprocAttr, Sl, ht, and_self, aa7]
     | false =>
      simp only [Bool.false_or] at hset2
      repeat' first | (simp (disch := first | omega | assumption) only [go_sem, simprocAttr, *]) | refine aa0 (fun hb=>?_) fun hb=>?_ | refine aa1 (fun hb=>?_) fun hb=>?_
      all_goals (try simp only [FX] at *)
      all_goals first | omega | skip
      refine go2 _ _ ?_ rfl
      simp (disch := omega) only [go_sem, simprocAttr, Sl, ht, and_self, aa7]
    ·have hke : k = s.length + 1 := by omega
     subst hke
     rw [show mixB (orL o X) o (s.length + 1) = orL o X from by
      have := cd3 hoX
      rwa [ho] at this]
     clear hK2
     repeat' first | (simp (disch := first | omega | assumption) only [go_sem, simprocAttr, *]) | refine aa0 (fun hb=>?_) fun hb=>?_ | refine aa1 (fun hb=>?_) fun hb=>?_
     all_goals (try simp only [FX] at *)
     all_goals first | omega | skip
     refine go _ _ ?_ rfl
     simp (disch := omega) only [go_sem, simprocAttr, Sl, ht, and_self, aa7]
   ·have hie : i = ts.length := by omega
    subst hie
    rw [List.take_length]
    have hl := hfl2 ts.length
    rw [List.take_length] at hl
    clear hK ih hlin hfl2 hsub
    repeat' first | (simp (disch := first | omega | assumption) only [go_sem, simprocAttr, *]) | refine aa0 (fun hb=>?_) fun hb=>?_ | refine aa1 (fun hb=>?_) fun hb=>?_
    all_goals (try simp only [FX] at *)
    all_goals first | omega | skip
    exact bh1 rfl (ca5 hl) rfl
  have hk4 : kd = 4 ∧ ts.length = 1 ∧ 0 ≤ lo ∧ lo ≤ 64 ∧ (hi = -1 ∨ lo ≤ hi ∧ hi ≤ 64) := by
   simp only [ap4] at hnb
   rw [if_neg k0, if_neg k1, if_neg (by omega)] at hnb
   by_cases k4 : kd = 4
   ·rw [if_pos k4] at hnb
    simp only [Bool.and_eq_true, Bool.or_eq_true, decide_eq_true_eq] at hnb
    exact ⟨k4, hnb.1, hnb.2.2.1, hnb.2.2.2.1, hnb.2.2.2.2⟩
   ·rw [if_neg k4] at hnb
    simp at hnb
  obtain ⟨k4, h1, hlo0, hlo, hhi⟩ := hk4
  subst k4
  obtain ⟨q, hq⟩ := aa8 (l := ts) (i := 0) (by omega)
  obtain ⟨lo', rfl⟩ : ∃ n : Nat, lo = n := ⟨lo.toNat, by omega⟩
  obtain ⟨K0, hK0⟩ : ∃ K0 : Nat, K0 = if hi < 0 then s.length + 1 else (hi - (lo' : Int)).toNat := ⟨_, rfl⟩
  have hqm := List.mem_of_getElem? hq
  have hlf := hlin q hqm
  have e : ak3 s 4 w lo' hi (ts.map (aa5 s)) a = sumN (aa5 s q) (powN (aa5 s q) lo' a) K0 := by
   have : (ts.map (aa5 s)).headD (fun a => a) = aa5 s q := by
    cases ts with
    | nil => simp at hq
    | cons t ts =>
     simp only [List.getElem?_cons_zero, Option.some.injEq] at hq
     subst hq
     rfl
   unfold ak3
   rw [if_neg (by omega), if_neg (by omega), if_neg (by omega), if_neg (by omega), this, Int.toNat_natCast, ← hK0]
  rw [e]
  clear e
  have hat : az2 8 (0 : Int) x = some (.iptr q.E.cells 0) := hx.atT hq
  have hyl := RT.cells q
  have hyt : List.take 8 q.E.cells = q.E.cells := List.take_of_length_le (by omega)
  have hya : EV.agg q.E.cells = q.E := by cases q; rfl
  have hih := fun (v : EV) (b : List Bool) (G : Heap) (hv : ArgB H v b) (hb : b.length = s.length + 1) => ih q hqm (hsub q hqm) v b (H ++ G) (hv.mono G) hb
  have hmost : (if hi < 0 then (lo' : Int) + s.length + 1 else hi) = ((lo' + K0 : Nat) : Int) := by
   split <;> rename_i hh
   ·rw [if_pos hh] at hK0; omega
   ·rw [if_neg hh] at hK0; omega
  clear ih hlin hsub hts hnb
  generalize aa5 s q = f at hlf hih ⊢
  unfold EV.cells at hyt hyl hya hat
  refine ew1 (fun t' W' => Sl t' [(1, .str s), (2, y), (3, .ptr H.length 8 0 0)] ∧ W' = H ++ [some (.row 8 [.agg [.int .i64 4, .int .u64 (w 0 : Nat), .int .u64 (w 1 : Nat), .int .u64 (w 2 : Nat), .int .u64 (w 3 : Nat), x, .int .i64 (lo' : Nat), .int .i64 hi]])]) ?_ ?_
  ·repeat' first | (simp (disch := first | omega | assumption) only [go_sem, simprocAttr, Sl, *]) | refine aa0 (fun hb=>?_) fun hb=>?_ | refine aa1 (fun hb=>?_) fun hb=>?_
  rintro t _ ⟨ht, rfl⟩
  simp (disch := omega) only [go_sem, simprocAttr, Sl] at ht
  have hd : (hi < 0 ∧ (lo' : Int) + s.length + 1 = ((lo' + K0 : Nat) : Int)) ∨ (¬hi < 0 ∧ hi = ((lo' + K0 : Nat) : Int)) := by
   by_cases h : hi < 0
   ·rw [if_pos h] at hmost; exact .inl ⟨h, hmost⟩
   ·rw [if_neg h] at hmost; exact .inr ⟨h, hmost⟩
  have hKl : K0 ≤ 200000 := by
   rw [hK0]
   split <;> omega
  clear hmost hK0
  have hpl : ∀ j, (powN f j a).length = s.length + 1 := fun j => (ak8 hlf j).len a ha
  have hsl : ∀ j, (sumN f (powN f lo' a) j).length = s.length + 1 := fun j => ay4 hlf (hpl lo') j
  have hol : ∀ j, (outN f s lo' a j).length = s.length + 1 := fun j => by
   unfold outN
   split
   ·rw [ac1]
   ·exact hsl _
  have hon : ∀ j, lo' ≤ j → orL (outN f s lo' a j) (powN f j a) = outN f s lo' a (j + 1) := fun j hj => by
   unfold outN
   rw [if_neg (show ¬ j + 1 ≤ lo' by omega)]
   by_cases e : j = lo'
   ·subst e
    rw [if_pos (Nat.le_refl _), show j + 1 - j - 1 = 0 by omega]
    exact ap2 (by rw [ag2 (by rw [ac1, hpl]), ac1]; exact (hpl j).symm) fun i => by
     rw [ad5 (by rw [ac1, hpl]), af0]; rfl
   ·rw [if_neg (by omega), show j + 1 - lo' - 1 = (j - lo' - 1) + 1 by omega, ck2 hlf (hpl lo'), show j - lo' - 1 + 1 = j - lo' by omega, ← bt9, show lo' + (j - lo') = j by omega]
  have hlast : outN f s lo' a (lo' + K0 + 1) = sumN f (powN f lo' a) K0 := by
   unfold outN
   rw [if_neg (by omega), show lo' + K0 + 1 - lo' - 1 = K0 by omega]
  have hout0 : outN f s lo' a 0 = ab8 (s.length + 1) := by unfold outN; rw [if_pos (Nat.zero_le _)]
  by_cases hneg : hi < 0
  all_goals
   repeat' first | (simp (disch := first | omega | assumption) only [go_sem, simprocAttr, *]) | refine aa0 (fun hb=>?_) fun hb=>?_ | refine aa1 (fun hb=>?_) fun hb=>?_
   all_goals (try simp only [FX] at *)
   all_goals first | omega | skip
   refine ae4 (ι := Nat × EV) (fun p => p.1 ≤ lo' + K0 + 1 ∧ ArgB H p.2 (powN f (min p.1 (lo' + K0)) a)) (fun p => lo' + K0 + 1 - p.1) (fun p => [(1, .str s), (3, .ptr H.length 8 0 0), (7, .own (H.length + 1) 1 0 (s.length + 1)), (13, p.2), (14, .int .i64 ((lo' + K0 : Nat) : Int)), (15, .int .i64 p.1)])
    (fun p => H ++ [some (.row 8 [.agg [.int .i64 4, .int .u64 (w 0 : Nat), .int .u64 (w 1 : Nat), .int .u64 (w 2 : Nat), .int .u64 (w 3 : Nat), x, .int .i64 (lo' : Nat), .int .i64 hi]]), some (.row 1 (ab3 (outN f s lo' a p.1)))]) (0, y) ⟨by omega, by rw [Nat.zero_min]; exact hy⟩ ?_ (by rw [hout0]) ?_
   ·simp (disch := omega) only [go_sem, simprocAttr, Sl, ht, and_self]
    rcases hd with ⟨h1, h2⟩ | ⟨h1, h2⟩ <;> first | omega | (exfalso; omega) | (rw [h2])
   clear ht t
   rintro ⟨j, v⟩ t ⟨hjl, hv⟩ ht K hK
   simp only at hjl hv
   simp (disch := omega) only [go_sem, simprocAttr, Sl] at ht
   show @Hd E ⟨_⟩ ⟨t⟩ ⟨H ++ [some (.row 8 [.agg [.int .i64 4, .int .u64 (w 0 : Nat), .int .u64 (w 1 : Nat), .int .u64 (w 2 : Nat), .int .u64 (w 3 : Nat), x, .int .i64 (lo' : Nat), .int .i64 hi]]), some (.row 1 (ab3 (outN f s lo' a j)))]⟩ ⟨_⟩
   have hoj := hol j
   by_cases hjt : j < lo' + K0 + 1
   ·rw [Nat.min_eq_left (by omega)] at hv
    have hnl := hpl j
    have go : ∀ (v' : EV) (s' : aa4) (H' : Heap), ArgB H v' (powN f (min (j + 1) (lo' + K0)) a) → Sl s' _ → H' = _ → K s' H' := fun v' s' H' hv' => hK (j + 1, v') s' H' ⟨by simp only; omega, hv'⟩ (by simp only; omega)
    simp only at go
    clear hK
    have hih2 := fun G => hih v (powN f j a) G hv hnl
    by_cases hge : lo' ≤ j
    ·have hor := hon j hge
     rw [← hor] at go
     generalize outN f s lo' a j = o at hoj go ⊢
     clear hih
     repeat' first | (simp (disch := first | omega | assumption) only [go_sem, simprocAttr, *]) | refine aa0 (fun hb=>?_) fun hb=>?_ | refine aa1 (fun hb=>?_) fun hb=>?_
     all_goals (try simp only [FX] at *)
     all_goals first | omega | skip
     refine ae4 (ι := Nat) (fun k => k ≤ s.length + 1) (fun k => s.length + 1 - k) (fun k => [(1, .str s), (3, .ptr H.length 8 0 0), (7, .own (H.length + 1) 1 0 (s.length + 1)), (13, v), (14, .int .i64 ((lo' + K0 : Nat) : Int)), (15, .int .i64 j), (16, .int .i64 k)])
      (fun k => H ++ [some (.row 8 [.agg [.int .i64 4, .int .u64 (w 0 : Nat), .int .u64 (w 1 : Nat), .int .u64 (w 2 : Nat), .int .u64 (w 3 : Nat), x, .int .i64 (lo' : Nat), .int .i64 hi]]), some (.row 1 (ab3 (mixB (orL o (powN f j a)) o k)))]) 0 (by omega) ?_ ?_ ?_
     ·simp (disch := omega) only [go_sem, simprocAttr, Sl, ht, and_self]
     ·rw [cr3]
     clear ht t
     rintro k t hkl ht K2 hK2
     simp (disch := omega) only [go_sem, simprocAttr, Sl] at ht
     generalize hX0 : powN f j a = X at hnl go hv hih2 hK2 ⊢
     have hoX : (orL o X).length = o.length := ag2 (by omega)
     show @Hd E ⟨_⟩ ⟨t⟩ ⟨H ++ [some (.row 8 [.agg [.int .i64 4, .int .u64 (w 0 : Nat), .int .u64 (w 1 : Nat), .int .u64 (w 2 : Nat), .int .u64 (w 3 : Nat), x, .int .i64 (lo' : Nat), .int .i64 hi]]), some (.row 1 (ab3 (mixB (orL o X) o k)))]⟩ ⟨_⟩
     by_cases hkt : k < s.length + 1
     ·obtain ⟨ov, hov⟩ := aa8 (l := o) (i := k) (by omega)
      obtain ⟨xv, hxv⟩ := aa8 (l := X) (i := k) (by omega)
      obtain ⟨p, hp1, hp2⟩ := hv.at hxv
      simp (disch := omega) only [go_sem, simprocAttr] at hp2
      have hme : (ab3 (mixB (orL o X) o k))[k]? = some (.bool ov) := at1 (by rw [cl6 hoX]; exact hov)
      have hcv : (orL o X)[k]? = some (ov || xv) := by unfold orL; rw [List.getElem?_zipWith, hov, hxv]
      have hset2 : (ab3 (mixB (orL o X) o k)).set k (.bool (ov || xv)) = ab3 (mixB (orL o X) o (k + 1)) := by rw [bq5, cl4 hoX hcv]
      have hlen : (ab3 (mixB (orL o X) o k)).length = s.length + 1 := by rw [ae0, cl5 hoX, hoj]
      have go2 := fun s' H' => hK2 (k + 1) s' H' (by omega) (by omega)
      clear hK2 go hih2 hX0
      cases ov with
      | true =>
       simp only [Bool.true_or] at hset2
       repeat' first | (simp (disch := first | omega | assumption) only [go_sem, simprocAttr, *]) | refine aa0 (fun hb=>?_) fun hb=>?_ | refine aa1 (fun hb=>?_) fun hb=>?_
       all_goals (try simp only [FX] at *)
       all_goals first | omega | skip
       refine go2 _ _ ?_ rfl
       simp (disch := omega) only [go_sem, simprocAttr, Sl, ht, and_self, aa7]
      | false =>
       simp only [Bool.false_or] at hset2
       repeat' first | (simp (disch := first | omega | assumption) only [go_sem, simprocAttr, *]) | refine aa0 (fun hb=>?_) fun hb=>?_ | refine aa1 (fun hb=>?_) fun hb=>?_
       all_goals (try simp only [FX] at *)
       all_goals first | omega | skip
       refine go2 _ _ ?_ rfl
       simp (disch := omega) only [go_sem, simprocAttr, Sl, ht, and_self, aa7]
     ·have hke : k = s.length + 1 := by omega
      subst hke
      rw [show mixB (orL o X) o (s.length + 1) = orL o X from by
       have := cd3 hoX
       rwa [hoj] at this]
      clear hK2
      by_cases hjm : j < lo' + K0
      ·rw [Nat.min_eq_left (by omega)] at go
       have hpe : powN f (j + 1) a = f X := by show f (powN f j a) = f X; rw [hX0]
       rw [hpe] at go
       have go2 := fun s' H' => go (.imm 1 (ab3 (f X))) s' H' (.inl (.imm (fun n => bo3 n _) (by rw [ae0, hlf.len _ hnl]; omega)))
       clear go hX0 hpe
       repeat' first | (simp (disch := first | omega | assumption) only [go_sem, simprocAttr, *]) | refine aa0 (fun hb=>?_) fun hb=>?_ | refine aa1 (fun hb=>?_) fun hb=>?_
       all_goals (try simp only [FX] at *)
       all_goals first | omega | skip
       refine go2 _ _ ?_ rfl
       simp (disch := omega) only [go_sem, simprocAttr, Sl, ht, and_self, aa7]
      ·have hje : j = lo' + K0 := by omega
       rw [Nat.min_eq_right (by omega), ← hje, hX0] at go
       have go2 := fun s' H' => go v s' H' hv
       rw [hje] at ht go2
       clear go hX0 hih2
       repeat' first | (simp (disch := first | omega | assumption) only [go_sem, simprocAttr, *]) | refine aa0 (fun hb=>?_) fun hb=>?_ | refine aa1 (fun hb=>?_) fun hb=>?_
       all_goals (try simp only [FX] at *)
       all_goals first | omega | skip
       refine go2 _ _ ?_ rfl
       simp (disch := omega) only [go_sem, simprocAttr, Sl, ht, and_self, aa7]
    ·have hor : outN f s lo' a (j + 1) = outN f s lo' a j := by unfold outN; rw [if_pos (by omega), if_pos (by omega)]
     rw [hor] at go
     have hlt : j < lo' + K0 := by omega
     rw [Nat.min_eq_left (by omega)] at go
     have go2 := fun s' H' => go (.imm 1 (ab3 (f (powN f j a)))) s' H' (.inl (.imm (fun n => bo3 n _) (by rw [ae0, hlf.len _ hnl]; omega)))
     clear go hih hor
     generalize outN f s lo' a j = o at hoj go2 ⊢
     repeat' first | (simp (disch := first | omega | assumption) only [go_sem, simprocAttr, *]) | refine aa0 (fun hb=>?_) fun hb=>?_ | refine aa1 (fun hb=>?_) fun hb=>?_
     all_goals (try simp only [FX] at *)
     all_goals first | omega | skip
     refine go2 _ _ ?_ rfl
     simp (disch := omega) only [go_sem, simprocAttr, Sl, ht, and_self, aa7]
   ·have hje : j = lo' + K0 + 1 := by omega
    subst hje
    rw [hlast] at hoj ⊢
    clear hK hih hon
    repeat' first | (simp (disch := first | omega | assumption) only [go_sem, simprocAttr, *]) | refine aa0 (fun hb=>?_) fun hb=>?_ | refine aa1 (fun hb=>?_) fun hb=>?_
    all_goals (try simp only [FX] at *)
    all_goals first | omega | skip
    exact bh1 rfl (ca5 hoj) rfl
end
section
variable {E : Env} [R : EndR E]
theorem ed1 (s : List UInt8) (hs : s.length ≤ 100000) (p : Nat) (hp : p ≤ s.length) (H : Heap) : den E R.ai3 [.str s, .int .i64 p] H = some (.ret (.imm 1 (ab3 (atL s.length p))), H) := by
 have hmk := cr2 s.length (by omega) H
 have hfl : (ab3 (ab8 (s.length + 1))).length = s.length + 1 := by rw [ae0, ac1]
 have hz : (ab3 (ab8 (s.length + 1)))[p]? = some (.bool false) := at1 (by unfold ab8; rw [List.getElem?_replicate, if_pos (by omega)])
 have hset : (ab3 (ab8 (s.length + 1))).set p (.bool true) = ab3 (atL s.length p) := by rw [bq5]; rfl
 have hfz : Abs.fz H.length (H ++ [some (.row 1 (ab3 (atL s.length p)))]) 8 (.own H.length 1 0 (s.length + 1)) = some (.imm 1 (ab3 (atL s.length p))) := by
  have hl := at3 s.length p
  unfold Abs.fz
  rw [if_neg (by simp [EV.ok])]
  have hg : (H ++ [some (EB.row 1 (ab3 (atL s.length p)))])[H.length]? = some (some (.row 1 (ab3 (atL s.length p)))) := by simp
  simp only [hg, if_pos (Nat.le_refl _)]
  rw [if_pos ⟨trivial, by rw [ae0]; omega⟩, List.drop_zero, List.take_of_length_le (by rw [ae0]; omega), bk2 fun x hx => by
   obtain ⟨v, _, rfl⟩ := List.mem_map.1 hx
   exact bh0 rfl]
  rfl
 refine ad9 R.be2 (by simp) ?_
 unfold Gn.aw3 Gn.as4
 repeat' first | (simp (disch := first | omega | assumption) only [go_sem, simprocAttr, *]) | refine aa0 (fun hb=>?_) fun hb=>?_ | refine aa1 (fun hb=>?_) fun hb=>?_
 all_goals (try simp only [FX] at *)
 all_goals first | omega | skip
 exact bh1 rfl hfz rfl
theorem dp7 (hR : be5 E R.ac8 .i64) (s : List UInt8) (hs : s.length ≤ 100000) {t : RT} (ht : t.Ok) (hn : ae7 t = true) (H : Heap) :
  den E R.al3 [t.E, .str s] H = some (.ret (.bool ((aa5 s t (atL s.length 0)).getD s.length false)), H) := by
 have hl := (aj9 s ht).len _ (at3 s.length 0)
 have hA : SlV 1 (.imm 1 (ab3 (atL s.length 0))) (ab3 (atL s.length 0)) := .imm (fun n => bo3 n _) (by rw [ae0, at3]; omega)
 have he := fun H => cm6 (R := R) hR s hs ht hn (.imm 1 (ab3 (atL s.length 0))) (atL s.length 0) H (.inl hA) (at3 _ _)
 have hat : ∀ H, den E R.ai3 [.str s, .int .i64 0] H = some (.ret (.imm 1 (ab3 (atL s.length 0))), H) := fun H => ed1 (R := R) s hs 0 (by omega) H
 obtain ⟨v, hv⟩ := aa8 (l := aa5 s t (atL s.length 0)) (i := s.length) (by omega)
 rw [List.getD_eq_getElem?_getD, hv, Option.getD_some]
 have hve := at1 hv
 generalize aa5 s t (atL s.length 0) = q at he hv hve hl
 have hle : (ab3 q).length = s.length + 1 := by rw [ae0]; omega
 cases ht with
 | mk kd w x ts lo hi h1 h2 h3 =>
 have ox := h2.one.2
 have cx := h2.one.1
 refine ad9 R.ax7 (by simp) ?_
 unfold Gn.ap9 Gn.al6
 unfold RT.E at he ⊢
 simp only at he
 unfold EV.one at ox
 unfold EV.cells at cx
 repeat' first | (simp (disch := first | omega | assumption) only [go_sem, simprocAttr, *]) | refine aa0 (fun hb=>?_) fun hb=>?_ | refine aa1 (fun hb=>?_) fun hb=>?_
 all_goals (try simp only [FX] at *)
 all_goals first | omega | skip
 exact aa2 rfl rfl
end
end Abs
