/- A part. -/
import Derived.Test.YtdcjkdgjlljodaaLgA
set_option linter.all false
namespace Abs
open Go
set_option maxRecDepth 20000
theorem da9 {p : Int → Bool} : ∀ {l : List Int} {i : Int}, 0 ≤ i → decide (0 ≤ idxI p l i) = l.any p
 | [], i, h => by simp [idxI]
 | v :: l, i, h => by
  have ih := da9 (p := p) (l := l) (i := i + 1) (by omega)
  rw [List.any_cons]
  by_cases hp : p v = true
  ·have e : idxI p (v :: l) i = i := by simp [idxI, hp]
   rw [e, hp, Bool.true_or]; exact decide_eq_true h
  ·have hp' : p v = false := by simpa using hp
   have e : idxI p (v :: l) i = idxI p l (i + 1) := by simp [idxI, hp']
   rw [e, hp', Bool.false_or]; exact ih
theorem eo7 (v : Int) (l : List Int) : l.any (fun u => v == u) = decide (v ∈ l) := by
 rw [Bool.eq_iff_iff, List.any_eq_true, decide_eq_true_eq]
 constructor
 ·rintro ⟨u, h1, h2⟩
  rw [beq_iff_eq] at h2
  exact h2 ▸ h1
 ·intro h
  exact ⟨v, h, by simp⟩
section
variable {E : Env} [R : SlcR E]
theorem ds0 (x : EV) (l : List Int) (hx : am3 x l) (v : Int) (H : Heap) (hl : l.length ≤ 1000000) :
  den E R.ah4 [x, .int .i64 v] H = some (.ret (.int .i64 (idxI (fun u => v == u) l 0)), H) := by
 have lx := hx.lenI
 obtain ⟨cx, ox⟩ := hx.one
 refine af6 R.ap6 (by simp) ?_
 unfold Gn.ai7 Gn.ah3
 unfold EV.one at ox
 unfold EV.cells at cx
 simp (disch := omega) only [go_sem, simprocAttr, *]
 refine ak0 (ι := Nat) (fun i => i ≤ l.length ∧ idxI (fun u => v == u) l 0 = idxI (fun u => v == u) (l.drop i) i) (fun i => l.length - i) (fun i => [(0, x), (1, .int .i64 v), (7, .int .i64 l.length), (8, .int .i64 i)]) (fun _ => H) 0 ⟨by omega, rfl⟩ ?_ rfl ?_
 ·simp (disch := omega) only [go_sem, simprocAttr, Sl]
 ·rintro i t ⟨hi, hr⟩ ht K hK
  simp (disch := omega) only [go_sem, simprocAttr, Sl] at ht
  by_cases hlt : i < l.length
  ·obtain ⟨u, hu⟩ := ac4 hlt
   have hat := hx.at hu
   rw [bw9 hu] at hr
   simp only [idxI] at hr
   have go : (v == u) = false → _ := fun h s' H' => hK (i + 1) s' H' ⟨by omega, by rw [hr, if_neg (by simp [h])]; rfl⟩ (by omega)
   by_cases hp : (v == u) = true
   ·rw [if_pos hp] at hr
    rw [hr]
    clear go hK hr
    repeat' first | (simp (disch := first | omega | assumption) only [go_sem, simprocAttr, *]) | refine aa0 (fun hb=>?_) fun hb=>?_ | refine aa1 (fun hb=>?_) fun hb=>?_
    all_goals (try simp only [FX] at *)
    all_goals first | omega | skip
    all_goals exact ac5 rfl rfl
   ·have hp : (v == u) = false := by simpa using hp
    replace go := go hp
    clear hK hr
    repeat' first | (simp (disch := first | omega | assumption) only [go_sem, simprocAttr, *]) | refine aa0 (fun hb=>?_) fun hb=>?_ | refine aa1 (fun hb=>?_) fun hb=>?_
    all_goals (try simp only [FX] at *)
    all_goals first | omega | skip
    all_goals refine go _ _ ?_ rfl
    all_goals simp (disch := omega) only [go_sem, simprocAttr, Sl, ht, and_self, ac8]
  ·have : i = l.length := by omega
   subst this
   have he : idxI (fun u => v == u) l 0 = -1 := by rw [hr]; simp [idxI]
   rw [he]
   clear hK hr
   repeat' first | (simp (disch := first | omega | assumption) only [go_sem, simprocAttr, *]) | refine aa0 (fun hb=>?_) fun hb=>?_ | refine aa1 (fun hb=>?_) fun hb=>?_
   all_goals (try simp only [FX] at *)
   all_goals first | omega | skip
   exact ac5 rfl rfl
theorem cq2 (x : EV) (l : List Int) (hx : am3 x l) (v : Int) (H : Heap) (hl : l.length ≤ 1000000) :
  den E R.af5 [x, .int .i64 v] H = some (.ret (.bool (decide (v ∈ l))), H) := by
 have h1 := fun H => ds0 (E := E) x l hx v H hl
 have h2 := da9 (p := fun u => v == u) (l := l) (i := 0) (by omega)
 rw [eo7] at h2
 rw [← h2]
 clear h2
 generalize idxI (fun u => v == u) l 0 = k at h1 ⊢
 obtain ⟨cx, ox⟩ := hx.one
 refine af6 R.am2 (by simp) ?_
 unfold Gn.ag3 Gn.af4
 unfold EV.one at ox
 unfold EV.cells at cx
 repeat' first | (simp (disch := first | omega | assumption) only [go_sem, simprocAttr, *]) | refine aa0 (fun hb=>?_) fun hb=>?_ | refine aa1 (fun hb=>?_) fun hb=>?_
 all_goals (try simp only [FX] at *)
 exact ac5 rfl rfl
end
def ed9 (s : List UInt8) (t : RT) : Bool := (alT t).2 && (bf3 s (alT t).1 (atL s.length 0) || (aa6 s (alT t).1 (atL s.length 0)).getD s.length false)
section
variable {E : Env} [R : bt9 E]
set_option maxHeartbeats 1000000 in
theorem bz8 (hH : bs5 E R.ak5 .u8) (hS : ba3 E R.ab1) {t : RT} (ht : t.Ok) (hz : szT t ≤ 100000) (s : List UInt8) (hs : s.length ≤ 100000) (H : Heap) :
  den E R.av2 [t.E, .str s] H = some (.ret (.bool (mayT t && ed9 s t)), H) := by
 have h1 := fun H => ci0 (E := E) ht H
 cases hm : mayT t with
 | false =>
  rw [hm] at h1
  cases ht with
  | mk kd w x0 ts lo hi hw hx0 hts =>
  obtain ⟨cx, ox⟩ := hx0.one
  refine af6 R.ba7 (by simp) ?_
  unfold Gn.ax6 Gn.ar1
  unfold RT.E at h1 ⊢
  unfold EV.one at ox
  unfold EV.cells at cx
  simp only at h1
  repeat' first | (simp (disch := first | omega | assumption) only [go_sem, simprocAttr, *]) | refine aa0 (fun hb=>?_) fun hb=>?_ | refine aa1 (fun hb=>?_) fun hb=>?_
  all_goals (try simp only [FX] at *)
  exact aa4 rfl rfl
 | true =>
  rw [hm] at h1
  have hn : am5 t = true := by
   unfold mayT at hm
   simp only [Bool.and_eq_true] at hm
   exact hm.2.2
  have h2 := et6 (E := E) ht hn hz
  obtain ⟨xok, xfit, _⟩ := et5 ht hn
  have hA : am3 (.imm 1 [.int .i64 0]) (posL 0 (atL s.length 0)) := by
   rw [do1 _ _ (by omega)]
   exact bn0 (l := [(0 : Int)]) (by simp)
  unfold ed9
  obtain ⟨xl, xo, xa, xt⟩ := RT.boxed xok
  obtain ⟨y, h3, h4⟩ := cn2 (E := E) hH hS s hs xok xfit (.imm 1 [.int .i64 0]) (atL s.length 0) (H.length + 2) false (H ++ [some (.row 8 [t.E]), some (.row 8 [(alT t).1.E]), some (.row 2 [.agg [.str s, .bool false]])]) hA (ba2 _ _) (by rw [List.getElem?_append_right (by omega), Nat.add_sub_cancel_left]; rfl)
  rw [List.set_append_right _ _ (by omega), Nat.add_sub_cancel_left] at h3
  simp only [List.set_cons_succ, List.set_cons_zero, Bool.false_or] at h3
  have hel := (av8 s xok).len _ (ba2 s.length 0)
  have hll : (posL 0 (aa6 s (alT t).1 (atL s.length 0))).length ≤ 1000000 := by
   have h4 := bd5 (aa6 s (alT t).1 (atL s.length 0))
   rw [as6]
   omega
  have h5 := fun H => cq2 (E := E) y _ h4 (s.length : Int) H hll
  have hmem : decide ((s.length : Int) ∈ posL 0 (aa6 s (alT t).1 (atL s.length 0))) = (aa6 s (alT t).1 (atL s.length 0)).getD s.length false := by
   rw [Bool.eq_iff_iff, decide_eq_true_eq, ak7]
   constructor
   ·rintro ⟨i, h, e⟩
    obtain rfl : i = s.length := by omega
    exact h
   ·intro h
    exact ⟨s.length, h, by omega⟩
  rw [hmem] at h5
  generalize (aa6 s (alT t).1 (atL s.length 0)).getD s.length false = q at h5 ⊢
  generalize bf3 s (alT t).1 (atL s.length 0) = op at h3 ⊢
  generalize posL 0 (aa6 s (alT t).1 (atL s.length 0)) = l at h4
  obtain ⟨cy, oy⟩ := h4.one
  generalize (alT t).2 = b at h2 ⊢
  generalize (alT t).1.E = z at *
  cases ht with
  | mk kd w x0 ts lo hi hw hx0 hts =>
  obtain ⟨cx, ox⟩ := hx0.one
  refine af6 R.ba7 (by simp) ?_
  unfold Gn.ax6 Gn.ar1
  unfold RT.E at h1 h2 h3 ⊢
  unfold EV.one at ox oy
  unfold EV.cells at cx cy xl xo xa xt
  simp only at h1 h2 h3
  clear hA hn hz hll hmem h4 hel
  cases b with
  | false =>
   repeat' first | (simp (disch := first | omega | assumption) only [go_sem, simprocAttr, *]) | refine aa0 (fun hb=>?_) fun hb=>?_ | refine aa1 (fun hb=>?_) fun hb=>?_
   all_goals (try simp only [FX] at *)
   exact aa4 rfl rfl
  | true =>
   cases op with
   | true =>
    repeat' first | (simp (disch := first | omega | assumption) only [go_sem, simprocAttr, *]) | refine aa0 (fun hb=>?_) fun hb=>?_ | refine aa1 (fun hb=>?_) fun hb=>?_
    all_goals (try simp only [FX] at *)
    exact aa4 rfl rfl
   | false =>
    repeat' first | (simp (disch := first | omega | assumption) only [go_sem, simprocAttr, *]) | refine aa0 (fun hb=>?_) fun hb=>?_ | refine aa1 (fun hb=>?_) fun hb=>?_
    all_goals (try simp only [FX] at *)
    exact aa4 rfl rfl
end
def wA : Nat → Nat := fun i => if i = 1 then 8589934592 else 0
def wB : Nat → Nat := fun i => if i = 1 then 17179869184 else 0
def bi9 (w : Nat → Nat) : RT := .mk 1 w .nilsl [] 0 0
def abT : RT := .mk 4 (fun _ => 0) (.imm 8 [(RT.mk 2 (fun _ => 0) (.imm 8 [(bi9 wA).E, (bi9 wB).E]) [bi9 wA, bi9 wB] 0 0).E]) [.mk 2 (fun _ => 0) (.imm 8 [(bi9 wA).E, (bi9 wB).E]) [bi9 wA, bi9 wB] 0 0] 0 (-1)
theorem ci2 {w : Nat → Nat} (h : bp1 w) : (bi9 w).Ok := .mk _ _ _ _ _ _ h .nil fun t h => by simp at h
theorem eq6 : bp1 wA := fun i => by unfold wA; split <;> omega
theorem eq5 : bp1 wB := fun i => by unfold wB; split <;> omega
theorem dc0 : abT.Ok := by
 have h : (RT.mk 2 (fun _ => 0) (.imm 8 [(bi9 wA).E, (bi9 wB).E]) [bi9 wA, bi9 wB] 0 0).Ok := .mk _ _ _ _ _ _ cc6 (.imm (es := [(bi9 wA).E, (bi9 wB).E]) (fun n => by simp [okL, RT.ok (ci2 eq6), RT.ok (ci2 eq5)]) (by simp)) fun t h => by
  simp only [List.mem_cons, List.not_mem_nil, or_false] at h
  rcases h with rfl | rfl
  ·exact ci2 eq6
  ·exact ci2 eq5
 exact .mk _ _ _ _ _ _ cc6 (.imm (es := [(RT.mk 2 (fun _ => 0) (.imm 8 [(bi9 wA).E, (bi9 wB).E]) [bi9 wA, bi9 wB] 0 0).E]) (fun n => by simp [okL, RT.ok h]) (by simp)) fun t ht => by
  simp only [List.mem_cons, List.not_mem_nil, or_false] at ht
  subst ht
  exact h
section
variable {E : Env} [R : AliR E]
structure dy5 (E : Env) (f : FuncId) : Prop where
 a : ∀ H, den E f [.int .i64 97, .int .i64 97] H = some (.ret (.agg [.int .u64 0, .int .u64 8589934592, .int .u64 0, .int .u64 0]), H)
 b : ∀ H, den E f [.int .i64 98, .int .i64 98] H = some (.ret (.agg [.int .u64 0, .int .u64 17179869184, .int .u64 0, .int .u64 0]), H)
theorem et7 (hG : dy5 E R.an9) (H : Heap) : den E R.as7 [] H = some (.ret abT.E, H) := by
 have h1 := hG.a
 have h2 := hG.b
 refine af6 R.bj8 (by simp) ?_
 unfold Gn.as3 Gn.ap2
 repeat' first | (simp (disch := first | omega | assumption) only [go_sem, simprocAttr, *]) | refine aa0 (fun hb=>?_) fun hb=>?_ | refine aa1 (fun hb=>?_) fun hb=>?_
 all_goals (try simp only [FX] at *)
 exact aa4 rfl rfl
set_option maxHeartbeats 1000000 in
theorem cy5 (hG : dy5 E R.an9) (hH : bs5 E R.ak5 .u8) (hS : ba3 E R.ab1) (H : Heap) : den E R.af8 [] H = some (.ret (.bool true), H) := by
 have h1 := fun H => et7 (E := E) hG H
 have hm : mayT abT = true := by decide +kernel
 obtain ⟨y, h2, h3⟩ := bu6 (E := E) hH hS dc0 hm [97, 98, 97, 98, 97] (by simp) 0 (by simp) H
 have e3 : posL 0 (aa6 [97, 98, 97, 98, 97] abT (atL ([97, 98, 97, 98, 97] : List UInt8).length 0)) = [0, 2, 4] := by decide +kernel
 rw [e3] at h3
 rw [show ((0 : Nat) : Int) = 0 from rfl] at h2
 have h4 := fun H => dd1 (E := E) y (.imm 1 [.int .i64 0, .int .i64 2, .int .i64 4]) [0, 2, 4] [0, 2, 4] h3 (bn0 (l := [0, 2, 4]) (by simp)) (by simp) (by simp) H
 rw [decide_eq_true rfl] at h4
 have h5 := fun H => bz3 (E := E) hH hS dc0 hm [97, 98, 98] (by simp) H
 have e5 : bz7 (posL 0 (aa6 [97, 98, 98] abT (atL ([97, 98, 98] : List UInt8).length 0))) = 2 := by decide +kernel
 rw [e5] at h5
 have h6 := fun H => bz8 (E := E) hH hS dc0 (by decide +kernel) [97, 98, 97] (by simp) H
 have e6 : (mayT abT && ed9 [97, 98, 97] abT) = true := by decide +kernel
 rw [e6] at h6
 have h7 := fun H => bz8 (E := E) hH hS dc0 (by decide +kernel) [97, 98, 98] (by simp) H
 have e7 : (mayT abT && ed9 [97, 98, 98] abT) = false := by decide +kernel
 rw [e7] at h7
 obtain ⟨cy, oy⟩ := h3.one
 unfold EV.one at oy
 unfold EV.cells at cy
 clear hm e3 e5 e6 e7 h3
 generalize abT.E = z at *
 refine af6 R.bd2 (by simp) ?_
 unfold Gn.an3 Gn.aj8
 repeat' first | (simp (disch := first | omega | assumption) only [go_sem, simprocAttr, *]) | refine aa0 (fun hb=>?_) fun hb=>?_ | refine aa1 (fun hb=>?_) fun hb=>?_
 all_goals (try simp only [FX] at *)
 exact ac5 rfl rfl
end
def bs3 (a b : RT) : RT := .mk 2 (fun _ => 0) (.imm 8 [a.E, b.E]) [a, b] 0 0
def bi8 (a b : RT) : RT := .mk 4 (fun _ => 0) (.imm 8 [.agg [.int .i64 3, .int .u64 0, .int .u64 0, .int .u64 0, .int .u64 0, .imm 8 [a.E, b.E], .int .i64 0, .int .i64 0]]) [.mk 3 (fun _ => 0) (.imm 8 [a.E, b.E]) [a, b] 0 0] 2 2
theorem ei7 {k : Int} {lo hi : Int} {a b : RT} (ha : a.Ok) (hb : b.Ok) : (RT.mk k (fun _ => 0) (.imm 8 [a.E, b.E]) [a, b] lo hi).Ok :=
 .mk _ _ _ _ _ _ cc6 (.imm (es := [a.E, b.E]) (fun n => by simp [okL, RT.ok ha, RT.ok hb]) (by simp)) fun t ht => by
  simp only [List.mem_cons, List.not_mem_nil, or_false] at ht
  rcases ht with rfl | rfl <;> assumption
theorem dq4 {a b : RT} (ha : a.Ok) (hb : b.Ok) : (bi8 a b).Ok := by
 have h := ei7 (k := 3) (lo := 0) (hi := 0) ha hb
 exact .mk _ _ _ _ _ _ cc6 (.imm (es := [(RT.mk 3 (fun _ => 0) (.imm 8 [a.E, b.E]) [a, b] 0 0).E]) (fun n => by simp [okL, RT.ok h]) (by simp)) fun t ht => by
  simp only [List.mem_cons, List.not_mem_nil, or_false] at ht
  subst ht
  exact h
theorem dx4 (s : List UInt8) (a b : RT) (x : List Bool) : aa6 s (bs3 a b) x = aa6 s b (aa6 s a x) := by
 unfold bs3
 rw [aa6, ax8]
 simp [au7]
theorem dq5 (s : List UInt8) (a b : RT) (x : List Bool) : aa6 s (bi8 a b) x = orL (orL (falses (s.length + 1)) (aa6 s a (orL (orL (falses (s.length + 1)) (aa6 s a x)) (aa6 s b x)))) (aa6 s b (orL (orL (falses (s.length + 1)) (aa6 s a x)) (aa6 s b x))) := by
 have h3 : ∀ y, aa6 s (.mk 3 (fun _ => 0) (.imm 8 [a.E, b.E]) [a, b] 0 0) y = orL (orL (falses (s.length + 1)) (aa6 s a y)) (aa6 s b y) := fun y => by
  rw [aa6, ax8]
  simp [au7]
 unfold bi8
 rw [aa6, ax8]
 simp [au7, powN, sumN, h3]
theorem eg8 {a b : RT} (ha : mayT a = true) (hb : mayT b = true) (hsa : szT a + szT b ≤ 250) (hda : depT a ≤ 28) (hdb : depT b ≤ 28) : mayT (bs3 a b) = true ∧ mayT (bi8 a b) = true := by
 have na : am5 a = true := by
  unfold mayT at ha
  simp only [Bool.and_eq_true] at ha
  exact ha.2.2
 have nb : am5 b = true := by
  unfold mayT at hb
  simp only [Bool.and_eq_true] at hb
  exact hb.2.2
 have z1 : szT (bs3 a b) = szT a + szT b + 1 := by simp [bs3, szT, szL]
 have z2 : szT (bi8 a b) = szT a + szT b + 2 := by simp [bi8, szT, szL]
 have d1 : depT (bs3 a b) ≤ 30 := by
  simp only [bs3, depT, depL]
  split <;> split <;> omega
 have d2 : depT (bi8 a b) ≤ 30 := by
  simp only [bi8, depT, depL]
  repeat' split
  all_goals omega
 have hz : zset (fun _ => 0) = true := by simp [zset]
 have n1 : am5 (bs3 a b) = true := by simp [bs3, am5, bl4, bf4, na, nb, hz]
 have n2 : am5 (bi8 a b) = true := by simp [bi8, am5, bl4, bf4, na, nb, hz]
 rw [ej3 (by omega), ej3 (by omega), n1, n2, cm9 _ (by omega), cm9 _ (by omega)]
 simp only [Bool.and_true, Bool.and_eq_true, decide_eq_true_eq]
 omega
theorem ce9 {s : List UInt8} {a b : RT} (ha : a.Ok) (hb : b.Ok) {x : List Bool} (lx : x.length = s.length + 1)
  (h : (∀ y : List Bool, y.length = s.length + 1 → Le 0 (aa6 s a x) y → (aa6 s b y).getD s.length false = true) ∨ (∀ y : List Bool, y.length = s.length + 1 → Le 0 (aa6 s b x) y → (aa6 s a y).getD s.length false = true)) :
  (aa6 s (bi8 a b) x).getD s.length false = true := by
 have la := fun x hx => (av8 s ha).len x hx
 have lb := fun x hx => (av8 s hb).len x hx
 have id0 : ∀ x, Le 0 x x := fun x i h => by rwa [Nat.zero_add]
 have lf := aj2 (s.length + 1)
 rw [dq5]
 have l1 := la _ lx
 have l2 := lb _ lx
 have l3 : (orL (falses (s.length + 1)) (aa6 s a x)).length = s.length + 1 := by rw [ah8 (by omega)]; exact lf
 have l4 : (orL (orL (falses (s.length + 1)) (aa6 s a x)) (aa6 s b x)).length = s.length + 1 := by rw [ah8 (by omega)]; exact l3
 have i1 : Le 0 (aa6 s a x) (orL (orL (falses (s.length + 1)) (aa6 s a x)) (aa6 s b x)) := ((id0 _).right (by omega)).left (by omega)
 have i2 : Le 0 (aa6 s b x) (orL (orL (falses (s.length + 1)) (aa6 s a x)) (aa6 s b x)) := (id0 _).right (by omega)
 generalize orL (orL (falses (s.length + 1)) (aa6 s a x)) (aa6 s b x) = y at l4 i1 i2 ⊢
 have l5 := la _ l4
 have l6 := lb _ l4
 have l7 : (orL (falses (s.length + 1)) (aa6 s a y)).length = s.length + 1 := by rw [ah8 (by omega)]; exact lf
 rw [af1 (by omega), af1 (by omega)]
 rcases h with h | h
 ·rw [h y l4 i1, Bool.or_true]
 ·rw [h y l4 i2, Bool.or_true, Bool.true_or]
theorem dg4 {s0 s1 : List UInt8} {a b : RT} (ha : a.Ok) (hb : b.Ok) (h0 : (aa6 s0 a (atL s0.length 0)).getD s0.length false = true) (h1 : (aa6 s1 b (atL s1.length 0)).getD s1.length false = true) :
  (aa6 (s0 ++ s1) (bs3 a b) (atL (s0 ++ s1).length 0)).getD (s0 ++ s1).length false = true ∧ (aa6 (s0 ++ s1) (bi8 a b) (atL (s0 ++ s1).length 0)).getD (s0 ++ s1).length false = true ∧ (aa6 (s1 ++ s0) (bi8 a b) (atL (s1 ++ s0).length 0)).getD (s1 ++ s0).length false = true := by
 refine ⟨?_, ce9 ha hb (ba2 _ _) (.inl fun y hy hl => ca7 ha hb h0 h1 hy hl), ce9 ha hb (ba2 _ _) (.inr fun y hy hl => ca7 hb ha h1 h0 hy hl)⟩
 rw [dx4]
 exact ca7 ha hb h0 h1 ((av8 _ ha).len _ (ba2 _ _)) fun i h => by rwa [Nat.zero_add]
section
variable {E : Env} [R : LawJ E]
set_option maxHeartbeats 4000000 in
theorem bv4 (hAl : ∀ H, den E R.af8 [] H = some (.ret (.bool true), H)) (hH : bs5 E R.ak5 .u8) (hS : ba3 E R.ab1) {a b : RT} (ha : a.Ok) (hb : b.Ok) (s0 s1 : List UInt8)
  (hs0 : s0.length ≤ 1000000000000000) (hs1 : s1.length ≤ 1000000000000000) (H : Heap) :
  den E R.ao0 [a.E, b.E, .agg [.str s0, .str s1]] H = some (.ret (.bool true), H) := by
 have v1 := fun H => co0 (E := E) ha H
 have v2 := fun H => co0 (E := E) hb H
 have n1 := fun H => bo1 (E := E) ha H
 have n2 := fun H => bo1 (E := E) hb H
 have sz1 := db0 (t := a)
 have sz2 := db0 (t := b)
 have q1 := ej5 a
 have q2 := ej5 b
 have e1 := fun h => cg1 (E := E) ha h
 have e2 := fun h => cg1 (E := E) hb h
 have t1 : s0.length ≤ 40 → ∀ H, _ := fun h H => bh0 (E := E) hH hS ha s0 (by omega) H
 have t2 : s1.length ≤ 40 → ∀ H, _ := fun h H => bh0 (E := E) hH hS hb s1 (by omega) H
 have t3 : s0.length + s1.length ≤ 40 → ∀ H, _ := fun h H => bh0 (E := E) hH hS (t := bs3 a b) (ei7 ha hb) (s0 ++ s1) (by rw [List.length_append]; omega) H
 have t4 : s0.length + s1.length ≤ 40 → ∀ H, _ := fun h H => bh0 (E := E) hH hS (t := bi8 a b) (dq4 ha hb) (s0 ++ s1) (by rw [List.length_append]; omega) H
 have t5 : s0.length + s1.length ≤ 40 → ∀ H, _ := fun h H => bh0 (E := E) hH hS (t := bi8 a b) (dq4 ha hb) (s1 ++ s0) (by rw [List.length_append]; omega) H
 have hj := fun h0 h1 => dg4 ha hb (s0 := s0) (s1 := s1) h0 h1
 have hm := fun x y z => eg8 (a := a) (b := b) x y z
 have nz1 := cm9 a
 have nz2 := cm9 b
 generalize cf4 a = g1 at v1 sz1
 generalize cf4 b = g2 at v2 sz2
 generalize depT a = d1 at q1 e1 hm
 generalize depT b = d2 at q2 e2 hm
 generalize nodW a = w1 at n1 nz1
 generalize nodW b = w2 at n2 nz2
 generalize szT a = z1 at sz1 q1 hm nz1
 generalize szT b = z2 at sz2 q2 hm nz2
 generalize (aa6 s0 a (atL s0.length 0)).getD s0.length false = p1 at t1 hj
 generalize (aa6 s1 b (atL s1.length 0)).getD s1.length false = p2 at t2 hj
 generalize (aa6 (s0 ++ s1) (bs3 a b) (atL (s0 ++ s1).length 0)).getD (s0 ++ s1).length false = p3 at t3 hj
 generalize (aa6 (s0 ++ s1) (bi8 a b) (atL (s0 ++ s1).length 0)).getD (s0 ++ s1).length false = p4 at t4 hj
 generalize (aa6 (s1 ++ s0) (bi8 a b) (atL (s1 ++ s0).length 0)).getD (s1 ++ s0).length false = p5 at t5 hj
 generalize mayT (bs3 a b) = m3 at t3 hm
 generalize mayT (bi8 a b) = m4 at t4 t5 hm
 generalize mayT a = m1 at t1 hm
 generalize mayT b = m2 at t2 hm
 unfold bs3 RT.E at t3
 unfold bi8 RT.E at t4 t5
 obtain ⟨l0, hl0⟩ : ∃ n, n = s0.length := ⟨_, rfl⟩
 obtain ⟨l1, hl1⟩ : ∃ n, n = s1.length := ⟨_, rfl⟩
 cases ha with
 | mk kd w x0 ts lo hi hw hx0 hts =>
 obtain ⟨cx, ox⟩ := hx0.one
 cases hb with
 | mk kd' w' x0' ts' lo' hi' hw' hx0' hts' =>
 obtain ⟨cx', ox'⟩ := hx0'.one
 refine af6 R.aw5 (by simp) ?_
 unfold Gn.ai0 Gn.ag5
 unfold RT.E at v1 v2 n1 n2 e1 e2 t1 t2 ⊢
 unfold EV.one at ox ox'
 unfold EV.cells at cx cx'
 simp only at v1 v2 n1 n2 e1 e2 t1 t2 t3 t4 t5
 clear hts hts' hx0 hx0' hw hw'
 cases g1 with
 | true =>
  clear t1 t2 t3 t4 t5 e1 e2 hj hm
  repeat' first | (simp (disch := first | omega | assumption) only [go_sem, simprocAttr, *]) | refine aa0 (fun hb=>?_) fun hb=>?_ | refine aa1 (fun hb=>?_) fun hb=>?_
  all_goals (try simp only [FX] at *)
  all_goals first | omega | exact aa4 rfl rfl
 | false =>
 replace sz1 := sz1 rfl
 replace e1 := e1 (by omega)
 replace nz1 := nz1 (by omega)
 subst nz1
 cases g2 with
 | true =>
  clear t1 t2 t3 t4 t5 e1 e2 hj hm
  repeat' first | (simp (disch := first | omega | assumption) only [go_sem, simprocAttr, *]) | refine aa0 (fun hb=>?_) fun hb=>?_ | refine aa1 (fun hb=>?_) fun hb=>?_
  all_goals (try simp only [FX] at *)
  all_goals first | omega | exact aa4 rfl rfl
 | false =>
 replace sz2 := sz2 rfl
 replace e2 := e2 (by omega)
 replace nz2 := nz2 (by omega)
 subst nz2
 by_cases c3 : s0.length + s1.length > 40
 ·clear t1 t2 t3 t4 t5 e1 e2 hj hm
  repeat' first | (simp (disch := first | omega | assumption) only [go_sem, simprocAttr, *]) | refine aa0 (fun hb=>?_) fun hb=>?_ | refine aa1 (fun hb=>?_) fun hb=>?_
  all_goals (try simp only [FX] at *)
  all_goals first | omega | exact aa4 rfl rfl
 replace t1 := t1 (by omega)
 replace t2 := t2 (by omega)
 replace t3 := t3 (by omega)
 replace t4 := t4 (by omega)
 replace t5 := t5 (by omega)
 by_cases c4 : z1 + z2 > 250
 ·clear t1 t2 t3 t4 t5 e1 e2 hj hm
  repeat' first | (simp (disch := first | omega | assumption) only [go_sem, simprocAttr, *]) | refine aa0 (fun hb=>?_) fun hb=>?_ | refine aa1 (fun hb=>?_) fun hb=>?_
  all_goals (try simp only [FX] at *)
  all_goals first | omega | exact aa4 rfl rfl
 by_cases c5 : d1 > 28
 ·clear t1 t2 t3 t4 t5 hj hm
  repeat' first | (simp (disch := first | omega | assumption) only [go_sem, simprocAttr, *]) | refine aa0 (fun hb=>?_) fun hb=>?_ | refine aa1 (fun hb=>?_) fun hb=>?_
  all_goals (try simp only [FX] at *)
  all_goals first | omega | exact aa4 rfl rfl
 by_cases c6 : d2 > 28
 ·clear t1 t2 t3 t4 t5 hj hm
  repeat' first | (simp (disch := first | omega | assumption) only [go_sem, simprocAttr, *]) | refine aa0 (fun hb=>?_) fun hb=>?_ | refine aa1 (fun hb=>?_) fun hb=>?_
  all_goals (try simp only [FX] at *)
  all_goals first | omega | exact aa4 rfl rfl
 generalize hb1 : (m1 && p1) = b1 at t1
 generalize hb2 : (m2 && p2) = b2 at t2
 cases b1 with
 | false =>
  clear t2 t3 t4 t5 hj hm hb2
  repeat' first | (simp (disch := first | omega | assumption) only [go_sem, simprocAttr, *]) | refine aa0 (fun hb=>?_) fun hb=>?_ | refine aa1 (fun hb=>?_) fun hb=>?_
  all_goals (try simp only [FX] at *)
  all_goals first | omega | exact aa4 rfl rfl
 | true =>
 cases b2 with
 | false =>
  clear t3 t4 t5 hj hm hb1
  repeat' first | (simp (disch := first | omega | assumption) only [go_sem, simprocAttr, *]) | refine aa0 (fun hb=>?_) fun hb=>?_ | refine aa1 (fun hb=>?_) fun hb=>?_
  all_goals (try simp only [FX] at *)
  all_goals first | omega | exact aa4 rfl rfl
 | true =>
 rw [Bool.and_eq_true] at hb1 hb2
 obtain ⟨y3, y4⟩ := hm hb1.1 hb2.1 (by omega) (by omega) (by omega)
 obtain ⟨y5, y6, y7⟩ := hj hb1.2 hb2.2
 subst y3 y4 y5 y6 y7
 have t3' : ∀ H, _ = some (ER.ret (.bool true), H) := t3
 have t4' : ∀ H, _ = some (ER.ret (.bool true), H) := t4
 have t5' : ∀ H, _ = some (ER.ret (.bool true), H) := t5
 clear t3 t4 t5 hm hj hb1 hb2
 simp only [show ((0 : Nat) : Int) = 0 from rfl] at t3' t4' t5'
 repeat' first | (simp (disch := first | omega | assumption) only [go_sem, simprocAttr, *]) | refine aa0 (fun hb=>?_) fun hb=>?_ | refine aa1 (fun hb=>?_) fun hb=>?_
 all_goals (try simp only [FX] at *)
 all_goals first | omega | exact aa4 rfl rfl
end
end Abs
