/- A part. -/
import Derived.Test.YtdcjkdgjlljodaaAbs28
set_option linter.all false
namespace Abs
open Go
def ec1 : EOpd → Bool
 | .t _ => true
 | .c z => z.ok 0
 | .g _ => false
def ac1 (o : EOper) : Bool :=
 match o.op, o.guard, o.dst with
 | .box x, none, some _ => ec1 x
 | .bsl _ z _ ps true, none, some _ => z.ok 0 && ps.all fun p => ec1 p.2
 | _, _, _ => false
def newV (ρ : EOpd → EV) : EOp → Option ((Nat → EV) × EB)
 | .box x => if (ρ x).cells.all EV.one then some (fun n => .ptr n (ρ x).cells.length 0 0, .row (ρ x).cells.length [ρ x]) else none
 | .bsl sz z len parts true =>
  if parts.all (fun p => (ρ p.2).cells.length == sz && (ρ p.2).cells.all EV.one) then
   some (fun n => .own n sz 0 len, .row sz ((parts.map fun p => (p.1, ρ p.2)).foldl (fun es p => es.set p.1 p.2) (List.replicate len z)))
  else none
 | _ => none
def cv2 (o : EOper) : Bool :=
 match o.op, o.guard, o.dst with
 | .build _ _, none, some _ => true
 | _, _, _ => false
def isAl (o : EOper) : Bool := ac1 o || cv2 o
def bn4 (l : List EOper) : List EOper × List EOper × List EOper :=
 (l.takeWhile (fun o => !ac1 o), (l.dropWhile fun o => !ac1 o).takeWhile isAl, (l.dropWhile fun o => !ac1 o).dropWhile isAl)
theorem dl8 (l : List EOper) : (bn4 l).1 ++ ((bn4 l).2.1 ++ (bn4 l).2.2) = l := by
 simp [bn4, List.takeWhile_append_dropWhile]
def okNB (pre al post : List EOper) (deps pr : List (List Nat)) : Bool :=
 al.all isAl && decide (af2 al).Nodup && (af2 al).all (fun d => !(af2 pre).contains d) &&
 cp4 (pre ++ al.map az8) deps pr (List.replicate (pre.length + al.length) false) &&
 post.all (fun o => o.guard.isNone) &&
 ((List.range post.length).all fun i =>
   (deps.getD (pre.length + al.length + i) []).all (· < pre.length + al.length + i) &&
   (pr.getD (pre.length + al.length + i) []).all (fun j => (deps.getD (pre.length + al.length + i) []).any fun k => k == j || (pr.getD k []).contains j) &&
   (List.range (pre.length + al.length + i)).all fun j => (pr.getD (pre.length + al.length + i) []).contains j || (decide (j < pre.length) && bv3 (pre.getD j default) (post.getD i default))) &&
 ((List.range pre.length).all fun i => (List.range pre.length).all fun j => i == j || !isL (pre.length + al.length) post.length pr i || !isL (pre.length + al.length) post.length pr j || !ag8 (pre.getD i default) (pre.getD j default)) &&
 (List.range al.length).all fun i => (al.getD i default).reads.all fun t =>
  ((List.range pre.length).all fun j => !((pre.getD j default).dst == some t) || (pr.getD (pre.length + i) []).contains j) &&
  (List.range al.length).all fun j => !((al.getD j default).dst == some t) || (!ac1 (al.getD i default) && decide (j < i) && (pr.getD (pre.length + i) []).contains (pre.length + j))
def da0 (P : Program) (n : Nat) (own : List Nat) (ops : Array Oper) : Option (List (EOper × Bool) × List EOper) :=
 match ops.toList.mapM (ai5 P n own ops) with
 | some l =>
  if P.follows .mixedOrders && okNB (bn4 l).1 (bn4 l).2.1 (bn4 l).2.2 (ae0 ops) (ct7 (ae0 ops)) then some ((bn4 l).1.map fun o => (o, false), (bn4 l).2.1 ++ (bn4 l).2.2) else none
 | none => none
def rk (al : List EOper) (j : Nat) : Nat := (al.take j).countP ac1
theorem el0 {al : List EOper} {j : Nat} {o : EOper} (h : al[j]? = some o) : rk al (j + 1) = rk al j + if ac1 o then 1 else 0 := by
 unfold rk
 rw [List.take_add_one, h, List.countP_append]
 simp [List.countP_cons]
theorem el1 {al : List EOper} : ∀ {i j : Nat}, i ≤ j → rk al i ≤ rk al j := by
 intro i j h
 unfold rk
 have : al.take i = (al.take j).take i := by rw [List.take_take, Nat.min_eq_left h]
 rw [this]
 exact List.Sublist.countP_le (List.take_sublist i _)
theorem el2 {al : List EOper} {i j : Nat} {o : EOper} (h : al[i]? = some o) (hn : ac1 o = true) (hij : i < j) : rk al i < rk al j := by
 have h1 := el0 h
 rw [hn] at h1
 have := el1 (al := al) (show i + 1 ≤ j from hij)
 simp at h1
 omega
theorem ej0 {al : List EOper} {j : Nat} {o : EOper} (h : al[j]? = some o) (hn : ac1 o = true) : rk al j < al.countP ac1 := by
 have := el2 h hn (aa3 h)
 unfold rk at this ⊢
 rwa [List.take_of_length_le (Nat.le_refl _)] at this
theorem ch5 {o : EOper} {al : List EOper} {j : Nat} : rk (o :: al) (j + 1) = (if ac1 o then 1 else 0) + rk al j := by
 unfold rk
 rw [List.take_succ_cons, List.countP_cons]
 omega
theorem er2 {al : List EOper} {i j : Nat} {o o' : EOper} (hi : al[i]? = some o) (hj : al[j]? = some o') (h1 : ac1 o = true) (h2 : ac1 o' = true) (e : rk al i = rk al j) : i = j := by
 rcases Nat.lt_trichotomy i j with h | h | h
 ·have := el2 hi h1 h; omega
 ·exact h
 ·have := el2 hj h2 h; omega
theorem ct1 : ∀ (al : List EOper) (r : Nat), r < al.countP ac1 → ∃ (j : Nat) (o : EOper), al[j]? = some o ∧ ac1 o = true ∧ rk al j = r
 | [], r, h => by simp at h
 | o :: al, r, h => by
  rw [List.countP_cons] at h
  by_cases hn : ac1 o = true
  ·rw [if_pos hn] at h
   cases r with
   | zero => exact ⟨0, o, rfl, hn, rfl⟩
   | succ r =>
    obtain ⟨j, o', h1, h2, h3⟩ := ct1 al r (by omega)
    exact ⟨j + 1, o', by simpa using h1, h2, by rw [ch5, if_pos hn, h3]; omega⟩
  ·rw [if_neg hn] at h
   obtain ⟨j, o', h1, h2, h3⟩ := ct1 al r (by omega)
   exact ⟨j + 1, o', by simpa using h1, h2, by rw [ch5, if_neg hn, h3]; omega⟩
theorem bq7 {o : EOper} (h : cv2 o = true) : o.guard = none ∧ (∃ d, o.dst = some d) ∧ ∃ zs ps, o.op = .build zs ps := by
 obtain ⟨dst, op, g⟩ := o
 unfold cv2 at h
 simp only at h
 split at h
 ·exact ⟨rfl, ⟨_, rfl⟩, _, _, rfl⟩
 ·simp at h
theorem ce8 {o : EOper} (h : ac1 o = true) : o.guard = none ∧ ∃ d, o.dst = some d := by
 obtain ⟨dst, op, g⟩ := o
 unfold ac1 at h
 simp only at h
 split at h
 ·exact ⟨rfl, _, rfl⟩
 ·exact ⟨rfl, _, rfl⟩
 ·simp at h
theorem dq3 {o : EOper} (h : ac1 o = true) (ρ : EOpd → EV) (H : Heap) : evOp ρ H o.op = (newV ρ o.op).map fun p => (p.1 H.length, H ++ [some p.2]) := by
 obtain ⟨dst, op, g⟩ := o
 unfold ac1 at h
 simp only at h
 split at h
 ·simp only [evOp, newV]
  split <;> rfl
 ·simp only [evOp, newV, if_true]
  split <;> rfl
 ·simp at h
theorem df9 {o : EOper} (h : ac1 o = true) {γ : Nat → EV} {s s' : aa2} (hs : ∀ t ∈ o.reads, s t = s' t) : newV (ev γ s) o.op = newV (ev γ s') o.op := by
 have hx : ∀ x ∈ o.op.opds, ev γ s x = ev γ s' x := fun x hx => br6 fun t ht => hs t (List.mem_append_left _ (List.mem_filterMap.2 ⟨x, hx, ht⟩))
 obtain ⟨dst, op, g⟩ := o
 unfold ac1 at h
 simp only at h hx
 split at h
 ·rename_i y _
  have hy := hx y (by simp [EOp.opds])
  simp only [newV, hy]
 ·rename_i sz z len ps _
  simp only [EOp.opds, List.mem_map] at hx
  have e1 : (ps.map fun p => (p.1, ev γ s p.2)) = ps.map fun p => (p.1, ev γ s' p.2) := List.map_congr_left fun p hp => by rw [hx _ ⟨p, hp, rfl⟩]
  have e2 : (ps.all fun p => (ev γ s p.2).cells.length == sz && (ev γ s p.2).cells.all EV.one) = ps.all fun p => (ev γ s' p.2).cells.length == sz && (ev γ s' p.2).cells.all EV.one := by
   rw [Bool.eq_iff_iff, List.all_eq_true, List.all_eq_true]
   exact ⟨fun a p hp => by rw [← hx _ ⟨p, hp, rfl⟩]; exact a p hp, fun a p hp => by rw [hx _ ⟨p, hp, rfl⟩]; exact a p hp⟩
  simp only [newV, e1, e2]
 ·simp at h
theorem es4 : ∀ {n m : Nat} {v : EV}, n ≤ m → v.ok n = true → v.ok m = true := by
 intro n m v hnm
 suffices key : ∀ (k : Nat) (v : EV), sizeOf v ≤ k → v.ok n = true → v.ok m = true from key _ v (Nat.le_refl _)
 intro k
 induction k with
 | zero => intro v hk; cases v <;> simp at hk
 | succ k ih =>
  intro v hk h
  have hl : ∀ (l : List EV), sizeOf l ≤ k → okL n l = true → okL m l = true := fun l hs h =>
   ah6.2 fun x hx => ih x (by have := List.sizeOf_lt_of_mem hx; omega) (ah6.1 h x hx)
  cases v <;> simp only [EV.ok, Bool.and_eq_true, decide_eq_true_eq, EV.iface.sizeOf_spec, EV.agg.sizeOf_spec, EV.tup.sizeOf_spec, EV.imm.sizeOf_spec, EV.iptr.sizeOf_spec, EV.func.sizeOf_spec] at h hk ⊢ <;> first
   | omega
   | exact ih _ (by omega) h
   | exact hl _ (by omega) h
   | exact ⟨hl _ (by omega) h.1, hl _ (by omega) h.2⟩
theorem bu8 {es : List EV} : ∀ (ps : List (Nat × EV)) (es : List EV) (x : EV), x ∈ ps.foldl (fun es p => es.set p.1 p.2) es → x ∈ es ∨ ∃ p ∈ ps, x = p.2
 | [], es, x, h => .inl h
 | p :: ps, es, x, h => by
  rcases bu8 (es := es) ps _ x h with h | ⟨q, hq, e⟩
  ·rcases List.mem_or_eq_of_mem_set h with h | h
   ·exact .inl h
   ·exact .inr ⟨p, by simp, h⟩
  ·exact .inr ⟨q, by simp [hq], e⟩
theorem em8 {o : EOper} (h : ac1 o = true) {γ : Nat → EV} {s : aa2} {n : Nat} (hs : ∀ t, (s t).ok n = true) {mk : Nat → EV} {x : EB} (e : newV (ev γ s) o.op = some (mk, x)) : x.ok n = true := by
 have hx : ∀ y, ec1 y = true → (ev γ s y).ok n = true := fun y hy => by
  cases y with
  | t k => exact hs k
  | c z => exact es4 (Nat.zero_le _) hy
  | g k => simp [ec1] at hy
 obtain ⟨dst, op, g⟩ := o
 unfold ac1 at h
 simp only at h e
 split at h
 ·simp only [newV] at e
  split at e
  ·simp only [Option.some.injEq, Prod.mk.injEq] at e
   obtain ⟨_, rfl⟩ := e
   simp only [EB.ok, okL, hx _ h, Bool.and_self]
  ·simp at e
 ·rename_i sz z len ps _
  simp only [Bool.and_eq_true, List.all_eq_true] at h
  simp only [newV] at e
  split at e
  ·simp only [Option.some.injEq, Prod.mk.injEq] at e
   obtain ⟨_, rfl⟩ := e
   simp only [EB.ok]
   refine ah6.2 fun y hy => ?_
   rcases bu8 (es := []) _ _ y hy with hy | ⟨p, hp, rfl⟩
   ·rw [List.eq_of_mem_replicate hy]; exact es4 (Nat.zero_le _) h.1
   ·obtain ⟨q, hq, rfl⟩ := List.mem_map.1 hp
    exact hx _ (h.2 q hq)
  ·simp at e
 ·simp at h
section
variable {P : Program} {γ : Nat → EV} {n : Nat} {nb : NB} {φ φ0 φ' : Nat → Nat} {I I0 I' : Nat → Prop} {s : aa2} {H H0 H' : Heap} {a : Act} {w w0 w' : World}
structure BG (φ : Nat → Nat) (I : Nat → Prop) (H : Heap) (w0 w : World) (x : EB) (B : Nat) : Prop where
 new : w0.heap.size ≤ B
 imm : ¬ I B
 own : ¬ Own φ H B
 blk : RB φ H.length I w B x
 lt : B < w.heap.size
def VG (I : Nat → Prop) (w : World) (mk : Nat → EV) (B : Nat) (v : Value) : Prop := ∀ (φ : Nat → Nat) (N : Nat), φ N = B → RV φ (N + 1) I w (mk N) v
theorem BG.evo {x : EB} {B : Nat} (h : BG φ I H w0 w x B) (hr : RH γ φ I H w) (e : Evo φ I H w φ' I' H w') : BG φ' I' H w0 w' x B := by
 have hlt := h.lt
 refine ⟨h.new, fun hi => ?_, fun ho => ?_, h.blk.mono (Nat.le_refl _) e.phi e.imm (fun B' hB' => e.keep B' (hr.imm B' hB') fun ⟨b, y, hb, e'⟩ => hr.dis b y hb (e' ▸ hB'))
  (fun b _ _ _ hs => (e.shape (φ b) (au9 hs)).trans hs) (e.keep B hlt h.own), Nat.lt_of_lt_of_le hlt e.size⟩
 ·rcases e.immf B hi with h1 | h1 | h1
  ·exact h.imm h1
  ·exact h.own h1
  ·omega
 ·rcases e.own B ho with h1 | h1
  ·exact h.own h1
  ·omega
theorem VG.evo {mk : Nat → EV} {B : Nat} {v : Value} (h : VG I w mk B v) (hr : RH γ φ I H w) (e : Evo φ I H w φ' I' H' w') : VG I' w' mk B v := fun φ1 N h1 =>
 (h φ1 N h1).mono (Nat.le_refl _) (fun _ _ => rfl) e.imm (fun B' hB' => e.keep B' (hr.imm B' hB') fun ⟨b, y, hb, e'⟩ => hr.dis b y hb (e' ▸ hB')) (fun b _ _ _ hs => (e.shape _ (au9 hs)).trans hs)
theorem VG.of {o : EOper} (h : ac1 o = true) {ρ : EOpd → EV} {mk : Nat → EV} {x : EB} (e : newV ρ o.op = some (mk, x)) {N : Nat} {v : Value} (hv : RV φ (N + 1) I w (mk N) v) : VG I w mk (φ N) v := by
 obtain ⟨dst, op, g⟩ := o
 unfold ac1 at h
 simp only at h e
 split at h
 ·simp only [newV] at e
  split at e
  ·simp only [Option.some.injEq, Prod.mk.injEq] at e
   obtain ⟨rfl, _⟩ := e
   intro φ1 N1 h1
   simp only at hv ⊢
   cases hv
   rw [← h1]
   exact .ptr N1 _ 0 0 (Nat.lt_succ_self _)
  ·simp at e
 ·simp only [newV] at e
  split at e
  ·simp only [Option.some.injEq, Prod.mk.injEq] at e
   obtain ⟨rfl, _⟩ := e
   intro φ1 N1 h1
   simp only at hv ⊢
   cases hv with
   | own0 b sz off a hb => exact .own0 N1 _ 0 a (Nat.lt_succ_self _)
   | own b sz off len cap n T hb hsh hn hc =>
    rw [← h1]
    exact .own N1 _ 0 _ cap n T (Nat.lt_succ_self _) (by rw [h1]; exact hsh) hn hc
  ·simp at e
 ·simp at h
theorem ek2 {o : EOper} (ho : ac1 o = true) {Qp : EV → Heap → Prop} {ρ : EOpd → EV} {K : EV → Heap → Prop} (h : wop P γ Qp ρ H o.op K) : ∃ mk x, newV ρ o.op = some (mk, x) ∧ K (mk H.length) (H ++ [some x]) := by
 have hp : o.op.plain = true := by
  obtain ⟨dst, op, g⟩ := o
  unfold ac1 at ho
  simp only at ho
  split at ho
  ·rfl
  ·rfl
  ·simp at ho
 obtain ⟨v, H', h1, h2⟩ := bp3 hp h
 rw [dq3 ho] at h1
 simp only [Option.map_eq_some_iff, Prod.mk.injEq] at h1
 obtain ⟨⟨mk, x⟩, h3, rfl, rfl⟩ := h1
 exact ⟨mk, x, h3, h2⟩
theorem db9 {o : EOper} (h : isAl o = true) : o.guard = none ∧ ∃ d, o.dst = some d := by
 unfold isAl at h
 rw [Bool.or_eq_true] at h
 rcases h with h | h
 ·exact ce8 h
 ·exact ⟨(bq7 h).1, (bq7 h).2.1⟩
def CanA (γ : Nat → EV) (s : aa2) (n : Nat) (xs : List EB) (r : Nat) (o : EOper) (v : EV) : Prop :=
 (ac1 o = true ∧ ∃ mk x, newV (ev γ s) o.op = some (mk, x) ∧ xs[r]? = some x ∧ v = mk (n + r)) ∨ (ac1 o = false ∧ cv2 o = true ∧ ∀ H, evOp (ev γ s) H o.op = some (v, H))
theorem cr7 {Q : AX → aa2 → Heap → Prop} {post : List EOper} : ∀ (al : List EOper), al.all isAl = true → ∀ (s1 : aa2) (H1 : Heap), wops P γ Q (al ++ post) s1 H1 →
  ∃ (vals : Nat → EV) (xs : List EB), wops P γ Q post (stS vals (fun _ => true) 0 al s1) (H1 ++ xs.map some) ∧ xs.length = al.countP ac1 ∧
   ∀ (j : Nat) (o : EOper), al[j]? = some o → CanA γ (stS vals (fun k => decide (k < j)) 0 al s1) H1.length xs (rk al j) o (vals j)
 | [], _, s1, H1, h => ⟨fun _ => .undef, [], by simpa [stS] using h, rfl, by simp⟩
 | o :: al, hal, s1, H1, h => by
  simp only [List.all_cons, Bool.and_eq_true] at hal
  obtain ⟨hg, d, hd⟩ := db9 hal.1
  simp only [List.cons_append, wops, hg] at h
  have sh : ∀ (v : EV) (vals : Nat → EV) (j : Nat), stS (csV v vals) (fun k => decide (k < j + 1)) 0 (o :: al) s1 = stS vals (fun k => decide (k < j)) 0 al (putA s1 o.dst v) := fun v vals j => by
   simp only [stS]
   rw [if_pos (by simp), ay7]
   have : (fun k => decide (k + 1 < j + 1)) = fun k => decide (k < j) := by funext k; simp
   rw [this]
   rfl
  have sh0 : ∀ (v : EV) (vals : Nat → EV), stS (csV v vals) (fun k => decide (k < 0)) 0 (o :: al) s1 = s1 := fun v vals => ay4 fun k _ => by simp
  have shT : ∀ (v : EV) (vals : Nat → EV), stS (csV v vals) (fun _ => true) 0 (o :: al) s1 = stS vals (fun _ => true) 0 al (putA s1 o.dst v) := fun v vals => by
   simp only [stS, if_true]
   rw [ay7]
   rfl
  by_cases hn : ac1 o = true
  ·obtain ⟨mk, x, hx, h⟩ := ek2 hn h
   obtain ⟨vals, xs, k1, k2, k3⟩ := cr7 al hal.2 _ _ h
   refine ⟨csV (mk H1.length) vals, x :: xs, ?_, ?_, fun j o' hj => ?_⟩
   ·rw [shT]
    simpa using k1
   ·rw [List.countP_cons, if_pos hn, List.length_cons, k2]
   ·cases j with
    | zero =>
     simp only [List.getElem?_cons_zero, Option.some.injEq] at hj
     subst hj
     rw [sh0]
     exact .inl ⟨hn, mk, x, hx, by simp [rk], rfl⟩
    | succ j =>
     rw [sh, ch5, if_pos hn]
     have := k3 j o' (by simpa using hj)
     rcases this with ⟨g1, mk', x', g2, g3, g4⟩ | g
     ·refine .inl ⟨g1, mk', x', g2, by rw [Nat.add_comm]; simpa using g3, ?_⟩
      show vals j = _
      rw [g4]
      simp only [List.length_append, List.length_cons, List.length_nil]
      congr 1
      omega
     ·exact .inr g
  ·have hm : cv2 o = true := by
    have := hal.1
    unfold isAl at this
    simpa [hn] using this
   obtain ⟨_, _, zs, ps, hop⟩ := bq7 hm
   obtain ⟨v, H2, h1, h2⟩ := bp3 (by rw [hop]; rfl) h
   have hH : ∀ H, evOp (ev γ s1) H o.op = some (v, H) ∧ H2 = H1 := by
    intro H
    rw [hop] at h1 ⊢
    simp only [evOp] at h1 ⊢
    split at h1
    ·rename_i hc
     rw [if_pos hc]
     split at h1
     ·rename_i cs hcs
      simp only [Option.some.injEq, Prod.mk.injEq] at h1
      obtain ⟨rfl, rfl⟩ := h1
      exact ⟨rfl, rfl⟩
     ·simp at h1
    ·simp at h1
   obtain rfl := (hH H1).2
   obtain ⟨vals, xs, k1, k2, k3⟩ := cr7 al hal.2 _ _ h2
   refine ⟨csV v vals, xs, by rw [shT]; exact k1, by rw [List.countP_cons, if_neg hn, k2]; rfl, fun j o' hj => ?_⟩
   cases j with
   | zero =>
    simp only [List.getElem?_cons_zero, Option.some.injEq] at hj
    subst hj
    rw [sh0]
    exact .inr ⟨by simpa using hn, hm, fun H => (hH H).1⟩
   | succ j =>
    rw [sh, ch5, if_neg hn, Nat.zero_add]
    exact k3 j o' (by simpa using hj)
theorem ct2 {P : Program} {own : Bool} {op : Op} {zs : List EV} {ps : List (Nat × Nat × EOpd)} (h : ac7 P own op = some (.build zs ps)) : ∃ t parts, op = .build t parts := by
 unfold ac7 at h
 split at h
 all_goals first
  | exact ⟨_, _, rfl⟩
  | (simp [Option.bind_eq_some_iff] at h; done)
  | skip
 all_goals (try simp only [Option.pure_def, Option.bind_eq_bind, Option.bind_eq_some_iff] at h)
 all_goals (repeat' (first | (obtain ⟨_, _, h⟩ := h) | split at h))
 all_goals first
  | (simp at h; done)
  | (simp [Option.bind_eq_some_iff, cm3, bu4, ce0] at h; done)
  | ((unfold cm3 bu4 at h; repeat' split at h) <;> simp at h; done)
  | (unfold ce0 at h; repeat' split at h)
 all_goals (simp at h)
theorem dx3 (hR : Rel γ n nb φ I s H a w) {o : Oper} {own : Bool} {zs : List EV} {ps : List (Nat × Nat × EOpd)} (hres : ac7 P own o.op = some (.build zs ps)) {v : EV} (hev : evOp (ev γ s) H (.build zs ps) = some (v, H)) :
  ∃ val, (execOp a.eval o).run P w = .ok (.value val) w ∧ RV φ H.length I w v val := by
 have hr := hR.heap
 obtain ⟨t, parts, hop⟩ := ct2 hres
 obtain ⟨dst, op, type, pos, after, guard⟩ := o
 simp only at hres hop
 subst hop
 simp only [ac7] at hres
 have zs_of : ∀ zs, aq3 P t = some (.agg zs) → ∃ i v, P.info? t = some i ∧ i.zero = some v ∧ RCs φ H.length I w zs v.cells.toList := by
  intro zs hz
  obtain ⟨i, v, hi, hv, hc⟩ := bf0 hz
  have := an6 (φ := φ) (N := H.length) (I := I) (w := w) hc
  cases this with
  | agg _ vs hl h => exact ⟨i, _, hi, hv, by simpa [Value.cells] using hl, fun k x u hx hu => h k x u hx (by simpa [Value.cells] using hu)⟩
 split at hres
 ·rename_i zs fs hz hu
  obtain ⟨i, vz, hi, hvz, hrc⟩ := zs_of zs hz
  simp only [Option.bind_eq_bind, Option.bind_eq_some_iff, Option.some.injEq, EOp.build.injEq] at hres
  obtain ⟨places, hplaces, ps, hps, rfl, rfl⟩ := hres
  obtain ⟨m1, m2⟩ := ao1 hps
  simp only [evOp] at hev
  split at hev
  case isFalse => simp at hev
  rename_i hones
  split at hev
  case h_2 => simp at hev
  rename_i cs hcs
  simp only [Option.some.injEq, Prod.mk.injEq, and_true] at hev
  subst hev
  obtain ⟨c', f1, f2⟩ := bh5 (place := fun x => places[x]?) (ps.map fun p => (p.1, p.2.1, ev γ s p.2.2)) (parts.map fun (i, x) => (i, a.eval x)).toList zs cs vz.cells hrc hcs (by simp [m1]) (by
   intro k p q hp hq
   simp only [List.getElem?_map, Option.map_eq_some_iff, Array.toList_map] at hp hq
   obtain ⟨p', hp', rfl⟩ := hp
   obtain ⟨q', hq', rfl⟩ := hq
   have := m2 k q' p' hq' hp'
   simp only [Option.bind_eq_some_iff, Option.some.injEq] at this
   obtain ⟨f, hf, j, hj, x, hx, rfl⟩ := this
   refine ⟨?_, ab5 hR hx, List.all_eq_true.1 hones _ (List.mem_of_getElem? hp')⟩
   obtain ⟨p1, p2⟩ := ao1 hplaces
   have hfl : q'.1 < places.length := by
    rw [p1]
    have := (Array.getElem?_eq_some_iff.1 hf).1
    simpa using this
   have := p2 q'.1 f places[q'.1] (by simpa using hf) (by simp [hfl])
   rw [hj] at this
   simp only [Option.map_some, Option.some.injEq] at this
   simp [hfl, ← this])
  have hb : P.built t (parts.map fun (i, x) => (i, a.eval x)).toList = some c' := by
   unfold Program.built
   rw [hi, hu]
   simp only [hvz, hplaces]
   simpa using f1
  refine ⟨.agg c', ?_, .agg cs c' (by simpa using f2.1) fun k x u hx hu => f2.2 k x u hx (by simpa using hu)⟩
  simp only [execOp, Sem.run_bind, run_build w t _ c' hb, Result.andThen_ok]; rfl
 ·rename_i zs len et hz hu
  obtain ⟨i, vz, hi, hvz, hrc⟩ := zs_of zs hz
  simp only [Option.bind_eq_bind, Option.bind_eq_some_iff, Option.some.injEq, EOp.build.injEq] at hres
  obtain ⟨j, hj, ps, hps, rfl, rfl⟩ := hres
  obtain ⟨m1, m2⟩ := ao1 hps
  simp only [evOp] at hev
  split at hev
  case isFalse => simp at hev
  rename_i hones
  split at hev
  case h_2 => simp at hev
  rename_i cs hcs
  simp only [Option.some.injEq, Prod.mk.injEq, and_true] at hev
  subst hev
  obtain ⟨c', f1, f2⟩ := bh5 (place := fun i => some (i * j.size, j.size)) (ps.map fun p => (p.1, p.2.1, ev γ s p.2.2)) (parts.map fun (i, x) => (i, a.eval x)).toList zs cs vz.cells hrc hcs (by simp [m1]) (by
   intro k p q hp hq
   simp only [List.getElem?_map, Option.map_eq_some_iff, Array.toList_map] at hp hq
   obtain ⟨p', hp', rfl⟩ := hp
   obtain ⟨q', hq', rfl⟩ := hq
   have := m2 k q' p' hq' hp'
   simp only [Option.bind_eq_some_iff, Option.some.injEq] at this
   obtain ⟨x, hx, rfl⟩ := this
   exact ⟨rfl, ab5 hR hx, List.all_eq_true.1 hones _ (List.mem_of_getElem? hp')⟩)
  have hb : P.built t (parts.map fun (i, x) => (i, a.eval x)).toList = some c' := by
   unfold Program.built
   rw [hi, hu]
   simp only [hvz, hj]
   exact f1
  refine ⟨.agg c', ?_, .agg cs c' (by simpa using f2.1) fun k x u hx hu => f2.2 k x u hx (by simpa using hu)⟩
  simp only [execOp, Sem.run_bind, run_build w t _ c' hb, Result.andThen_ok]; rfl
 ·simp at hres
def VM (φ : Nat → Nat) (I : Nat → Prop) (L : Nat) (w : World) (al : List EOper) (k : Nat) (S : Nat → Bool) (β : Nat → Nat) (x : EV) (v : Value) : Prop :=
 ∀ φ1 : Nat → Nat, (∀ i, i < L → φ1 i = φ i) → (∀ (j : Nat) (o : EOper), al[j]? = some o → ac1 o = true → S (k + j) = true → φ1 (L + rk al j) = β (rk al j)) → RV φ1 (L + al.countP ac1) I w x v
theorem VM.evo {k : Nat} {al : List EOper} {S S' : Nat → Bool} {β β' : Nat → Nat} {x : EV} {v : Value} (h : VM φ I H.length w al k S β x v) (hr : RH γ φ I H w) (e : Evo φ I H w φ' I' H' w')
  (hS : ∀ (j : Nat) (o : EOper), al[j]? = some o → ac1 o = true → S (k + j) = true → S' (k + j) = true ∧ β' (rk al j) = β (rk al j)) : VM φ' I' H.length w' al k S' β' x v := by
 intro φ1 h1 h2
 refine (h φ1 (fun i hi => (h1 i hi).trans (e.phi i hi)) fun j o hj hn hs => ?_).mono (Nat.le_refl _) (fun _ _ => rfl) e.imm (fun B' hB' => e.keep B' (hr.imm B' hB') fun ⟨b, y, hb, e'⟩ => hr.dis b y hb (e' ▸ hB')) (fun b _ _ _ hs => (e.shape _ (au9 hs)).trans hs)
 obtain ⟨q1, q2⟩ := hS j o hj hn hs
 rw [h2 j o hj hn q1, q2]
def P2 (γ : Nat → EV) (n : Nat) (nb : NB) (φ : Nat → Nat) (I : Nat → Prop) (H : Heap) (w : World) (vals : Nat → EV) (xs : List EB) (σ : aa2) (al : List EOper) (k : Nat) (S : Nat → Bool) (a' : Act) (w' : World) : Prop :=
 ∃ (φ' : Nat → Nat) (I' : Nat → Prop) (β : Nat → Nat), Evo φ I H w φ' I' H w' ∧ Rel γ n nb φ' I' σ H a' w' ∧
  (∀ (j : Nat) (o : EOper) (x : EB), al[j]? = some o → ac1 o = true → xs[rk al j]? = some x → S (k + j) = true → BG φ' I' H w w' x (β (rk al j))) ∧
  (∀ (i j : Nat) (o o' : EOper), al[i]? = some o → al[j]? = some o' → ac1 o = true → ac1 o' = true → S (k + i) = true → S (k + j) = true → β (rk al i) = β (rk al j) → i = j) ∧
  ∀ (j : Nat) (o : EOper) (d : Nat), al[j]? = some o → o.dst = some d → S (k + j) = true → VM φ' I' H.length w' al k S β (vals j) (a'.tmps.getD d Go.undef)
theorem dl3 {Q : AX → aa2 → Heap → Prop} {own : List Nat} {ops : Array Oper} {pre al : List EOper} {vals : Nat → EV} {xs : List EB} {σ σ' : aa2} {S : Nat → Bool} {i : Nat} {o : Oper} {eo : EOper} {v : EV} (hd : ∀ d ∈ af2 al, d ∉ af2 pre)
  (hi : ops[i]? = some o) (hpi : pre[i]? = some eo) (heo : ai5 P n own ops o = some eo) (h : P2 γ n nb φ I H w vals xs σ al pre.length S a w') (hr : Runs P γ σ H eo v H) (hσ : putA σ eo.dst v = σ') :
  wpOp P ops (Post γ n nb φ I H w Q) i (P2 γ n nb φ I H w vals xs σ' al pre.length fun j => S j || j == i) a w' := by
 obtain ⟨φ', I', β, h1, h2, h3, h4, h5⟩ := h
 have hS : ∀ j, (S (pre.length + j) || pre.length + j == i) = S (pre.length + j) := fun j => by
  have := aa3 hpi
  have : (pre.length + j == i) = false := by simp; omega
  rw [this, Bool.or_false]
 refine bi4 hi heo h1 h2 hr fun φ2 I2 a2 w2 val e1 e2 e3 => ⟨φ2, I2, β, h1.trans e1, hσ ▸ e2, fun j o x hj hn hx hs => ?_, fun i' j o o' hi' hj n1 n2 s1 s2 => ?_, fun j o d hj hod hs => ?_⟩
 ·replace hs := (hS j).symm.trans hs
  exact (h3 j o x hj hn hx hs).evo h2.heap e1
 ·exact h4 i' j o o' hi' hj n1 n2 ((hS i').symm.trans s1) ((hS j).symm.trans s2)
 ·replace hs := (hS j).symm.trans hs
  have c1 := h5 j o d hj hod hs
  rw [e3, by3]
  ·exact c1.evo h2.heap e1 fun j' o' hj' hn' hs' => ⟨(hS j').trans hs', rfl⟩
  intro e
  exact hd d (aq0 hj hod) (aq0 hpi e)
theorem dl5 {Q : AX → aa2 → Heap → Prop} {own : List Nat} {ops : Array Oper} {al : List EOper} {k j0 : Nat} {vals : Nat → EV} {xs : List EB} {sj σ σ' : aa2} {S : Nat → Bool} {o : Oper} {o0 : EOper} {d0 : Nat} (hal : al.all isAl = true) (hnd : (af2 al).Nodup)
  (hlen : xs.length = al.countP ac1) (hS0 : S (k + j0) = false) (hcan : CanA γ sj H.length xs (rk al j0) o0 (vals j0)) (hnw : ac1 o0 = true) (hd0' : o0.dst = some d0) (hag : ∀ t ∈ o0.reads, σ t = sj t)
  (hi : ops[k + j0]? = some o) (hj0 : al[j0]? = some o0) (heo : ai5 P n own ops o = some o0) (h : P2 γ n nb φ I H w vals xs σ al k S a w')
  (hσ : putA σ (some d0) .undef = σ') :
  wpOp P ops (Post γ n nb φ I H w Q) (k + j0) (P2 γ n nb φ I H w vals xs σ' al k fun j => S j || j == k + j0) a w' := by
 obtain ⟨φ', I', β, h1, h2, h3, h4, h5⟩ := h
 obtain ⟨mk0, x0, hx0, hxs, hv0⟩ : ∃ mk x, newV (ev γ sj) o0.op = some (mk, x) ∧ xs[rk al j0]? = some x ∧ vals j0 = mk (H.length + rk al j0) := by
  rcases hcan with ⟨_, h⟩ | ⟨h, _⟩
  ·exact h
  ·rw [hnw] at h; simp at h
 obtain ⟨⟨b, hres⟩, hdst, hd, hg⟩ := ah7 heo
 have hgn : o.guard = none := by
  cases ho : o.guard with
  | none => rfl
  | some p =>
   obtain ⟨j, bb⟩ := p
   rw [ho] at hg
   obtain ⟨d, _, _, hg⟩ := hg
   rw [(ce8 hnw).1] at hg
   simp at hg
 have hod : o.dst = some d0 := by rw [← hdst]; exact hd0'
 have hd0 : d0 < n := hd d0 hod
 have hxσ : newV (ev γ σ) o0.op = some (mk0, x0) := by rw [df9 hnw hag]; exact hx0
 have hwop : wop P γ (fun v H' => Q (.panic v) σ H') (ev γ σ) H o0.op fun v H' => v = mk0 H.length ∧ H' = H ++ [some x0] :=
  cj8 (bt8 (by
   obtain ⟨dst, op, g⟩ := o0
   unfold ac1 at hnw
   simp only at hnw
   split at hnw
   ·rfl
   ·rfl
   ·simp at hnw) (by rw [dq3 hnw, hxσ]; rfl))
 have hb0 : (H ++ [some x0])[H.length]? = some (some x0) := by simp
 have htk : (H ++ [some x0]).take H.length = H := by simp
 have hbH : ∀ (b : Nat) (x : EB), H[b]? = some (some x) → (H ++ [some x0])[b]? = some (some x) := fun b x hb => by rw [List.getElem?_append_left (aa3 hb)]; exact hb
 unfold wpOp
 rw [hi]
 simp only
 rw [if_pos (by simp [Region.wanted, hgn])]
 refine .inl (bl2 (fun e a' w' hp => Post.trans h1 hp) (Oper.wp_mono (fun a2 w2 hh => ?_) (bm4 (Q := Q) h2 hres hd hwop)))
 obtain ⟨φ2, I2, H1, v, e1, e2, ⟨rfl, rfl⟩, val, e5, e6⟩ := hh
 have hnew : w'.heap.size ≤ φ2 H.length := by
  rcases e1.own _ ⟨_, _, hb0, rfl⟩ with ⟨b, x, hb, e⟩ | h
  ·have hlt := aa3 hb
   have := e2.heap.inj b _ x _ (hbH b x hb) hb0 (by rw [e1.phi b hlt]; exact e)
   omega
  ·exact h
 have hno : ¬ Own φ2 H (φ2 H.length) := by
  rintro ⟨b, x, hb, e⟩
  have hlt := aa3 hb
  have := e2.heap.inj b _ x _ (hbH b x hb) hb0 e
  omega
 have e1' : Evo φ' I' H w' φ2 I2 H w2 := by
  have := e1.take (L := H.length) (Nat.le_refl _)
  rwa [htk] at this
 have hok := h2.heap.isOk
 have e2' : Rel γ n nb φ2 I2 σ' H a2 w2 := by
  have := e2.forget (L := H.length) (s' := σ') ⟨fun t => ?_, fun b x hb hx => ?_⟩
  ·rwa [htk] at this
  ·subst hσ
   rw [hod]
   simp only [putA, upd]
   by_cases ht : t = d0
   ·rw [if_pos ht]; exact .inl rfl
   ·rw [if_neg ht, if_neg ht]; exact .inr ⟨rfl, (h2.slots t).isOk⟩
  ·rw [List.getElem?_append_left hb] at hx
   exact hok b x hx
 have hvg : VG I2 w2 mk0 (φ2 H.length) val := VG.of hnw hxσ (by rw [List.length_append] at e6; exact e6)
 have hxok : x0.ok H.length = true := em8 hnw (fun t => (h2.slots t).isOk) hxσ
 have hbf : BG φ2 I2 H w w2 x0 (φ2 H.length) :=
  ⟨Nat.le_trans h1.size hnew, e2.heap.dis _ _ hb0, hno, (e2.heap.blk _ _ hb0).trunc hxok, e2.heap.lt _ _ hb0⟩
 have hS : ∀ j, j ≠ j0 → (S (k + j) || k + j == k + j0) = S (k + j) := fun j hj => by
  have : (k + j == k + j0) = false := by simp; omega
  rw [this, Bool.or_false]
 obtain ⟨β', hβ0, hβ⟩ : ∃ β' : Nat → Nat, β' (rk al j0) = φ2 H.length ∧ ∀ r, r ≠ rk al j0 → β' r = β r := ⟨fun j => if j = rk al j0 then φ2 H.length else β j, by simp, fun j h => if_neg h⟩
 have hβj : ∀ (j : Nat) (o' : EOper), al[j]? = some o' → ac1 o' = true → j ≠ j0 → β' (rk al j) = β (rk al j) := fun j o' hj hn hne => hβ _ fun e => hne (er2 hj hj0 hn hnw e)
 have hlt : ∀ (j : Nat) (o' : EOper), al[j]? = some o' → ac1 o' = true → j ≠ j0 → (S (k + j) || k + j == k + j0) = true → φ2 H.length ≠ β (rk al j) := fun j o' hj hn hjj hs e => by
  rw [hS j hjj] at hs
  obtain ⟨x, hx⟩ : ∃ x, xs[rk al j]? = some x := ⟨_, List.getElem?_eq_getElem (by rw [hlen]; exact ej0 hj hn)⟩
  have := (h3 j o' x hj hn hx hs).lt
  omega
 refine ⟨φ2, I2, β', h1.trans e1', e2', fun j o' x hj hn hx hs => ?_, fun i j o' o'' hi' hj' n1 n2 s1 s2 e => ?_, fun j o' d hj hod' hs => ?_⟩
 ·by_cases hjj : j = j0
  ·subst hjj
   rw [hxs] at hx
   obtain rfl := Option.some.inj hx
   rw [hβ0]
   exact hbf
  ·rw [hβj j o' hj hn hjj]
   replace hs := (hS j hjj).symm.trans hs
   exact (h3 j o' x hj hn hx hs).evo h2.heap e1'
 ·by_cases hi0 : i = j0 <;> by_cases hj0' : j = j0
  ·omega
  ·rw [hi0, hβ0, hβj j o'' hj' n2 hj0'] at e
   exact absurd e (hlt j o'' hj' n2 hj0' s2)
  ·rw [hj0', hβ0, hβj i o' hi' n1 hi0] at e
   exact absurd e.symm (hlt i o' hi' n1 hi0 s1)
  ·rw [hβj i o' hi' n1 hi0, hβj j o'' hj' n2 hj0'] at e
   exact h4 i j o' o'' hi' hj' n1 n2 ((hS i hi0).symm.trans s1) ((hS j hj0').symm.trans s2) e
 ·by_cases hjj : j = j0
  ·subst hjj
   rw [hj0] at hj
   obtain rfl := Option.some.inj hj
   rw [hd0'] at hod'
   obtain rfl := Option.some.inj hod'
   rw [e5, hod]
   have : ((a.put (some d0) val).tmps.getD d0 Go.undef) = val := by simp [Act.put, h2.sz, hd0]
   rw [this, hv0]
   intro φ1 g1 g2
   have := hvg φ1 (H.length + rk al j) (by rw [g2 j o0 hj0 hnw (by simp), hβ0])
   exact this.grow (by have := ej0 hj0 hnw; omega)
  ·replace hs := (hS j hjj).symm.trans hs
   have c1 := h5 j o' d hj hod' hs
   rw [e5, by3]
   ·refine c1.evo h2.heap e1' fun j' o'' hj' hn' hs' => ?_
    refine ⟨by rw [hs']; rfl, ?_⟩
    by_cases hjj' : j' = j0
    ·subst hjj'
     rw [hS0] at hs'; simp at hs'
    ·exact hβj j' o'' hj' hn' hjj'
   intro e
   rw [hod] at e
   simp only [Option.some.injEq] at e
   subst e
   exact hjj (bj1 hnd hj hj0 hod' hd0')
theorem ea4 {Q : AX → aa2 → Heap → Prop} {own : List Nat} {ops : Array Oper} {al : List EOper} {k j0 : Nat} {vals : Nat → EV} {xs : List EB} {sj σ σ' : aa2} {S : Nat → Bool} {o : Oper} {o0 : EOper} {d0 : Nat} (hnd : (af2 al).Nodup)
  (hcan : CanA γ sj H.length xs (rk al j0) o0 (vals j0)) (hnw : ac1 o0 = false) (hmid : cv2 o0 = true) (hd0' : o0.dst = some d0)
  (hag : ∀ t ∈ o0.reads, σ t = sj t ∨ ∃ (j : Nat) (o : EOper), al[j]? = some o ∧ o.dst = some t ∧ S (k + j) = true ∧ sj t = vals j)
  (hi : ops[k + j0]? = some o) (hj0 : al[j0]? = some o0) (heo : ai5 P n own ops o = some o0) (h : P2 γ n nb φ I H w vals xs σ al k S a w')
  (hσ : putA σ (some d0) .undef = σ') :
  wpOp P ops (Post γ n nb φ I H w Q) (k + j0) (P2 γ n nb φ I H w vals xs σ' al k fun j => S j || j == k + j0) a w' := by
 obtain ⟨φ', I', β, h1, h2, h3, h4, h5⟩ := h
 obtain ⟨hgn0, _, zs, ps, hop⟩ := bq7 hmid
 have hev : ∀ H, evOp (ev γ sj) H (.build zs ps) = some (vals j0, H) := by
  rcases hcan with ⟨h, _⟩ | ⟨_, _, h⟩
  ·rw [hnw] at h; simp at h
  ·rw [← hop]; exact h
 obtain ⟨⟨b, hres⟩, hdst, hd, hg⟩ := ah7 heo
 rw [hop] at hres
 have hgn : o.guard = none := by
  cases ho : o.guard with
  | none => rfl
  | some p =>
   obtain ⟨j, bb⟩ := p
   rw [ho] at hg
   obtain ⟨d, _, _, hg⟩ := hg
   rw [hgn0] at hg
   simp at hg
 have hod : o.dst = some d0 := by rw [← hdst]; exact hd0'
 have hd0 : d0 < n := hd d0 hod
 -- whatever the new blocks are called
 have run : ∀ φ1 : Nat → Nat, (∀ i, i < H.length → φ1 i = φ' i) → (∀ (j : Nat) (o : EOper), al[j]? = some o → ac1 o = true → S (k + j) = true → φ1 (H.length + rk al j) = β (rk al j)) →
   ∃ val, (execOp a.eval o).run P w' = .ok (.value val) w' ∧ RV φ1 (H.length + al.countP ac1) I' w' (vals j0) val := by
  intro φ1 g1 g2
  let s2 : aa2 := fun t => if t ∈ o0.reads then sj t else .undef
  let H2 : Heap := List.replicate (H.length + al.countP ac1) none
  have hH2 : H2.length = H.length + al.countP ac1 := by simp [H2]
  have hno : ∀ (b : Nat) (x : EB), H2[b]? ≠ some (some x) := fun b x e => by
   simp only [H2, List.getElem?_replicate] at e
   split at e <;> simp at e
  have hr := h2.heap
  have hR2 : Rel γ n nb φ1 I' s2 H2 a w' := by
   refine ⟨h2.sz, fun t => ?_, ⟨fun g => (hr.glob g).mono (Nat.le_refl 0) (fun i hi => absurd hi (Nat.not_lt_zero i)) (fun _ h => h) (fun _ _ => rfl) (fun b hb => absurd hb (Nat.not_lt_zero b)), fun b x hb => absurd hb (hno b x), fun b _ x _ hb => absurd hb (hno b x), hr.imm, fun b x hb => absurd hb (hno b x), fun b x hb => absurd hb (hno b x)⟩, ?_⟩
   ·rw [hH2]
    show RV φ1 _ I' w' (if t ∈ o0.reads then sj t else .undef) _
    split
    ·rename_i ht
     rcases hag t ht with e | ⟨j, o', q1, q2, q3, q4⟩
     ·rw [← e]
      exact (h2.slots t).mono (Nat.le_add_right _ _) g1 (fun _ h => h) (fun _ _ => rfl) (fun _ _ _ _ h => h)
     ·rw [q4]
      exact h5 j o' t q1 q2 q3 φ1 g1 g2
    ·exact .undef _
   ·obtain ⟨h0, Ds, k1, k2, k3⟩ := h2.defers
    exact ⟨h0, Ds, k1, k2, fun D hD => ⟨(k3 D hD).1, (k3 D hD).2.1, fun ⟨b, x, hb, _⟩ => hno b x hb, (k3 D hD).2.2.2⟩⟩
  have hev2 : evOp (ev γ s2) H2 (.build zs ps) = some (vals j0, H2) := by
   rw [← hev H2]
   refine bt6 fun x hx => br6 fun t ht => ?_
   have : t ∈ o0.reads := List.mem_append_left _ (List.mem_filterMap.2 ⟨x, by rw [hop]; exact hx, ht⟩)
   show (if t ∈ o0.reads then sj t else .undef) = sj t
   rw [if_pos this]
  obtain ⟨val, q1, q2⟩ := dx3 hR2 hres hev2
  rw [hH2] at q2
  exact ⟨val, q1, q2⟩
 obtain ⟨val, q1, _⟩ := run (fun i => if i < H.length then φ' i else β (i - H.length)) (fun i hi => if_pos hi) (fun j o hj hn _ => by
  rw [if_neg (by omega)]
  congr 1
  omega)
 have hS : ∀ j, j ≠ j0 → (S (k + j) || k + j == k + j0) = S (k + j) := fun j hj => by
  have : (k + j == k + j0) = false := by simp; omega
  rw [this, Bool.or_false]
 have hnew : ∀ (j : Nat) (o' : EOper), al[j]? = some o' → ac1 o' = true → j ≠ j0 := fun j o' hj hn e => by
  subst e
  rw [hj0] at hj
  obtain rfl := Option.some.inj hj
  rw [hnw] at hn; simp at hn
 unfold wpOp
 rw [hi]
 simp only
 rw [if_pos (by simp [Region.wanted, hgn])]
 refine .inl ?_
 unfold Oper.wp
 rw [q1, Oper.upon_value]
 refine ⟨φ', I', β, h1, ?_, fun j o' x hj hn hx hs => h3 j o' x hj hn hx ((hS j (hnew j o' hj hn)).symm.trans hs), fun i j o' o'' hi' hj' n1 n2 s1 s2 e => h4 i j o' o'' hi' hj' n1 n2 ((hS i (hnew i o' hi' n1)).symm.trans s1) ((hS j (hnew j o'' hj' n2)).symm.trans s2) e, fun j o' d hj hod' hs => ?_⟩
 ·rw [← hσ, hod]
  exact h2.put (.refl ..) h2.heap (fun d hd' => by obtain rfl := Option.some.inj hd'; exact hd0) (.undef _)
 ·have hdone : ∀ (φ1 : Nat → Nat), (∀ (j : Nat) (o : EOper), al[j]? = some o → ac1 o = true → (S (k + j) || k + j == k + j0) = true → φ1 (H.length + rk al j) = β (rk al j)) →
    ∀ (j : Nat) (o : EOper), al[j]? = some o → ac1 o = true → S (k + j) = true → φ1 (H.length + rk al j) = β (rk al j) := fun φ1 g j o hj hn hs => g j o hj hn (by rw [hs]; rfl)
  by_cases hjj : j = j0
  ·subst hjj
   rw [hj0] at hj
   obtain rfl := Option.some.inj hj
   rw [hd0'] at hod'
   obtain rfl := Option.some.inj hod'
   rw [hod]
   have : ((a.put (some d0) val).tmps.getD d0 Go.undef) = val := by simp [Act.put, h2.sz, hd0]
   rw [this]
   intro φ1 g1 g2
   obtain ⟨val1, r1, r2⟩ := run φ1 g1 (hdone φ1 g2)
   rw [q1] at r1
   simp only [Result.ok.injEq, Next.value.injEq, and_true] at r1
   rw [r1]
   exact r2
  ·replace hs := (hS j hjj).symm.trans hs
   have c1 := h5 j o' d hj hod' hs
   rw [by3]
   ·exact fun φ1 g1 g2 => c1 φ1 g1 (hdone φ1 g2)
   intro e
   rw [hod] at e
   simp only [Option.some.injEq] at e
   subst e
   exact hjj (bj1 hnd hj hj0 hod' hd0')
theorem convM {al : List EOper} {k : Nat} {vals : Nat → EV} {xs : List EB} {σ : aa2} {S : Nat → Bool} (hnd : (af2 al).Nodup) (hal : al.all isAl = true) (hlen : xs.length = al.countP ac1) (hS : ∀ j, j < al.length → S (k + j) = true)
  (h : P2 γ n nb φ I H w vals xs σ al k S a w') : ∃ φ3 I', Evo φ I H w φ3 I' (H ++ xs.map some) w' ∧ Rel γ n nb φ3 I' (stS vals (fun _ => true) 0 al σ) (H ++ xs.map some) a w' := by
 obtain ⟨φ', I', β, h1, h2, h3, h4, h5⟩ := h
 have hr := h2.heap
 obtain ⟨φ3, hφ, hβ⟩ : ∃ φ3 : Nat → Nat, (∀ i, i < H.length → φ3 i = φ' i) ∧ ∀ r, φ3 (H.length + r) = β r :=
  ⟨fun i => if i < H.length then φ' i else β (i - H.length), fun i hi => if_pos hi, fun r => by
   simp only
   rw [if_neg (by omega)]
   congr 1
   omega⟩
 have hN : (H ++ xs.map some).length = H.length + al.countP ac1 := by simp [hlen]
 have old : ∀ (b : Nat) (x : EB), (H ++ xs.map some)[b]? = some (some x) → (b < H.length ∧ H[b]? = some (some x) ∧ φ3 b = φ' b) ∨ (∃ (j : Nat) (o : EOper), b = H.length + rk al j ∧ al[j]? = some o ∧ ac1 o = true ∧ φ3 b = β (rk al j) ∧ BG φ' I' H w w' x (β (rk al j))) := by
  intro b x hbx
  by_cases hlt : b < H.length
  ·rw [List.getElem?_append_left hlt] at hbx
   exact .inl ⟨hlt, hbx, hφ b hlt⟩
  ·rw [List.getElem?_append_right (by omega), List.getElem?_map] at hbx
   cases hx : xs[b - H.length]? with
   | none => rw [hx] at hbx; simp at hbx
   | some y =>
    rw [hx] at hbx
    simp only [Option.map_some, Option.some.injEq] at hbx
    subst hbx
    obtain ⟨j, o, q1, q2, q3⟩ := ct1 al (b - H.length) (by rw [← hlen]; exact aa3 hx)
    have hb : b = H.length + rk al j := by omega
    exact .inr ⟨j, o, hb, q1, q2, by rw [hb, hβ], h3 j o y q1 q2 (by rw [q3]; exact hx) (hS j (aa3 q1))⟩
 have mono : ∀ {x : EV} {v : Value}, RV φ' H.length I' w' x v → RV φ3 (H.length + al.countP ac1) I' w' x v := fun h =>
  h.mono (Nat.le_add_right _ _) hφ (fun _ h => h) (fun _ _ => rfl) (fun _ _ _ _ h => h)
 have hown : ∀ B, Own φ3 (H ++ xs.map some) B → Own φ' H B ∨ ∃ x, BG φ' I' H w w' x B := by
  rintro B ⟨b, x, hbx, rfl⟩
  rcases old b x hbx with ⟨_, g1, g2⟩ | ⟨j, o, _, _, _, g2, g3⟩
  ·exact .inl ⟨b, x, g1, g2.symm⟩
  ·exact .inr ⟨x, by rw [g2]; exact g3⟩
 refine ⟨φ3, I', ⟨h1.size, h1.shape, h1.keep, h1.imm, fun i hi => (hφ i (Nat.lt_of_lt_of_le hi h1.len)).trans (h1.phi i hi), by simp, fun B hB => (hown B hB).elim (h1.own B) fun ⟨x, hx⟩ => .inr hx.new, h1.immf, h1.tape, h1.os, h1.out, h1.froz⟩,
  ⟨h2.sz, fun t => ?_, ⟨fun g => (hr.glob g).mono (Nat.le_refl 0) (fun i hi => absurd hi (Nat.not_lt_zero i)) (fun _ h => h) (fun _ _ => rfl) (fun b hb => absurd hb (Nat.not_lt_zero b)), fun b x hbx => ?_, fun b b' x x' hbx hbx' e => ?_, hr.imm, fun b x hbx => ?_, fun b x hbx => ?_⟩, ?_⟩⟩
 ·rw [hN]
  by_cases ht : t ∈ af2 al
  ·obtain ⟨o, ho, hod⟩ := List.mem_filterMap.1 ht
   obtain ⟨j, hj, rfl⟩ := List.mem_iff_getElem.1 ho
   have hjo : al[j]? = some al[j] := by simp [hj]
   have := bk4 (val := vals) (S := fun _ => true) (t := t) al 0 j σ al[j] hjo hod rfl (fun q o' hq hq' _ hd' => by
    have := bj1 hnd hjo hq' hod hd'
    omega)
   rw [this, Nat.zero_add]
   exact h5 j _ t hjo hod (hS j hj) φ3 hφ fun j' _ _ _ _ => hβ _
  ·rw [au8 al 0 σ fun q o' hq _ hd' => ht (aq0 hq hd')]
   exact mono (h2.slots t)
 ·rw [hN]
  rcases old b x hbx with ⟨_, g1, g2⟩ | ⟨j, o, _, _, _, g2, g3⟩
  ·rw [g2]
   exact (hr.blk b x g1).mono (Nat.le_add_right _ _) hφ (fun _ h => h) (fun _ _ => rfl) (fun _ _ _ _ h => h) rfl
  ·rw [g2]
   exact g3.blk.mono (Nat.le_add_right _ _) hφ (fun _ h => h) (fun _ _ => rfl) (fun _ _ _ _ h => h) rfl
 ·rcases old b x hbx with ⟨_, k1, k2⟩ | ⟨j, o, k1, k2, k3, k4, k5⟩ <;> rcases old b' x' hbx' with ⟨_, g1, g2⟩ | ⟨j', o', g1, g2, g3, g4, g5⟩
  ·exact hr.inj b b' x x' k1 g1 (by rw [← k2, ← g2]; exact e)
  ·exact absurd ⟨b, x, k1, by rw [← k2, e, g4]⟩ g5.own
  ·exact absurd ⟨b', x', g1, by rw [← g2, ← e, k4]⟩ k5.own
  ·have := h4 j j' o o' k2 g2 k3 g3 (hS j (aa3 k2)) (hS j' (aa3 g2)) (by rw [← k4, ← g4]; exact e)
   subst this
   omega
 ·rcases old b x hbx with ⟨_, g1, g2⟩ | ⟨j, o, _, _, _, g2, g3⟩
  ·rw [g2]; exact hr.dis b x g1
  ·rw [g2]; exact g3.imm
 ·rcases old b x hbx with ⟨_, g1, g2⟩ | ⟨j, o, _, _, _, g2, g3⟩
  ·rw [g2]; exact hr.lt b x g1
  ·rw [g2]; exact g3.lt
 ·obtain ⟨h0, Ds, k1, k2, k3⟩ := h2.defers
  refine ⟨h0, Ds, k1, k2, fun D hD => ⟨(k3 D hD).1, (k3 D hD).2.1, fun ho => ?_, (k3 D hD).2.2.2⟩⟩
  rcases hown D ho with ho | ⟨x, hx⟩
  ·exact (k3 D hD).2.2.1 ho
  ·have g := hx.blk
   have := (k3 _ hD).2.1
   cases x with
   | row sz es => obtain ⟨c, T, g1, _⟩ := g; rw [g1] at this; simp at this
   | map es => obtain ⟨c, T, g1, _⟩ := g; rw [g1] at this; simp at this
   | it ss p => simp only [RB] at g; rw [g] at this; simp at this
set_option maxHeartbeats 2000000 in
theorem cw9 {Q : AX → aa2 → Heap → Prop} {own : List Nat} {ops : Array Oper} {pre al post : List EOper} {pr : List (List Nat)} (hl : ops.toList.mapM (ai5 P n own ops) = some (pre ++ (al ++ post)))
  (hok : okNB pre al post (ae0 ops) pr = true) (hR : Rel γ n nb φ I s H a w) (h : wdr P γ (ba5 (fun s1 H1 => wops P γ Q (al ++ post) s1 H1) Q) (pre.map fun o => (o, false)) s H) :
  wpAny P .any ops (Post γ n nb φ I H w Q) ops.size (Array.replicate ops.size false) a { w with drawn := w.drawn + 1 } := by
 simp only [okNB, Bool.and_eq_true, decide_eq_true_eq] at hok
 obtain ⟨⟨⟨⟨⟨⟨⟨k1, k2⟩, k3⟩, k4⟩, k5⟩, k6⟩, k7⟩, k8⟩ := hok
 obtain ⟨val0, r1, r2⟩ := dk4 pre s h
 obtain ⟨ml, mres⟩ := ao1 hl
 have hsz : pre.length + (al.length + post.length) = ops.size := by simpa using ml
 obtain ⟨l1, hl1⟩ : ∃ l1, l1 = pre ++ al.map az8 := ⟨_, rfl⟩
 have hll : l1.length = pre.length + al.length := by rw [hl1]; simp
 rw [← hl1] at k4
 obtain ⟨val, hv1, hv2⟩ : ∃ val : Nat → EV, (∀ i, i < pre.length → val i = val0 i) ∧ ∀ i, pre.length ≤ i → val i = .undef :=
  ⟨fun i => if i < pre.length then val0 i else .undef, fun i hi => if_pos hi, fun i hi => if_neg (by omega)⟩
 have hvS : ∀ (S : Nat → Bool) (s : aa2), stS val S 0 pre s = stS val0 S 0 pre s := by
  have : ∀ (S : Nat → Bool) (l : List EOper) (i : Nat) (s : aa2), i + l.length ≤ pre.length → stS val S i l s = stS val0 S i l s := by
   intro S l
   induction l with
   | nil => intro i s _; rfl
   | cons o l ih =>
    intro i s hi
    simp only [List.length_cons] at hi
    simp only [stS]
    rw [hv1 i (by omega), ih (i + 1) _ (by omega)]
  exact fun S s => this S pre 0 s (by omega)
 have get1 : ∀ i (hi : i < pre.length), l1[i]? = some pre[i] := fun i hi => by rw [hl1, List.getElem?_append_left hi]; simp [hi]
 have get2 : ∀ j (hj : j < al.length), l1[pre.length + j]? = some (az8 al[j]) := fun j hj => by rw [hl1, List.getElem?_append_right (by omega)]; simp [hj]
 have text : ∀ i (hi : i < l1.length), Runs P γ (stS val (fun j => decide (j < i)) 0 l1 s) H l1[i] (val i) H := by
  intro i hi
  by_cases hp : i < pre.length
  ·have e1 : l1[i] = pre[i] := by have := get1 i hp; simpa [hi] using this
   have e2 : stS val (fun j => decide (j < i)) 0 l1 s = stS val0 (fun j => decide (j < i)) 0 pre s := by
    rw [hl1, ba9, hvS, ay4]
    intro k _
    simp; omega
   rw [e1, e2, hv1 i hp]
   exact r1 i hp
  ·have e1 : l1[i] = az8 (al[i - pre.length]'(by omega)) := by
    have := get2 (i - pre.length) (by omega)
    rw [show pre.length + (i - pre.length) = i by omega] at this
    simpa [hi] using this
   rw [e1, hv2 i (by omega)]
   simp [Runs, az8, Acts, evOp, ev]
 have okd : ∀ i, i < ops.size → (∀ k ∈ (ae0 ops).getD i [], k < i) ∧ ∀ j ∈ pr.getD i [], ∃ k ∈ (ae0 ops).getD i [], k = j ∨ j ∈ pr.getD k [] := by
  intro i hi
  by_cases hp : i < l1.length
  ·have := ch8 k4 i hp
   exact ⟨this.1, this.2.1⟩
  ·have := List.all_eq_true.1 k6 (i - (pre.length + al.length)) (List.mem_range.2 (by omega))
   rw [show pre.length + al.length + (i - (pre.length + al.length)) = i by omega] at this
   simp only [Bool.and_eq_true, List.all_eq_true, decide_eq_true_eq, List.any_eq_true, Bool.or_eq_true, beq_iff_eq, List.contains_iff_mem, List.mem_range] at this
   exact ⟨this.1.1, this.1.2⟩
 have okp : ∀ i, l1.length ≤ i → i < ops.size → ∀ j, j < i → j ∈ pr.getD i [] ∨ (j < pre.length ∧ j ∉ pr.getD i [] ∧ bv3 (pre.getD j default) (post.getD (i - l1.length) default) = true) := by
  intro i hi hi' j hj
  have := List.all_eq_true.1 k6 (i - (pre.length + al.length)) (List.mem_range.2 (by omega))
  rw [show pre.length + al.length + (i - (pre.length + al.length)) = i by omega] at this
  simp only [Bool.and_eq_true, List.all_eq_true, List.contains_iff_mem, List.mem_range, Bool.or_eq_true, decide_eq_true_eq] at this
  rcases this.2 j hj with h | h
  ·exact .inl h
  ·by_cases hm : j ∈ pr.getD i []
   ·exact .inl hm
   ·exact .inr ⟨h.1, hm, by rw [hll]; exact h.2⟩
 have isL_of : ∀ i, l1.length ≤ i → i < ops.size → ∀ j, j ∉ pr.getD i [] → isL (pre.length + al.length) post.length pr j = true := by
  intro i hi hi' j hj
  unfold isL
  refine List.any_eq_true.2 ⟨i - l1.length, List.mem_range.2 (by omega), ?_⟩
  rw [show pre.length + al.length + (i - l1.length) = i by omega]
  simpa using hj
 have apartL : ∀ i j, i < pre.length → j < pre.length → i ≠ j → isL (pre.length + al.length) post.length pr i = true → isL (pre.length + al.length) post.length pr j = true → ag8 (pre.getD i default) (pre.getD j default) = false := by
  intro i j hi hj hne h1 h2
  have := List.all_eq_true.1 (List.all_eq_true.1 k7 i (List.mem_range.2 hi)) j (List.mem_range.2 hj)
  rw [h1, h2] at this
  simpa [hne] using this
 obtain ⟨σ, hσ⟩ : ∃ σ : (Nat → Bool) → aa2, ∀ S, σ S = stS val S 0 l1 s := ⟨_, fun _ => rfl⟩
 have hd : ∀ d ∈ af2 al, d ∉ af2 pre := fun d hd => by have := List.all_eq_true.1 k3 d hd; simpa using this
 obtain ⟨s0, hs0⟩ : ∃ s0, s0 = stS val0 (fun _ => true) 0 pre s := ⟨_, rfl⟩
 have hrd8 : ∀ i (hi : i < al.length), ∀ t ∈ (al[i]).reads, (∀ (j : Nat) (o : EOper), pre[j]? = some o → o.dst = some t → j ∈ pr.getD (pre.length + i) []) ∧ ∀ (j : Nat) (o : EOper), al[j]? = some o → o.dst = some t → ac1 al[i] = false ∧ j < i ∧ pre.length + j ∈ pr.getD (pre.length + i) [] := fun i hi t ht => by
  have := List.all_eq_true.1 (List.all_eq_true.1 k8 i (List.mem_range.2 hi)) t (by simpa [hi] using ht)
  simp only [Bool.and_eq_true, Bool.not_eq_true', List.contains_eq_mem, List.all_eq_true, List.mem_range, Bool.or_eq_true, decide_eq_true_eq] at this
  refine ⟨fun j o ho hdo => ?_, fun j o ho hdo => ?_⟩
  ·rcases this.1 j (aa3 ho) with h | h
   ·simp [List.getD, ho, hdo] at h
   ·exact h
  ·rcases this.2 j (aa3 ho) with h | h
   ·simp [List.getD, ho, hdo] at h
   ·refine ⟨?_, h.1.2, h.2⟩
    have := h.1.1
    simpa [hi] using this
 have hal8 : ∀ i (hi : i < al.length), ac1 al[i] = false → cv2 al[i] = true := fun i hi hn => by
  have := List.all_eq_true.1 k1 al[i] (List.getElem_mem hi)
  unfold isAl at this
  rwa [hn, Bool.false_or] at this
 rw [← hs0] at r2
 obtain ⟨vals, xs, wp2, hxl, hcan⟩ := cr7 al k1 s0 H r2
 -- what is read is there
 have hagree : ∀ (S : Nat → Bool) (j0 : Nat) (hj0 : j0 < al.length), (∀ j ∈ pr.getD (pre.length + j0) [], S j = true) → ∀ t ∈ (al[j0]).reads,
   σ S t = stS vals (fun q => decide (q < j0)) 0 al s0 t ∨ ∃ (j : Nat) (o : EOper), al[j]? = some o ∧ o.dst = some t ∧ S (pre.length + j) = true ∧ stS vals (fun q => decide (q < j0)) 0 al s0 t = vals j ∧ ac1 al[j0] = false := by
  intro S j0 hj0 hpr t ht
  obtain ⟨q1, q2⟩ := hrd8 j0 hj0 t ht
  by_cases hta : t ∈ af2 al
  ·obtain ⟨o, ho, hod⟩ := List.mem_filterMap.1 hta
   obtain ⟨j, hj, rfl⟩ := List.mem_iff_getElem.1 ho
   have hjo : al[j]? = some al[j] := by simp [hj]
   obtain ⟨p1, p2, p3⟩ := q2 j _ hjo hod
   refine .inr ⟨j, _, hjo, hod, hpr _ p3, ?_, p1⟩
   have := bk4 (val := vals) (S := fun q => decide (q < j0)) (t := t) al 0 j s0 al[j] hjo hod (by simpa using p2) (fun q o' hq hq' _ hd' => by
    have := bj1 k2 hjo hq' hod hd'
    omega)
   rw [this, Nat.zero_add]
  ·left
   rw [au8 al 0 s0 fun q o' hq _ hd' => hta (aq0 hq hd')]
   rw [hσ, hs0, hl1, ba9, au8, hvS]
   ·exact bb4 pre 0 s s (fun k o hk hdk => by
     rw [Nat.zero_add]
     exact hpr k (q1 k o hk hdk)) rfl
   ·intro k o hk _ hdk
    obtain ⟨o', ho', rfl⟩ : ∃ o', al[k]? = some o' ∧ az8 o' = o := by simpa using hk
    exact hta (aq0 ho' (by simpa [az8] using hdk))
 -- all new blocks are cv0
 have turn : ∀ (S : Nat → Bool) (a' : Act) (w' : World), (∀ i, i < l1.length → S i = false → i < pre.length) → P2 γ n nb φ I H w vals xs (σ S) al pre.length S a' w' →
   ∃ φ' I' s' s2 H', Evo φ I H w φ' I' H' w' ∧ Rel γ n nb φ' I' s' H' a' w' ∧ wops P γ Q post s2 H' ∧ (∀ t, s' t = s2 t ∨ ∃ i o, pre[i]? = some o ∧ S i = false ∧ o.dst = some t) ∧
    ∀ t, t ∉ af2 al → s' t = σ S t ∧ s2 t = stS val0 (fun _ => true) 0 pre s t := by
  intro S a' w' hS hP
  have hal1 : ∀ j, j < al.length → S (pre.length + j) = true := fun j hj => by
   cases hb : S (pre.length + j) with
   | true => rfl
   | false => have := hS _ (by omega) hb; omega
  obtain ⟨φ3, I3, g1, g2⟩ := convM k2 k1 hxl hal1 hP
  have hout : ∀ (q : aa2) (t : Nat), t ∉ af2 al → stS vals (fun _ => true) 0 al q t = q t := fun q t ht => au8 al 0 q fun k o hk _ hdk => ht (aq0 hk hdk)
  refine ⟨φ3, I3, _, _, _, g1, g2, wp2, fun t => ?_, fun t ht => ⟨hout _ t ht, by rw [hout _ t ht, hs0]⟩⟩
  by_cases hX : ∃ i o, pre[i]? = some o ∧ S i = false ∧ o.dst = some t
  ·exact .inr hX
  ·left
   by_cases ht : t ∈ af2 al
   ·obtain ⟨o, ho, hod⟩ := List.mem_filterMap.1 ht
    obtain ⟨j, hj, rfl⟩ := List.mem_iff_getElem.1 ho
    have hjo : al[j]? = some al[j] := by simp [hj]
    have hat : ∀ q : aa2, stS vals (fun _ => true) 0 al q t = vals (0 + j) := fun q => bk4 (val := vals) (S := fun _ => true) (t := t) al 0 j q al[j] hjo hod rfl (fun q o' hq hq' _ hd' => by
     have := bj1 k2 hjo hq' hod hd'
     omega)
    rw [hat, hat]
   ·rw [hout _ t ht, hout _ t ht, hσ, hs0, hl1, ba9, au8, hvS]
    ·exact bb4 pre 0 s s (fun k o hk hd => by
      rw [Nat.zero_add]
      cases hb : S k with
      | true => rfl
      | false => exact absurd ⟨k, o, hk, hb, hd⟩ hX) rfl
    ·intro k o hk _ hd
     obtain ⟨o', ho', rfl⟩ : ∃ o', al[k]? = some o' ∧ az8 o' = o := by simpa using hk
     exact ht (aq0 ho' (by simpa [az8] using hd))
 refine cj7 (fun i hi => (okd i hi).1)
  (fun S a' w' => ((∀ i, l1.length ≤ i → i < ops.size → S i = false) ∧ P2 γ n nb φ I H w vals xs (σ S) al pre.length S a' w') ∨
   ∃ p, l1.length < p ∧ p ≤ ops.size ∧ (∀ i, l1.length ≤ i → i < ops.size → S i = decide (i < p)) ∧ (∀ i, i < l1.length → S i = false → i < pre.length ∧ isL (pre.length + al.length) post.length pr i = true ∧ (pre.getD i default).op.looks = false ∧ (pre.getD i default).guard = none) ∧
    ∃ φ' I' s' s2 H', Evo φ I H w φ' I' H' w' ∧ Rel γ n nb φ' I' s' H' a' w' ∧ wops P γ Q (post.drop (p - l1.length)) s2 H' ∧ (∀ t, s' t = s2 t ∨ ∃ i o, pre[i]? = some o ∧ S i = false ∧ o.dst = some t) ∧
     ∀ i o, pre[i]? = some o → S i = false → Runs P γ s' H' o (val0 i) H' ∧ ∀ d, o.dst = some d → s2 d = val0 i)
  ?_ ?_ ?_ ?_
 ·-- what stands outside does not count
  intro S T hST a' w' hS
  rcases hS with ⟨h1, h2⟩ | ⟨p, h1, h2, h3, h5, φ', I', s', s2, H', g1, g2, g3, g4, g5⟩
  ·refine .inl ⟨fun i hi hi' => (hST i hi').symm.trans (h1 i hi hi'), ?_⟩
   have e : σ S = σ T := by rw [hσ, hσ]; exact bk3 fun k hk => by rw [Nat.zero_add]; exact hST k (by omega)
   rw [← e]
   obtain ⟨φ', I', β, g1, g2, g3, g4, g5⟩ := h2
   have eT : ∀ j, j < al.length → T (pre.length + j) = S (pre.length + j) := fun j hj => (hST _ (by omega)).symm
   exact ⟨φ', I', β, g1, g2, fun j o x hj hn hx hs => g3 j o x hj hn hx ((eT j (aa3 hj)).symm.trans hs), fun i j o o' hi hj n1 n2 s1 s2 e => g4 i j o o' hi hj n1 n2 ((eT i (aa3 hi)).symm.trans s1) ((eT j (aa3 hj)).symm.trans s2) e, fun j o d hj hod hs => fun φ1 q1 q2 => g5 j o d hj hod ((eT j (aa3 hj)).symm.trans hs) φ1 q1 fun j' o' hj' hn' hs' => q2 j' o' hj' hn' ((eT j' (aa3 hj')).trans hs')⟩
  ·refine .inr ⟨p, h1, h2, fun i hi hi' => (hST i hi').symm.trans (h3 i hi hi'), fun i hi hs => h5 i hi ((hST i (by omega)).trans hs), φ', I', s', s2, H', g1, g2, g3, fun t => ?_, fun i o ho hs => g5 i o ho ((hST i (by have := aa3 ho; omega)).trans hs)⟩
   rcases g4 t with h | ⟨i, o, ho, hs, hd⟩
   ·exact .inl h
   ·exact .inr ⟨i, o, ho, (hST i (by have := aa3 ho; omega)).symm.trans hs, hd⟩
 ·intro S hSc i hi hSi hSd a' w' hS
  have hprein := by4 okd S hSc i hi hSd
  have hop : ops[i]? = some ops[i] := by simp [hi]
  have heo : ∀ eo, (pre ++ (al ++ post))[i]? = some eo → ai5 P n own ops ops[i] = some eo := fun eo he => mres i ops[i] eo (by simp [hi]) he
  have ok1 := ch8 k4
  have gD : ∀ i o, pre[i]? = some o → pre.getD i default = o := fun i o ho => by simp [List.getD, ho]
  by_cases hp : i < l1.length
  ·have before : ∀ j (hj : j < i), ag8 (l1[j]'(by omega)) l1[i] = true → S j = true := by
    intro j hj hme
    exact hprein j ((ok1 i hp).2.2 j hj (by
     rw [show l1.getD j default = l1[j]'(by omega) by simp [show j < l1.length by omega], show l1.getD i default = l1[i] by simp [hp]]
     exact hme))
   rcases hS with hS1 | ⟨p, h1, h2, h3, h5, φ', I', s', s2, H', g1, g2, g3, g4, g5⟩
   ·-- before the rest
    obtain ⟨o1, o2⟩ := cm7 k4 text S (fun i hi => hSc i (by omega)) i hp hSi before
    rw [← hσ] at o1 o2
    rw [← hσ] at o2
    have hfar : ∀ j, l1.length ≤ j → j < ops.size → (S j || j == i) = false := fun j hj hj' => by
     rw [hS1.1 j hj hj']
     simp; omega
    by_cases hq : i < pre.length
    ·have e1 : l1[i] = pre[i] := by have := get1 i hq; simpa [hp] using this
     rw [e1] at o1 o2
     refine wpOp_mono (fun a2 w2 hh => .inl ⟨hfar, hh⟩) (dl3 hd hop (by simp [hq]) (heo _ (by rw [List.getElem?_append_left hq]; simp [hq])) hS1.2 o1 o2)
    ·obtain ⟨j0, rfl⟩ : ∃ j0, i = pre.length + j0 := ⟨i - pre.length, by omega⟩
     have hj0 : j0 < al.length := by omega
     obtain ⟨hgd0, d0, hd0⟩ := db9 (List.all_eq_true.1 k1 al[j0] (List.getElem_mem hj0))
     have hal0 : al[j0]? = some al[j0] := by simp [hj0]
     have e1 : l1[pre.length + j0] = az8 al[j0] := by have := get2 j0 hj0; simpa [hp] using this
     rw [e1, hv2 _ (by omega)] at o2
     simp only [az8, hd0] at o2
     have hres0 : ai5 P n own ops ops[pre.length + j0] = some al[j0] := heo _ (by
      rw [List.getElem?_append_right (by omega), List.getElem?_append_left (by omega)]
      rw [← hal0]
      congr 1
      omega)
     have hag0 := hagree S j0 hj0 hprein
     by_cases hn0 : ac1 al[j0] = true
     ·refine wpOp_mono (fun a2 w2 hh => .inl ⟨hfar, hh⟩) (dl5 k1 k2 hxl hSi (hcan j0 _ hal0) hn0 hd0 (fun t ht => ?_) hop hal0 hres0 hS1.2 o2)
      rcases hag0 t ht with h | ⟨_, _, _, _, _, _, h⟩
      ·exact h
      ·rw [hn0] at h; simp at h
     ·have hn1 : ac1 al[j0] = false := by simpa using hn0
      refine wpOp_mono (fun a2 w2 hh => .inl ⟨hfar, hh⟩) (ea4 k2 (hcan j0 _ hal0) hn1 (hal8 j0 hj0 hn1) hd0 (fun t ht => ?_) hop hal0 hres0 hS1.2 o2)
      rcases hag0 t ht with h | ⟨j, o, p1, p2, p3, p4, _⟩
      ·exact .inl h
      ·exact .inr ⟨j, o, p1, p2, p3, p4⟩
   ·-- a late one
    obtain ⟨hq, hL, hlk, hgn⟩ := h5 i hp hSi
    have hpi : pre[i]? = some pre[i] := by simp [hq]
    rw [gD i _ hpi] at hlk hgn
    obtain ⟨c1, c2⟩ := g5 i pre[i] hpi hSi
    have mt : ∀ j o, pre[j]? = some o → S j = false → j ≠ i → ag8 pre[i] o = false := fun j o ho hs hne => by
     have := apartL i j hq (aa3 ho) (Ne.symm hne) hL (h5 j (by have := aa3 ho; omega) hs).2.1
     rwa [gD i _ hpi, gD j o ho] at this
    refine bi4 hop (heo _ (by rw [List.getElem?_append_left hq]; exact hpi)) g1 g2 c1 fun φ2 I2 a2 w2 v2 e1 e2 e3 => .inr ⟨p, h1, h2, fun j hj hj' => ?_, fun j hj hs => ?_, φ2, I2, _, s2, H', g1.trans e1, e2, g3, fun t => ?_, fun j o ho hs => ?_⟩
    ·show (S j || j == i) = decide (j < p)
     rw [h3 j hj hj', show (j == i) = false by simp; omega, Bool.or_false]
    ·exact h5 j hj (by simp only [Bool.or_eq_false_iff] at hs; exact hs.1)
    ·by_cases ht : pre[i].dst = some t
     ·left
      rw [c2 t ht, ht]
      simp [putA, upd]
     ·rw [an8 ht]
      rcases g4 t with h | ⟨j, o, ho, hs, hdt⟩
      ·exact .inl h
      ·refine .inr ⟨j, o, ho, ?_, hdt⟩
       show (S j || j == i) = false
       rw [hs, Bool.false_or]
       simp only [beq_eq_false_iff_ne, ne_eq]
       rintro rfl
       rw [hpi] at ho
       obtain rfl := Option.some.inj ho
       exact ht hdt
    ·simp only [Bool.or_eq_false_iff, beq_eq_false_iff_ne, ne_eq] at hs
     obtain ⟨q1, q2⟩ := g5 j o ho hs.1
     have hm := mt j o ho hs.1 hs.2
     refine ⟨q1.congr fun t ht => ?_, q2⟩
     refine (an8 fun e => ?_).symm
     simp [ag8, e, ht] at hm
  ·-- the rest
   have hge : l1.length ≤ i := by omega
   have late : ∀ j, j < i → S j = false → j < pre.length ∧ j ∉ pr.getD i [] ∧ bv3 (pre.getD j default) (post.getD (i - l1.length) default) = true := fun j hj hs => by
    rcases okp i hge hi j hj with h | h
    ·rw [hprein j h] at hs; simp at hs
    ·exact h
   have hlt : ∀ j, l1.length ≤ j → j < i → S j = true := fun j hj hji => by
    cases hb : S j with
    | true => rfl
    | false => have := (late j hji hb).1; omega
   have hS2 : (∀ j, l1.length ≤ j → j < ops.size → S j = decide (j < i)) ∧ ∃ φ' I' s' s2 H', Evo φ I H w φ' I' H' w' ∧ Rel γ n nb φ' I' s' H' a' w' ∧ wops P γ Q (post.drop (i - l1.length)) s2 H' ∧ (∀ t, s' t = s2 t ∨ ∃ i o, pre[i]? = some o ∧ S i = false ∧ o.dst = some t) ∧
     ∀ i o, pre[i]? = some o → S i = false → Runs P γ s' H' o (val0 i) H' ∧ ∀ d, o.dst = some d → s2 d = val0 i := by
    rcases hS with ⟨h1, h2⟩ | ⟨p, h1, h2, h3, h5, h4⟩
    ·have hi1 : i = l1.length := by
      rcases Nat.lt_or_ge l1.length i with hlt' | hge'
      ·have := hlt _ (Nat.le_refl _) hlt'
       rw [h1 _ (Nat.le_refl _) (by omega)] at this
       simp at this
      ·omega
     refine ⟨fun j hj hj' => ?_, ?_⟩
     ·rw [h1 j hj hj']; simp; omega
     ·obtain ⟨φ', I', s', s2, H', g1, g2, g3, g4, g5⟩ := turn S a' w' (fun j hj hs => (late j (by omega) hs).1) h2
      refine ⟨φ', I', s', s2, H', g1, g2, by rw [hi1, Nat.sub_self, List.drop_zero]; exact g3, g4, fun j o ho hs => ?_⟩
      have hjl := aa3 ho
      have hjl1 : j < l1.length := by omega
      obtain ⟨_, hjn, hjp⟩ := late j (by omega) hs
      have hjL := isL_of i hge hi j hjn
      have eqp : ∀ k o', pre[k]? = some o' → ∀ hk : k < l1.length, l1[k] = o' := fun k o' hk' hk => by
       have h1 := get1 k (aa3 hk')
       have h2 : pre[k]'(aa3 hk') = o' := by simpa [aa3 hk'] using hk'
       rw [h2] at h1
       simpa [hk] using h1
      have e1 : l1[j] = o := eqp j o ho hjl1
      have preIn1 : ∀ k, k < l1.length → S k = true → ∀ j' ∈ pr.getD k [], S j' = true := fun k hk hsk => by4 okd S hSc k (by omega) (hSc k (by omega) hsk)
      have l1D : ∀ k (hk : k < l1.length), l1.getD k default = l1[k] := fun k hk => by simp [hk]
      have undone : ∀ k, k < l1.length → k ≠ j → S k = false → ∀ o', pre[k]? = some o' → ag8 (pre.getD k default) o = false ∧ ag8 o (pre.getD k default) = false := fun k hk hne hsk o' ho' => by
       have hkL := isL_of i hge hi k (late k (by omega) hsk).2.1
       have m1 := apartL k j (aa3 ho') hjl hne hkL hjL
       have m2 := apartL j k hjl (aa3 ho') (Ne.symm hne) hjL hkL
       rw [gD j o ho] at m1 m2
       exact ⟨m1, m2⟩
      obtain ⟨q1, q2⟩ := cm7 k4 text S (fun i hi => hSc i (by omega)) j hjl1 hs (fun k hk hme => by
       cases hb : S k with
       | true => rfl
       | false =>
        have hkp := (late k (by omega) hb).1
        have hko : pre[k]? = some pre[k] := by simp [hkp]
        have := (undone k (by omega) (by omega) hb _ hko).1
        rw [gD k _ hko] at this
        have e2 : l1[k]'(by omega) = pre[k] := eqp k _ hko (by omega)
        rw [e2, e1, this] at hme
        simp at hme)
      rw [e1, hv1 j hjl] at q1
      simp only [bv3, Bool.and_eq_true, Bool.not_eq_true', gD j o ho] at hjp
      have noal : ∀ t, (t ∈ o.reads ∨ o.dst = some t) → t ∉ af2 al := fun t ht hta => by
       obtain ⟨x, hx, hxd⟩ := List.mem_filterMap.1 hta
       obtain ⟨k, hk, hkx⟩ := List.getElem_of_mem hx
       have e3 : l1[pre.length + k]'(by omega) = az8 al[k] := by have := get2 k hk; simpa [show pre.length + k < l1.length by omega] using this
       have hbd : (az8 al[k]).dst = some t := by simp only [az8, hkx]; exact hxd
       have hm : ag8 l1[j] (l1[pre.length + k]'(by omega)) = true := by
        rw [e1, e3]
        rcases ht with ht | ht
        ·simp [ag8, hbd, ht]
        ·simp [ag8, hbd, ht]
       have hmem := (ok1 (pre.length + k) (by omega)).2.2 j (by omega) (by rw [l1D j hjl1, l1D _ (by omega)]; exact hm)
       have hdone : S (pre.length + k) = true := by
        cases hb : S (pre.length + k) with
        | true => rfl
        | false => have := (late _ (by omega) hb).1; omega
       have := preIn1 _ (by omega) hdone j hmem
       rw [hs] at this; simp at this
      have rb := (q1.blind (H2 := H') (by simpa using hjp.1.1.1))
      refine ⟨rb.congr fun t ht => ?_, fun d hdo => ?_⟩
      ·rw [(g5 t (noal t (.inl ht))).1, hσ]
      ·rw [(g5 d (noal d (.inr hdo))).2]
       have := bk4 (val := val0) (S := fun _ => true) (t := d) pre 0 j s o ho hdo rfl (fun k o' hk hk' _ hd' => by
        have hkl := aa3 hk'
        have e4 : l1[k]'(by omega) = o' := eqp k o' hk' (by omega)
        have hm : ag8 l1[j] (l1[k]'(by omega)) = true := by rw [e1, e4]; simp [ag8, hdo, hd']
        have hmem := (ok1 k (by omega)).2.2 j hk (by rw [l1D j hjl1, l1D k (by omega)]; exact hm)
        cases hb : S k with
        | true =>
         have := preIn1 k (by omega) hb j hmem
         rw [hs] at this; simp at this
        | false =>
         have := (undone k (by omega) (by omega) hb o' hk').2
         rw [gD k o' hk'] at this
         rw [e1, e4, this] at hm
         simp at hm)
       rw [Nat.zero_add] at this
       exact this
    ·have hpi : p = i := by
      have e1 := h3 i hge hi
      rw [hSi] at e1
      have e2 : ¬ i < p := by simpa using e1.symm
      rcases Nat.lt_or_ge p i with hlt' | hge'
      ·have := hlt p (by omega) hlt'
       rw [h3 p (by omega) (by omega)] at this
       simp at this
      ·omega
     subst hpi
     exact ⟨h3, h4⟩
   obtain ⟨hSi', φ', I', s', s2, H', g1, g2, g3, g4, g5⟩ := hS2
   have hj : i - l1.length < post.length := by omega
   have hpD : post.getD (i - l1.length) default = post[i - l1.length] := by simp [hj]
   rw [List.drop_eq_getElem_cons hj] at g3
   have hgd := List.all_eq_true.1 k5 post[i - l1.length] (List.getElem_mem hj)
   have heo' := heo post[i - l1.length] (by
    rw [List.getElem?_append_right (by omega), List.getElem?_append_right (by omega)]
    rw [show i - pre.length - al.length = i - l1.length by omega]
    simp [hj])
   obtain ⟨⟨b, hres⟩, hdst, hdn, hg⟩ := ah7 heo'
   have hgn : post[i - l1.length].guard = none := by simpa using hgd
   have hgo : ops[i].guard = none := by
    cases ho : ops[i].guard with
    | none => rfl
    | some p =>
     obtain ⟨j, bb⟩ := p
     rw [ho] at hg
     obtain ⟨d, _, _, hg⟩ := hg
     rw [hgn] at hg
     simp at hg
   simp only [wops, hgn] at g3
   -- the late ones are not met
   have apart' : ∀ j o, pre[j]? = some o → S j = false → o.op.looks = false ∧ o.guard = none ∧ post[i - l1.length].op.plain = true ∧ ag8 o post[i - l1.length] = false ∧ isL (pre.length + al.length) post.length pr j = true := fun j o ho hs => by
    obtain ⟨_, q2, q3⟩ := late j (by have := aa3 ho; omega) hs
    rw [hpD, gD j o ho] at q3
    simp only [bv3, Bool.and_eq_true, Bool.not_eq_true', Option.isNone_iff_eq_none] at q3
    exact ⟨q3.1.1.1, q3.1.1.2, q3.1.2, q3.2, isL_of i hge hi j q2⟩
   have g3' : wop P γ (fun v H' => Q (.panic v) s' H') (ev γ s') H' post[i - l1.length].op fun v H2 => wops P γ Q (post.drop (i - l1.length + 1)) (putA s2 post[i - l1.length].dst v) H2 := by
    by_cases hu : ∃ j o, pre[j]? = some o ∧ S j = false
    ·obtain ⟨j, o, ho, hs⟩ := hu
     obtain ⟨v, H2, r1, r2⟩ := bp3 (apart' j o ho hs).2.2.1 g3
     refine cc9 ?_ r2
     have hp := (apart' j o ho hs).2.2.1
     have : Acts P γ s' H' post[i - l1.length].op v H2 := Acts.congr (s := s2) (fun t ht => by
      rcases g4 t with h | ⟨j', o', ho', hs', hd'⟩
      ·exact h.symm
      ·have := (apart' j' o' ho' hs').2.2.2.1
       simp [ag8, hd', EOper.reads, ht] at this) (bt8 hp r1)
     exact ce1 hp this
    ·have : s' = s2 := funext fun t => by
      rcases g4 t with h | ⟨j, o, ho, hs, _⟩
      ·exact h
      ·exact absurd ⟨j, o, ho, hs⟩ hu
     rw [this]
     exact g3
   unfold wpOp
   rw [hop]
   simp only
   rw [if_pos (by simp [Region.wanted, hgo])]
   refine .inl (bl2 (fun e a2 w2 hp => Post.trans g1 hp) (Oper.wp_mono (fun a2 w2 hh => ?_) (bk2 (Q := Q) g2 hres hdn g3')))
   obtain ⟨φ2, I2, H2, v, e1, e2, e3⟩ := hh
   rw [← hdst] at e2
   refine .inr ⟨i + 1, by omega, by omega, fun j hj hj' => ?_, fun j hj hs => ?_, φ2, I2, _, putA s2 post[i - l1.length].dst v, H2, g1.trans e1, e2, ?_, fun t => ?_, fun j o ho hs => ?_⟩
   ·rw [hSi' j hj hj']
    by_cases hji : j = i
    ·subst hji; simp
    ·have : (j == i) = false := by simp [hji]
     rw [this, Bool.or_false, decide_eq_decide]
     omega
   ·simp only [Bool.or_eq_false_iff] at hs
    have hjp := (late j (by omega) hs.1).1
    have ho : pre[j]? = some pre[j] := by simp [hjp]
    obtain ⟨q1, q2, _, _, q5⟩ := apart' j _ ho hs.1
    rw [gD j _ ho]
    exact ⟨hjp, q5, q1, q2⟩
   ·rw [show i + 1 - l1.length = i - l1.length + 1 by omega]
    exact e3
   ·by_cases ht : post[i - l1.length].dst = some t
    ·left; rw [ht]; simp [putA, upd]
    ·rw [an8 ht, an8 ht]
     rcases g4 t with h | ⟨j, o, ho, hs, hd'⟩
     ·exact .inl h
     ·refine .inr ⟨j, o, ho, ?_, hd'⟩
      have := aa3 ho
      show (S j || j == i) = false
      rw [hs, Bool.false_or]
      simp; omega
   ·simp only [Bool.or_eq_false_iff] at hs
    obtain ⟨q1, q2⟩ := g5 j o ho hs.1
    obtain ⟨l1', l2', _, hm, _⟩ := apart' j o ho hs.1
    refine ⟨(q1.blind (H2 := H2) l1').congr fun t ht => (an8 fun e => ?_).symm, fun d hdo => ?_⟩
    ·have hm2 := hm
     simp [ag8, e, ht] at hm2
    ·rw [an8 fun e => ?_]
     ·exact q2 d hdo
     ·simp [ag8, e, hdo] at hm
 ·intro S hS a' w' hh
  have : ∃ φ' I' s' H', Evo φ I H w φ' I' H' w' ∧ Rel γ n nb φ' I' s' H' a' w' ∧ Q .normal s' H' := by
   rcases hh with ⟨h1, h2⟩ | ⟨p, h1, h2, h3, h5, φ', I', s', s2, H', g1, g2, g3, g4, g5⟩
   ·have hpost : post = [] := by
     rcases Nat.lt_or_ge l1.length ops.size with hlt | hge
     ·have := h1 _ (Nat.le_refl _) hlt
      rw [hS _ hlt] at this
      simp at this
     ·exact List.eq_nil_of_length_eq_zero (by omega)
    obtain ⟨φ', I', s', s2, H', g1, g2, g3, g4, _⟩ := turn S a' w' (fun i hi hs => by rw [hS i (by omega)] at hs; simp at hs) h2
    have : s' = s2 := funext fun t => by
     rcases g4 t with h | ⟨j, o, ho, hs, _⟩
     ·exact h
     ·rw [hS j (by have := aa3 ho; omega)] at hs; simp at hs
    subst this
    rw [hpost] at g3
    exact ⟨φ', I', s', H', g1, g2, g3⟩
   ·have hp : p = ops.size := by
     rcases Nat.lt_or_ge p ops.size with hlt | hge
     ·have := h3 p (by omega) hlt
      rw [hS p hlt] at this
      simp at this
     ·omega
    have : s' = s2 := funext fun t => by
     rcases g4 t with h | ⟨j, o, ho, hs, _⟩
     ·exact h
     ·rw [hS j (by have := aa3 ho; omega)] at hs; simp at hs
    subst this
    rw [hp, show ops.size - l1.length = post.length by omega, List.drop_length] at g3
    exact ⟨φ', I', s', H', g1, g2, g3⟩
  obtain ⟨φ', I', s', H', g1, g2, g3⟩ := this
  exact ⟨φ', I', s', H', .normal, g1, g2, .normal, g3⟩
 ·refine .inl ⟨fun _ _ _ => rfl, φ, I, fun _ => 0, Evo.drew, ?_, fun j o x _ _ _ hs => by simp at hs, fun i j _ _ _ _ _ _ hs => by simp at hs, fun j o d _ _ hs => by simp at hs⟩
  rw [hσ, ay4 fun _ _ => rfl]
  exact hR.drew
end
end Abs
