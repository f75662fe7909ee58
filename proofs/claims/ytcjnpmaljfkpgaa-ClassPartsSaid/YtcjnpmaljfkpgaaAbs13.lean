/- Whole bodies: code resolved, its rules, and contracts out of bodies. -/
import Derived.Test.YtcjnpmaljfkpgaaAbs18
namespace Abs
open Go

inductive EC where
  | skip
  | ops (l : List EOper)
  | draw (l : List (EOper × Bool))
  | seq (a b : EC)
  | cond (c : EOpd) (a b : EC)
  | block (id : Nat) (c : EC)
  | loop (c : EC)
  | exit (id : Nat)
  | ret
  deriving Inhabited

/-- All that stands ahead of each operation. -/
def preOf (deps : List (List Nat)) : List (List Nat) :=
  deps.foldl (fun acc d => acc ++ [(d ++ d.flatMap fun k => acc.getD k []).eraseDups]) []

/-- May this operation change the heap? (Of a call: 'own' names its slot.) -/
def chgOf (own : List Nat) (o : EOper) : Bool :=
  match o.op with
  | .call _ _ => (match o.dst with | some d => own.contains d | none => true)
  | op => op.eff

def resDraw (P : Program) (n : Nat) (own : List Nat) (ops : Array Oper) : Option (List (EOper × Bool)) :=
  match ops.toList.mapM (resOper P n own ops) with
  | some l => if P.follows .mixedOrders && drawOk l (depsOf ops) (preOf (depsOf ops)) (l.map (chgOf own)) then some (l.zip (l.map (chgOf own))) else none
  | none => none

def resC (P : Program) (n : Nat) (own : List Nat) : Code → Option EC
  | .skip => some .skip
  | .region _ ops false => (ops.toList.mapM (resOper P n own ops)).map .ops
  | .region _ ops true => (resDraw P n own ops).map .draw
  | .seq a b =>
    match resC P n own a, resC P n own b with
    | some x, some y => some (.seq x y)
    | _, _ => none
  | .cond c a b =>
    match resOpd c, resC P n own a, resC P n own b with
    | some z, some x, some y => some (.cond z x y)
    | _, _, _ => none
  | .block id c => (resC P n own c).map (.block id)
  | .loop c => (resC P n own c).map .loop
  | .exit id => some (.exit id)
  | .ret => some .ret
  | _ => none

def EB.ok (n : Nat) : EB → Bool
  | .row _ es => okL n es
  | .map es => es.all fun e => e.1.ok n && e.2.ok n

/-- What is let go of: slots, and the blocks behind the first L. -/
def Forgets (L : Nat) (s : Slots) (H : Heap) (s' : Slots) : Prop :=
  (∀ t, s' t = .undef ∨ (s' t = s t ∧ (s t).ok L = true)) ∧ ∀ (b : Nat) (x : EB), b < L → H[b]? = some (some x) → x.ok L = true

def thenA (next : Slots → Heap → Prop) (Q : AX → Slots → Heap → Prop) : AX → Slots → Heap → Prop
  | .normal, s, H => next s H
  | x, s, H => Q x s H

def inBlockA (id : Nat) (Q : AX → Slots → Heap → Prop) : AX → Slots → Heap → Prop
  | .exit id', s, H => if id' = id then Q .normal s H else Q (.exit id') s H
  | x, s, H => Q x s H

def wpc (P : Program) (γ : Nat → EV) : EC → (AX → Slots → Heap → Prop) → Slots → Heap → Prop
  | .skip, Q, s, H => Q .normal s H
  | .ops l, Q, s, H => wops P γ Q l s H
  | .draw l, Q, s, H => wdr P γ Q l s H
  | .seq a b, Q, s, H => wpc P γ a (thenA (fun s' H' => wpc P γ b Q s' H') Q) s H
  | .cond c a b, Q, s, H =>
    match ev γ s c with
    | .bool t => if t = true then wpc P γ a Q s H else wpc P γ b Q s H
    | _ => False
  | .block id c, Q, s, H => wpc P γ c (inBlockA id Q) s H
  | .loop c, Q, s, H => ∃ (Inv : Nat → Slots → Heap → Prop) (m0 : Nat) (s0 : Slots), (∀ t, s0 t = .undef ∨ s0 t = s t) ∧ Inv m0 s0 H ∧ ∀ m s' H', Inv m s' H' →
      wpc P γ c (thenA (fun s1 H1 => ∃ m1 s2 L, m1 < m ∧ H.length ≤ L ∧ Forgets L s1 H1 s2 ∧ Inv m1 s2 (H1.take L)) Q) s' H'
  | .exit id, Q, s, H => Q (.exit id) s H
  | .ret, Q, s, H => Q .ret s H

section
variable {P : Program} {γ : Nat → EV} {n : Nat} {φ φ0 : Nat → Nat} {I I0 : Nat → Prop} {s : Slots} {H H0 : Heap} {a : Act} {w w0 : World}

theorem take_get {L b : Nat} {x : Option EB} (h : (H.take L)[b]? = some x) : b < L ∧ H[b]? = some x := by
  have hb := get_lt h
  simp only [List.length_take] at hb
  rw [List.getElem?_take_of_lt (by omega)] at h
  exact ⟨by omega, h⟩

theorem Evo.take (h : Evo φ0 I0 H0 w0 φ I H w) {L : Nat} (hL : H0.length ≤ L) : Evo φ0 I0 H0 w0 φ I (H.take L) w where
  size := h.size
  shape := h.shape
  keep := h.keep
  imm := h.imm
  phi := h.phi
  len := by have := h.len; simp; omega
  own B hB := by
    obtain ⟨b, x, hb, e⟩ := hB
    exact h.own B ⟨b, x, (take_get hb).2, e⟩
  immf := h.immf
  tape := h.tape
  os := h.os
  out := h.out
  froz := h.froz

theorem RB.trunc {N L B : Nat} {x : EB} (h : RB φ N I w B x) (ho : x.ok L = true) : RB φ L I w B x := by
  cases x with
  | row sz es =>
    obtain ⟨c, T, h1, h2, h3, h4⟩ := h
    refine ⟨c, T, h1, h2, h3, fun i j e x v he hx hv => (h4 i j e x v he hx hv).trunc ?_⟩
    exact ok_cells (okL_iff.1 ho e (List.mem_of_getElem? he)) x (List.mem_of_getElem? hx)
  | map es =>
    obtain ⟨ms, clock, h1, h2, h3⟩ := h
    refine ⟨ms, clock, h1, h2, fun i e m he hm => ?_⟩
    have := List.all_eq_true.1 ho e (List.mem_of_getElem? he)
    simp only [Bool.and_eq_true] at this
    exact ⟨(h3 i e m he hm).1.trunc this.1, (h3 i e m he hm).2.trunc this.2⟩

theorem RV.grow {N M : Nat} {x : EV} {v : Value} (h : RV φ N I w x v) (hN : N ≤ M) : RV φ M I w x v :=
  h.mono hN (fun _ _ => rfl) (fun _ h => h) (fun _ _ => rfl) (fun _ _ _ _ h => h)

theorem ok_of_cells {m : Nat} {e : EV} (h : ∀ x ∈ e.cells, x.ok m = true) : e.ok m = true := by
  cases e with
  | agg cs => simp only [EV.ok]; exact okL_iff.2 h
  | _ => exact h _ (by simp [EV.cells])

theorem RV.isOk {N : Nat} {x : EV} {v : Value} (h : RV φ N I w x v) : x.ok N = true := by
  induction h with
  | undef v => rfl
  | bool b => rfl
  | int k m => rfl
  | str s => rfl
  | nilptr => rfl
  | ptr b sz i j hb => simpa [EV.ok] using hb
  | iptr cells j B o c T fr hB hb hs' _ ih =>
    simp only [EV.ok]
    refine okL_iff.2 fun x hx => ?_
    obtain ⟨k, hk, rfl⟩ := List.mem_iff_getElem.1 hx
    have hlt : o + k < c.size := by omega
    exact ih k _ c[o + k] (by simp [hk]) (by simp [hlt])
  | nilsl => rfl
  | imm sz es B o cap c T fr hB hb hs' hc hz _ ih =>
    simp only [EV.ok]
    refine okL_iff.2 fun e he => ok_of_cells fun x hx => ?_
    obtain ⟨i, hi, rfl⟩ := List.mem_iff_getElem.1 he
    obtain ⟨j, hj, rfl⟩ := List.mem_iff_getElem.1 hx
    have hsz := hz _ he
    have hlt : o + i * sz + j < c.size := by
      have := mul_add_lt (sz := sz) (by omega : j < sz) hi
      omega
    exact ih i j es[i] es[i].cells[j] c[o + i * sz + j] (by simp [hi]) (by simp [hj]) (by simp [hlt])
  | imm0 sz a => rfl
  | own0 b sz off a hb => simpa [EV.ok] using hb
  | own b sz off len cap m T hb hsh hn hc => simpa [EV.ok] using hb
  | nilfn => rfl
  | func f first cap vf vc h1 h2 _ _ ih1 ih2 =>
    simp only [EV.ok, Bool.and_eq_true]
    refine ⟨okL_iff.2 fun x hx => ?_, okL_iff.2 fun x hx => ?_⟩
    · obtain ⟨k, hk, rfl⟩ := List.mem_iff_getElem.1 hx
      have hlt : k < vf.size := by omega
      exact ih1 k _ vf[k] (by simp [hk]) (by simp [hlt])
    · obtain ⟨k, hk, rfl⟩ := List.mem_iff_getElem.1 hx
      have hlt : k < vc.size := by omega
      exact ih2 k _ vc[k] (by simp [hk]) (by simp [hlt])
  | nilif => rfl
  | iface t x v _ ih => simpa [EV.ok] using ih
  | nilmap => rfl
  | map b hb => simpa [EV.ok] using hb
  | agg cs vs hl _ ih =>
    simp only [EV.ok]
    refine okL_iff.2 fun x hx => ?_
    obtain ⟨k, hk, rfl⟩ := List.mem_iff_getElem.1 hx
    have hlt : k < vs.size := by omega
    exact ih k _ vs[k] (by simp [hk]) (by simp [hlt])
  | tup cs vs hl _ ih =>
    simp only [EV.ok]
    refine okL_iff.2 fun x hx => ?_
    obtain ⟨k, hk, rfl⟩ := List.mem_iff_getElem.1 hx
    have hlt : k < vs.size := by omega
    exact ih k _ vs[k] (by simp [hk]) (by simp [hlt])

/-- No block leads beyond the heap. -/
def OkH (H : Heap) : Prop := ∀ (b : Nat) (x : EB), H[b]? = some (some x) → x.ok H.length = true

theorem RH.isOk (h : RH γ φ I H w) : OkH H := by
  intro b x hb
  have := h.blk b x hb
  cases x with
  | row sz es =>
    obtain ⟨c, T, h1, h2, h3, h4⟩ := this
    simp only [EB.ok]
    refine okL_iff.2 fun e he => ok_of_cells fun x hx => ?_
    obtain ⟨i, hi, rfl⟩ := List.mem_iff_getElem.1 he
    obtain ⟨j, hj, rfl⟩ := List.mem_iff_getElem.1 hx
    have hsz := h3 _ he
    have hlt : i * sz + j < c.size := by
      have := mul_add_lt (sz := sz) (by omega : j < sz) hi
      omega
    exact (h4 i j es[i] es[i].cells[j] c[i * sz + j] (by simp [hi]) (by simp [hj]) (by simp [hlt])).isOk
  | map es =>
    obtain ⟨ms, clock, h1, h2, h3⟩ := this
    simp only [EB.ok]
    rw [List.all_eq_true]
    intro e he
    obtain ⟨i, hi, rfl⟩ := List.mem_iff_getElem.1 he
    have hlt : i < ms.size := by omega
    have := h3 i es[i] ms[i] (by simp [hi]) (by simp [hlt])
    rw [this.1.isOk, this.2.isOk]; rfl

/-- The blocks behind the first L are let go of. -/
theorem RH.take (h : RH γ φ I H w) {L : Nat} (ho : ∀ (b : Nat) (x : EB), b < L → H[b]? = some (some x) → x.ok (min L H.length) = true) : RH γ φ I (H.take L) w where
  glob := h.glob
  blk b x hb := by
    obtain ⟨h1, h2⟩ := take_get hb
    rw [List.length_take]
    exact (h.blk b x h2).trunc (ho b x h1 h2)
  inj b b' x x' hb hb' e := h.inj b b' x x' (take_get hb).2 (take_get hb').2 e
  imm := h.imm
  dis b x hb := h.dis b x (take_get hb).2
  lt b x hb := h.lt b x (take_get hb).2

theorem ok_min {x : EV} {v : Value} {N L : Nat} (h : RV φ N I w x v) (ho : x.ok L = true) : RV φ (min L N) I w x v := by
  by_cases hl : L ≤ N
  · rw [Nat.min_eq_left hl]; exact h.trunc ho
  · rw [Nat.min_eq_right (by omega)]; exact h

theorem RB.min {N L B : Nat} {x : EB} (h : RB φ N I w B x) (ho : x.ok L = true) : RB φ (min L N) I w B x := by
  by_cases hl : L ≤ N
  · rw [Nat.min_eq_left hl]; exact h.trunc ho
  · rw [Nat.min_eq_right (by omega)]; exact h

theorem RH.take' (h : RH γ φ I H w) {L : Nat} (ho : ∀ (b : Nat) (x : EB), b < L → H[b]? = some (some x) → x.ok L = true) : RH γ φ I (H.take L) w where
  glob := h.glob
  blk b x hb := by
    obtain ⟨h1, h2⟩ := take_get hb
    rw [List.length_take]
    exact (h.blk b x h2).min (ho b x h1 h2)
  inj b b' x x' hb hb' e := h.inj b b' x x' (take_get hb).2 (take_get hb').2 e
  imm := h.imm
  dis b x hb := h.dis b x (take_get hb).2
  lt b x hb := h.lt b x (take_get hb).2

theorem Rel.forget (hR : Rel γ n φ I s H a w) {L : Nat} {s' : Slots} (hf : Forgets L s H s') : Rel γ n φ I s' (H.take L) a w where
  sz := hR.sz
  slots t := by
    rw [List.length_take]
    rcases hf.1 t with h | ⟨h, ho⟩
    · rw [h]; exact .undef _
    · rw [h]; exact ok_min (hR.slots t) ho
  heap := hR.heap.take' hf.2
  defers := hR.defers

theorem thenA_post {next : Slots → Heap → Prop} {Q : AX → Slots → Heap → Prop} {K : Act → World → Prop} {Qc : Exit → Act → World → Prop}
    (hn : ∀ φ' I' s' H' a' w', Evo φ I H w φ' I' H' w' → Rel γ n φ' I' s' H' a' w' → next s' H' → K a' w')
    (hq : ∀ e a' w', e ≠ .normal → Post γ n φ I H w Q e a' w' → Qc e a' w') {e : Exit} {a' : Act} {w' : World} (h : Post γ n φ I H w (thenA next Q) e a' w') : Exit.then K Qc e a' w' := by
  obtain ⟨φ', I', s', H', x, h1, h2, h3, h4⟩ := h
  cases h3 with
  | normal => exact hn φ' I' s' H' a' w' h1 h2 h4
  | exit id => exact hq _ _ _ (by simp) ⟨φ', I', s', H', _, h1, h2, .exit id, h4⟩
  | goto l => exact hq _ _ _ (by simp) ⟨φ', I', s', H', _, h1, h2, .goto l, h4⟩
  | ret => exact hq _ _ _ (by simp) ⟨φ', I', s', H', _, h1, h2, .ret, h4⟩
  | panic x v hv => exact hq _ _ _ (by simp) ⟨φ', I', s', H', _, h1, h2, .panic x v hv, h4⟩

theorem wpc_sound {own : List Nat} : ∀ (c : Code) (ec : EC), resC P n own c = some ec → ∀ (Q : AX → Slots → Heap → Prop) (φ : Nat → Nat) (I : Nat → Prop) (s : Slots) (H : Heap) (a : Act) (w : World),
    Rel γ n φ I s H a w → wpc P γ ec Q s H → c.wp P (Post γ n φ I H w Q) a w := by
  intro c
  induction c with
  | skip =>
    intro ec he Q φ I s H a w hR h
    simp only [resC, Option.some.injEq] at he; subst he
    exact wp_skip ⟨φ, I, s, H, .normal, .refl .., hR, .normal, h⟩
  | region id ops draw =>
    intro ec he Q φ I s H a w hR h
    cases draw with
    | true =>
      simp only [resC, Option.map_eq_some_iff] at he
      obtain ⟨z, hz, rfl⟩ := he
      unfold resDraw at hz
      split at hz
      case h_2 => simp at hz
      rename_i l hl
      split at hz
      case isFalse => simp at hz
      rename_i hc
      simp only [Bool.and_eq_true] at hc
      simp only [Option.some.injEq] at hz; subst hz
      refine draw_sound hc.1 hl hc.2 (fun i hi => ?_) (by simp) hR h
      by_cases hlt : i < l.length
      · simp only [List.getD_eq_getElem?_getD, List.getElem?_map, hlt, List.getElem?_eq_getElem, Option.map_some, Option.getD_some] at hi ⊢
        unfold chgOf at hi
        split at hi
        · rename_i f args hf; rw [hf]; rfl
        · exact hi
      · rw [List.getD_eq_getElem?_getD, List.getElem?_eq_none (by simpa using hlt)] at hi
        simp at hi
    | false =>
      simp only [resC, Option.map_eq_some_iff] at he
      obtain ⟨l, hl, rfl⟩ := he
      exact wp_region_list (ops_sound ops.toList l hl φ I s H a w (.refl ..) hR h)
  | seq x y ihx ihy =>
    intro ec he Q φ I s H a w hR h
    simp only [resC] at he
    split at he
    · rename_i ex ey hx hy
      simp only [Option.some.injEq] at he; subst he
      refine wp_seq (wp_mono (ihx ex hx _ φ I s H a w hR h) fun e a' w' hp => ?_)
      refine thenA_post (fun φ' I' s' H' a' w' h1 h2 h3 => ?_) (fun e a' w' _ hp => hp) hp
      exact wp_mono (ihy ey hy Q φ' I' s' H' a' w' h2 h3) fun e a'' w'' hp => hp.trans h1
    · simp at he
  | cond c x y ihx ihy =>
    intro ec he Q φ I s H a w hR h
    simp only [resC] at he
    split at he
    · rename_i z ex ey hz hx hy
      simp only [Option.some.injEq] at he; subst he
      have rc := rv_opd hR hz
      simp only [wpc] at h
      split at h
      case h_2 => exact h.elim
      rename_i t ht
      rw [ht] at rc
      generalize hva : a.eval c = vc at rc
      cases rc
      refine wp_cond hva ?_
      cases t with
      | true => exact ihx ex hx Q φ I s H a w hR (by simpa using h)
      | false => exact ihy ey hy Q φ I s H a w hR (by simpa using h)
    · simp at he
  | block id c ih =>
    intro ec he Q φ I s H a w hR h
    simp only [resC, Option.map_eq_some_iff] at he
    obtain ⟨x, hx, rfl⟩ := he
    refine wp_block (wp_mono (ih x hx _ φ I s H a w hR h) fun e a' w' hp => ?_)
    obtain ⟨φ', I', s', H', y, h1, h2, h3, h4⟩ := hp
    cases h3 with
    | normal => exact ⟨φ', I', s', H', _, h1, h2, .normal, h4⟩
    | exit id' =>
      simp only [Exit.inBlock]
      simp only [inBlockA] at h4
      split
      · rename_i e; rw [if_pos e] at h4; exact ⟨φ', I', s', H', _, h1, h2, .normal, h4⟩
      · rename_i e; rw [if_neg e] at h4; exact ⟨φ', I', s', H', _, h1, h2, .exit id', h4⟩
    | goto l => exact ⟨φ', I', s', H', _, h1, h2, .goto l, h4⟩
    | ret => exact ⟨φ', I', s', H', _, h1, h2, .ret, h4⟩
    | panic x v hv => exact ⟨φ', I', s', H', _, h1, h2, .panic x v hv, h4⟩
  | loop c ih =>
    intro ec he Q φ I s H a w hR h
    simp only [resC, Option.map_eq_some_iff] at he
    obtain ⟨x, hx, rfl⟩ := he
    obtain ⟨Inv, m0, s0, hs0, h0, hround⟩ := h
    have hR0 : Rel γ n φ I s0 H a w := ⟨hR.sz, fun t => by
      rcases hs0 t with e | e
      · rw [e]; exact .undef _
      · rw [e]; exact hR.slots t, hR.heap, hR.defers⟩
    refine wp_loop_ghost (fun m a' w' => ∃ φ' I' s' H', Evo φ I H w φ' I' H' w' ∧ Rel γ n φ' I' s' H' a' w' ∧ Inv m s' H') m0 ⟨φ, I, s0, H, .refl .., hR0, h0⟩ ?_
    rintro m a' w' ⟨φ', I', s', H', h1, h2, h3⟩
    refine wp_mono (ih x hx _ φ' I' s' H' a' w' h2 (hround m s' H' h3)) fun e a'' w'' hp => ?_
    refine thenA_post (fun φ2 I2 s2 H2 a2 w2 g1 g2 g3 => ?_) (fun e a3 w3 _ hp => hp.trans h1) hp
    obtain ⟨m1, s3, L, k1, k2, k3, k4⟩ := g3
    exact ⟨m1, k1, φ2, I2, s3, H2.take L, (h1.trans g1).take k2, g2.forget k3, k4⟩
  | exit id =>
    intro ec he Q φ I s H a w hR h
    simp only [resC, Option.some.injEq] at he; subst he
    exact wp_exit ⟨φ, I, s, H, .exit id, .refl .., hR, .exit id, h⟩
  | ret =>
    intro ec he Q φ I s H a w hR h
    simp only [resC, Option.some.injEq] at he; subst he
    exact wp_ret ⟨φ, I, s, H, .ret, .refl .., hR, .ret, h⟩
  | _ => intro ec he; simp [resC] at he

end
end Abs
