/- Rules for walking code over the abstract state. -/
import Derived.Test.YtihgbhkpjehhcaaAbs14
namespace Abs
open Go

section
variable {P : Program} {γ : Nat → EV} {Q : AX → Slots → Heap → Prop} {s : Slots} {H H' : Heap} {v : EV} {rest : List EOper} {op : EOp}

/-- Slots that are told; all others are let go of. -/
def mkS : List (Nat × EV) → Slots
  | [], _ => .undef
  | (d, v) :: l, t => if t = d then v else mkS l t

def EOp.quiet : EOp → Bool
  | .call _ _ => false
  | .panic _ => false
  | _ => true

theorem wops_step {d : Nat} (hev : evOp (ev γ s) H op = some (v, H')) (h : wops P γ Q rest (upd s d v) H') : wops P γ Q ({ dst := some d, op := op } :: rest) s H :=
  wop_of hev h

theorem wops_do (hev : evOp (ev γ s) H op = some (v, H')) (h : wops P γ Q rest s H') : wops P γ Q ({ dst := none, op := op } :: rest) s H :=
  wop_of hev h

theorem wops_call {d : Nat} {f : EOpd} {args : List EOpd} {g : FuncId} {first cap as : List EV} (hf : ev γ s f = .func (.func g) first cap) (ha : args.map (ev γ s) = as) {R : ER → Heap → Prop}
    (hc : CallsA P γ g (first ++ as ++ cap) H R) (h : ∀ er H', R er H' → match er with | .ret r => wops P γ Q rest (upd s d r) H' | .pan v => Q (.panic v) s H') :
    wops P γ Q ({ dst := some d, op := .call f args } :: rest) s H := by
  subst ha
  show wop P γ _ _ H (.call f args) _
  unfold wop
  simp only [hf]
  exact ⟨R, hc, h⟩

/-- .. with one answer. -/
theorem wops_call1 {d : Nat} {f : EOpd} {args : List EOpd} {g : FuncId} {first cap as : List EV} (hf : ev γ s f = .func (.func g) first cap) (ha : args.map (ev γ s) = as)
    (hc : CallsA P γ g (first ++ as ++ cap) H fun er H1 => er = .ret v ∧ H1 = H') (h : wops P γ Q rest (upd s d v) H') :
    wops P γ Q ({ dst := some d, op := .call f args } :: rest) s H :=
  wops_call hf ha hc fun er H1 he => by obtain ⟨rfl, rfl⟩ := he; exact h

theorem wops_nil (h : Q .normal s H) : wops P γ Q [] s H := h

theorem wpc_ops {l : List EOper} (h : wops P γ Q l s H) : wpc P γ (.ops l) Q s H := h
theorem wpc_skip (h : Q .normal s H) : wpc P γ .skip Q s H := h
theorem wpc_seq {a b : EC} (h : wpc P γ a (thenA (fun s' H' => wpc P γ b Q s' H') Q) s H) : wpc P γ (.seq a b) Q s H := h
theorem wpc_block {id : Nat} {c : EC} (h : wpc P γ c (inBlockA id Q) s H) : wpc P γ (.block id c) Q s H := h
theorem wpc_exit {id : Nat} (h : Q (.exit id) s H) : wpc P γ (.exit id) Q s H := h
theorem wpc_ret (h : Q .ret s H) : wpc P γ .ret Q s H := h
theorem wpc_cond {c : EOpd} {a b : EC} {t : Bool} (hc : ev γ s c = .bool t) (h1 : t = true → wpc P γ a Q s H) (h2 : t = false → wpc P γ b Q s H) : wpc P γ (.cond c a b) Q s H := by
  simp only [wpc, hc]
  cases t
  · simpa using h2 rfl
  · simpa using h1 rfl

theorem mkS_or (s : Slots) : ∀ (l : List (Nat × EV)), (∀ p ∈ l, s p.1 = p.2) → ∀ t, mkS l t = .undef ∨ mkS l t = s t
  | [], _, _ => .inl rfl
  | p :: l, h, t => by
    simp only [mkS]
    split
    · rename_i e; subst e; exact .inr (h p (by simp)).symm
    · exact mkS_or s l (fun q hq => h q (by simp [hq])) t

/-- A weaker goal behind. -/
theorem wops_mono {Q Q' : AX → Slots → Heap → Prop} (hq : ∀ x s H, Q x s H → Q' x s H) : ∀ {l : List EOper} {s : Slots} {H : Heap}, wops P γ Q l s H → wops P γ Q' l s H
  | [], s, H, h => hq _ _ _ h
  | o :: l, s, H, h => by
    have step : ∀ {K K' : EV → Heap → Prop} (_ : ∀ v H, K v H → K' v H) {op : EOp}, wop P γ (fun v H' => Q (.panic v) s H') (ev γ s) H op K → wop P γ (fun v H' => Q' (.panic v) s H') (ev γ s) H op K' := by
      intro K K' hk op h
      unfold wop at h ⊢
      split
      · simp only at h
        split
        · rename_i g first cap hf
          rw [hf] at h
          obtain ⟨R, h1, h2⟩ := h
          refine ⟨R, h1, fun er H' hr => ?_⟩
          have := h2 er H' hr
          cases er with
          | ret r => exact hk _ _ this
          | pan v => exact hq _ _ _ this
        · rename_i hne
          split at h
          · rename_i g first cap hf; exact absurd hf (hne g first cap)
          · exact h.elim
      · simp only at h
        split
        · rename_i t v hx
          rw [hx] at h
          exact hq _ _ _ h
        · rename_i hne
          split at h
          · rename_i t v hx; exact absurd hx (hne t v)
          · exact h.elim
      · rename_i h1 h2
        split
        · rename_i v H' hev
          cases op <;> first | exact absurd rfl (h1 _ _) | exact absurd rfl (h2 _) | (simp only [hev] at h; exact hk _ _ h)
        · rename_i hev
          cases op <;> first | exact absurd rfl (h1 _ _) | exact absurd rfl (h2 _) | (simp only [hev] at h)
    simp only [wops] at h ⊢
    split
    · rename_i hg
      rw [hg] at h
      exact step (fun v H h => wops_mono hq h) h
    · rename_i d b hg
      rw [hg] at h
      simp only at h
      split
      · rename_i t ht
        rw [ht] at h
        simp only at h
        split
        · rename_i e; rw [if_pos e] at h; exact step (fun v H h => wops_mono hq h) h
        · rename_i e; rw [if_neg e] at h; exact wops_mono hq h
      · rename_i ht
        rw [ht] at h
        exact wops_mono hq h
      · rename_i hne hng
        split at h
        · rename_i t ht; exact absurd ht (hne t)
        · rename_i ht; exact absurd ht hng
        · exact h.elim

theorem wdr_mono {Q Q' : AX → Slots → Heap → Prop} (hq : ∀ x s H, Q x s H → Q' x s H) : ∀ {l : List (EOper × Bool)} {s : Slots} {H : Heap}, wdr P γ Q l s H → wdr P γ Q' l s H
  | [], _, _, h => hq _ _ _ h
  | _ :: _, _, _, ⟨v, H', h1, h2, h3⟩ => ⟨v, H', h1, h2, wdr_mono hq h3⟩

theorem thenA_mono {next next' : Slots → Heap → Prop} {Q Q' : AX → Slots → Heap → Prop} (hn : ∀ s H, next s H → next' s H) (hq : ∀ x s H, Q x s H → Q' x s H) : ∀ x s H, thenA next Q x s H → thenA next' Q' x s H := by
  intro x s H h
  cases x <;> first | exact hn _ _ h | exact hq _ _ _ h

theorem wpc_mono : ∀ {c : EC} {Q Q' : AX → Slots → Heap → Prop} {s : Slots} {H : Heap}, (∀ x s H, Q x s H → Q' x s H) → wpc P γ c Q s H → wpc P γ c Q' s H
  | .skip, _, _, _, _, hq, h => hq _ _ _ h
  | .ops _, _, _, _, _, hq, h => wops_mono hq h
  | .draw _, _, _, _, _, hq, h => wdr_mono hq h
  | .seq a b, _, _, _, _, hq, h => wpc_mono (c := a) (thenA_mono (fun _ _ h => wpc_mono (c := b) hq h) hq) h
  | .cond c a b, _, _, s, H, hq, h => by
    simp only [wpc] at h ⊢
    split
    · rename_i t ht
      rw [ht] at h
      simp only at h
      split
      · rename_i e; rw [if_pos e] at h; exact wpc_mono (c := a) hq h
      · rename_i e; rw [if_neg e] at h; exact wpc_mono (c := b) hq h
    · rename_i hne
      split at h
      · rename_i t ht; exact absurd ht (hne t)
      · exact h.elim
  | .block id c, _, _, _, _, hq, h => wpc_mono (c := c) (fun x s H h => by
      cases x <;> first
        | exact hq _ _ _ h
        | (simp only [inBlockA] at h ⊢
           split
           · rename_i e; rw [if_pos e] at h; exact hq _ _ _ h
           · rename_i e; rw [if_neg e] at h; exact hq _ _ _ h)) h
  | .loop c, _, _, _, _, hq, ⟨Inv, m0, s0, h1, h2, h3⟩ => ⟨Inv, m0, s0, h1, h2, fun m s' H' hi => wpc_mono (c := c) (thenA_mono (fun _ _ h => h) hq) (h3 m s' H' hi)⟩
  | .rangeFunc f p d c, Q, Q', s, _, hq, h => by
    simp only [wpc] at h ⊢
    obtain ⟨α, enc, g, cap, xs, Hs, J, h1, h2, h3, h4, h5, h6, h7, h8, h9⟩ := h
    refine ⟨α, enc, g, cap, xs, Hs, J, h1, h2, h3, h4, h5, h6, h7, fun pre x hl hj => wpc_mono (c := c) (fun X s' H' h => ?_) (h8 pre x hl hj), fun hj => hq _ _ _ (h9 hj)⟩
    cases X with
    | normal => exact h
    | ret => exact ⟨fun hw => hq _ _ _ (h.1 hw), h.2⟩
    | exit id => exact ⟨fun hw => hq _ _ _ (h.1 hw), h.2⟩
    | goto l => exact h
    | panic v => exact h
  | .exit _, _, _, _, _, hq, h => hq _ _ _ h
  | .ret, _, _, _, _, hq, h => hq _ _ _ h

/-- What a loop's round hands on. -/
def Hands (Inv : Nat → Slots → Heap → Prop) (m n0 : Nat) (s1 : Slots) (H1 : Heap) : Prop := ∃ m1 s2 L, m1 < m ∧ n0 ≤ L ∧ Forgets L s1 H1 s2 ∧ Inv m1 s2 (H1.take L)

/-- A loop: 'l' are the slots that are told at its head; the round's end and what stands behind the loop are behind names. -/
theorem wpc_loop {c : EC} (Inv : Nat → Slots → Heap → Prop) (m0 : Nat) (l : List (Nat × EV)) (hl : ∀ p ∈ l, s p.1 = p.2) (h0 : Inv m0 (mkS l) H)
    (h : ∀ m s' H', Inv m s' H' → ∀ (K : Slots → Heap → Prop) (Q' : AX → Slots → Heap → Prop), (∀ s1 H1, Hands Inv m H.length s1 H1 → K s1 H1) → (∀ x s1 H1, Q x s1 H1 → Q' x s1 H1) → wpc P γ c (thenA K Q') s' H') :
    wpc P γ (.loop c) Q s H :=
  ⟨Inv, m0, mkS l, mkS_or s l hl, h0, fun m s' H' hi => h m s' H' hi _ _ (fun _ _ h => h) (fun _ _ _ h => h)⟩

/-- One piece of code, then what stands behind it, behind a name. -/
theorem wpc_seq' {a b : EC} (h : ∀ (K : Slots → Heap → Prop), (∀ s1 H1, wpc P γ b Q s1 H1 → K s1 H1) → wpc P γ a (thenA K Q) s H) : wpc P γ (.seq a b) Q s H := h _ fun _ _ h => h

theorem then_normal {next : Slots → Heap → Prop} (h : next s H) : thenA next Q .normal s H := h
theorem then_exit {next : Slots → Heap → Prop} {id : Nat} (h : Q (.exit id) s H) : thenA next Q (.exit id) s H := h
theorem then_ret {next : Slots → Heap → Prop} (h : Q .ret s H) : thenA next Q .ret s H := h
theorem block_normal {id : Nat} (h : Q .normal s H) : inBlockA id Q .normal s H := h
theorem block_ret {id : Nat} (h : Q .ret s H) : inBlockA id Q .ret s H := h
theorem block_exit_same {id : Nat} (h : Q .normal s H) : inBlockA id Q (.exit id) s H := by simpa [inBlockA] using h
theorem block_exit_other {id id' : Nat} (hne : id' ≠ id) (h : Q (.exit id') s H) : inBlockA id Q (.exit id') s H := by simpa [inBlockA, hne] using h

theorem putA_some {d : Nat} : putA s (some d) v = upd s d v := rfl
theorem putA_none : putA s none v = s := rfl

theorem wpc_draw {l : List (EOper × Bool)} (h : wdr P γ Q l s H) : wpc P γ (.draw l) Q s H := h
theorem wdr_nil (h : Q .normal s H) : wdr P γ Q [] s H := h

theorem acts_of (hev : evOp (ev γ s) H op = some (v, H')) : Acts P γ s H op v H' := by
  unfold Acts
  split
  · simp [evOp] at hev
  · exact hev

theorem wdr_step {d : Option Nat} {c : Bool} {l : List (EOper × Bool)} (hev : evOp (ev γ s) H op = some (v, H')) (hc : c = false → H' = H) (h : wdr P γ Q l (putA s d v) H') : wdr P γ Q (({ dst := d, op := op }, c) :: l) s H :=
  ⟨v, H', acts_of hev, hc, h⟩

theorem wdr_call {d : Option Nat} {c : Bool} {f : EOpd} {args : List EOpd} {g : FuncId} {first cap as : List EV} {l : List (EOper × Bool)} (hf : ev γ s f = .func (.func g) first cap) (ha : args.map (ev γ s) = as)
    (hcall : CallsA P γ g (first ++ as ++ cap) H fun er H1 => er = .ret v ∧ H1 = H') (hc : c = false → H' = H) (h : wdr P γ Q l (putA s d v) H') :
    wdr P γ Q (({ dst := d, op := .call f args }, c) :: l) s H := by
  subst ha
  refine ⟨v, H', ?_, hc, h⟩
  show Acts P γ s H (.call f args) v H'
  unfold Acts
  simp only [hf]
  exact hcall

/-- What is handed on to a loop's head. -/
theorem forgets_mk {L : Nat} {s : Slots} {H : Heap} (l : List (Nat × EV)) (h1 : ∀ p ∈ l, s p.1 = p.2 ∧ p.2.ok L = true) (h2 : ∀ (b : Nat) (x : EB), b < L → H[b]? = some (some x) → x.ok L = true) :
    Forgets L s H (mkS l) := by
  refine ⟨fun t => ?_, h2⟩
  induction l with
  | nil => exact .inl rfl
  | cons p l ih =>
    simp only [mkS]
    split
    · rename_i e
      subst e
      have := h1 p (by simp)
      exact .inr ⟨this.1.symm, by rw [this.1]; exact this.2⟩
    · exact ih fun q hq => h1 q (by simp [hq])

/-- A function's body, resolved. -/
def Body (P : Program) (f : FuncId) (ec : EC) (rs : List ERes) (nt : Nat) : Prop :=
  ∃ (fn : Func) (c : Code) (own : List Nat), P.funcs[f]? = some fn ∧ fn.body = some c ∧ (fn.name == "runtime.NumGoroutine") = false ∧ resC P nt own c = some ec ∧ fn.results.toList.mapM (resRes P) = some rs ∧ fn.ntmps = nt

theorem Body.calls {f : FuncId} {ec : EC} {rs : List ERes} {nt : Nat} (hb : Body P f ec rs nt) {args : List EV} {R : ER → Heap → Prop} (ha : args.length ≤ nt)
    (h : OkH H → wpc P γ ec (bodyA H.length rs R) (slots0 args) H) : CallsA P γ f args H R := by
  obtain ⟨fn, c, own, h1, h2, h3, h4, h5, rfl⟩ := hb
  exact callsA_of_body h1 h2 h3 h4 h5 ha h


/-- The end of a round that keeps the heap's length. -/
theorem round_end {Inv : Nat → Slots → Heap → Prop} {m n0 : Nat} (m1 : Nat) (l : List (Nat × EV)) (L : Nat) (hm : m1 < m) (hL : n0 ≤ L) (h1 : ∀ p ∈ l, s p.1 = p.2 ∧ p.2.ok L = true)
    (h2 : ∀ (b : Nat) (x : EB), b < L → H[b]? = some (some x) → x.ok L = true) (h : Inv m1 (mkS l) (H.take L)) : Hands Inv m n0 s H :=
  ⟨m1, mkS l, L, hm, hL, forgets_mk l h1 h2, h⟩

/-- The end of a call that leaves the heap as it was. -/
theorem end_same {rs : List ERes} {r : EV} {R : ER → Heap → Prop} (hok : OkH H) (hr : evResults s H rs = some r) (ho : r.ok H.length = true) (h : R (.ret r) H) : bodyA H.length rs R .ret s H :=
  ⟨r, r, hr, .same _ ho, fun b x _ hx => hok b x hx, by rwa [List.take_of_length_le (Nat.le_refl _)]⟩

/-- .. that has made blocks. -/
theorem end_drop {G : Heap} {rs : List ERes} {r : EV} {R : ER → Heap → Prop} (hok : OkH H) (hr : evResults s (H ++ G) rs = some r) (ho : r.ok H.length = true) (h : R (.ret r) H) : bodyA H.length rs R .ret s (H ++ G) :=
  ⟨r, r, hr, .same _ ho, fun b x hb hx => hok b x (by rwa [List.getElem?_append_left hb] at hx), by rwa [List.take_left]⟩

/-- .. that was handed no blocks. -/
theorem end_pure {rs : List ERes} {r r' : EV} {R : ER → Heap → Prop} (hr : evResults s H rs = some r) (ho : FZ 0 H r r') (h : R (.ret r') []) : bodyA 0 rs R .ret s H :=
  ⟨r, r', hr, ho, fun b x hb _ => absurd hb (Nat.not_lt_zero b), by rwa [List.take_zero]⟩

end
end Abs

namespace Abs
open Go

theorem wrap_i64 {x : Int} (h1 : -9223372036854775808 ≤ x) (h2 : x ≤ 9223372036854775807) : IntKind.i64.wrap x = x := by
  unfold IntKind.wrap
  simp only [IntKind.bits, IntKind.signed, Bool.true_and, Nat.reduceSub, Int.reducePow]
  split
  · rename_i h; have := of_decide_eq_true h; omega
  · rename_i h
    have : ¬ (x % 18446744073709551616 ≥ 9223372036854775808) := fun g => h (decide_eq_true g)
    omega

theorem wrap_u64 {x : Int} (h1 : 0 ≤ x) (h2 : x < 18446744073709551616) : IntKind.u64.wrap x = x := by
  unfold IntKind.wrap
  simp only [IntKind.bits, IntKind.signed, Bool.false_and, Bool.false_eq_true, if_false, Int.reducePow]
  omega

theorem wrap_u8 {x : Int} (h1 : 0 ≤ x) (h2 : x < 256) : IntKind.u8.wrap x = x := by
  unfold IntKind.wrap
  simp only [IntKind.bits, IntKind.signed, Bool.false_and, Bool.false_eq_true, if_false, Int.reducePow]
  omega

theorem ofInt_nat {a : Nat} : BitVec.ofInt 64 (a : Int) = BitVec.ofNat 64 a := by
  apply BitVec.eq_of_toInt_eq
  simp

theorem bits_and {a b : Nat} (ha : a < 18446744073709551616) (hb : b < 18446744073709551616) : bitsOp .and .u64 a b = ((a &&& b : Nat) : Int) := by
  have h := Nat.and_lt_two_pow a (n := 64) hb
  have e : (BitVec.ofInt 64 (a : Int) &&& BitVec.ofInt 64 (b : Int)).toNat = a &&& b := by
    rw [ofInt_nat, ofInt_nat, BitVec.toNat_and, BitVec.toNat_ofNat, BitVec.toNat_ofNat, Nat.mod_eq_of_lt ha, Nat.mod_eq_of_lt hb]
  show IntKind.u64.wrap (((BitVec.ofInt 64 (a : Int) &&& BitVec.ofInt 64 (b : Int)).toNat : Nat) : Int) = _
  rw [e, wrap_u64 (by omega) (by omega)]

theorem bits_or {a b : Nat} (ha : a < 18446744073709551616) (hb : b < 18446744073709551616) : bitsOp .or .u64 a b = ((a ||| b : Nat) : Int) := by
  have h := Nat.or_lt_two_pow (n := 64) ha hb
  have e : (BitVec.ofInt 64 (a : Int) ||| BitVec.ofInt 64 (b : Int)).toNat = a ||| b := by
    rw [ofInt_nat, ofInt_nat, BitVec.toNat_or, BitVec.toNat_ofNat, BitVec.toNat_ofNat, Nat.mod_eq_of_lt ha, Nat.mod_eq_of_lt hb]
  show IntKind.u64.wrap (((BitVec.ofInt 64 (a : Int) ||| BitVec.ofInt 64 (b : Int)).toNat : Nat) : Int) = _
  rw [e, wrap_u64 (by omega) (by omega)]

theorem bits_andnot {a b : Nat} (ha : a < 18446744073709551616) (hb : b < 18446744073709551616) : bitsOp .andNot .u64 a b = ((a &&& (18446744073709551615 - b) : Nat) : Int) := by
  have h := Nat.and_lt_two_pow a (n := 64) (show 18446744073709551615 - b < 2 ^ 64 by omega)
  have e : (BitVec.ofInt 64 (a : Int) &&& ~~~ BitVec.ofInt 64 (b : Int)).toNat = a &&& (18446744073709551615 - b) := by
    rw [ofInt_nat, ofInt_nat, BitVec.toNat_and, BitVec.toNat_not, BitVec.toNat_ofNat, BitVec.toNat_ofNat, Nat.mod_eq_of_lt ha, Nat.mod_eq_of_lt hb]
  show IntKind.u64.wrap (((BitVec.ofInt 64 (a : Int) &&& ~~~ BitVec.ofInt 64 (b : Int)).toNat : Nat) : Int) = _
  rw [e, wrap_u64 (by omega) (by omega)]

theorem ite_cast {p : Prop} [Decidable p] {a b : Nat} : (if p then ((a : Nat) : Int) else ((b : Nat) : Int)) = ((if p then a else b : Nat) : Int) := by split <;> rfl

theorem tdiv_lit (b n : Nat) : ((b : Nat) : Int).tdiv (no_index (OfNat.ofNat n)) = ((b / (OfNat.ofNat n) : Nat) : Int) := rfl
theorem tmod_lit (b n : Nat) : ((b : Nat) : Int).tmod (no_index (OfNat.ofNat n)) = ((b % (OfNat.ofNat n) : Nat) : Int) := rfl
theorem add_lit (b n : Nat) : ((b : Nat) : Int) + (no_index (OfNat.ofNat n)) = ((b + (OfNat.ofNat n) : Nat) : Int) := rfl

theorem shl_one {m : Nat} (h : m < 64) : IntKind.u64.wrap (1 * 2 ^ (min m IntKind.u64.bits)) = ((2 ^ m : Nat) : Int) := by
  have h1 : min m IntKind.u64.bits = m := by show min m 64 = m; omega
  have h2 : (2 : Nat) ^ m ≤ 2 ^ 63 := Nat.pow_le_pow_right (by decide) (by omega)
  have h3 : ((2 : Int) ^ m) = ((2 ^ m : Nat) : Int) := by simp
  rw [h1, Int.one_mul, h3]
  generalize 2 ^ m = z at *
  exact wrap_u64 (by omega) (by omega)

end Abs

namespace Abs
open Go

def tab (n : Nat) (f : Nat → EV) : List EV := (List.range n).map f
def put (f : Nat → EV) (k : Nat) (v : EV) : Nat → EV := fun i => if i = k then v else f i

section
variable {n k : Nat} {κ : IntKind} {f g : Nat → EV} {v x : EV} {l : List EV}

theorem put_self : put f k v k = v := by simp [put]
theorem put_other {i : Nat} (h : i ≠ k) : put f k v i = f i := by simp [put, h]

theorem tab_len : (tab n f).length = n := by simp [tab]
theorem tab_get (h : k < n) : (tab n f)[k]? = some (f k) := by simp [tab, h]
theorem tab_congr (h : ∀ i, i < n → f i = g i) : tab n f = tab n g := List.map_congr_left fun i hi => h i (by simpa using hi)
theorem tab_pick (h : k < n) : ((tab n f).drop k).take 1 = [f k] := by
  rw [List.drop_eq_getElem_cons (by rw [tab_len]; exact h)]
  simp [tab]
theorem tab_pick_app (h : k < n) : ((tab n f ++ l).drop k).take 1 = [f k] := by
  rw [List.drop_append_of_le_length (by rw [tab_len]; omega), List.drop_eq_getElem_cons (by rw [tab_len]; exact h)]
  simp [tab]
theorem tab_put (h : k < n) : (tab n f).take k ++ (v :: (tab n f).drop (k + 1)) = tab n (put f k v) := by
  refine List.ext_getElem? fun i => ?_
  have e := splice_get (tab n f) [v] k (by simp [tab_len]; omega) i
  simp only [List.append_assoc, List.singleton_append, List.length_singleton] at e
  rw [e]
  by_cases hi : i < n
  · rw [tab_get hi, tab_get hi]
    by_cases a : i < k
    · rw [if_pos a, put_other (by omega)]
    · rw [if_neg a]
      by_cases b : i < k + 1
      · obtain rfl : i = k := by omega
        rw [if_pos b, put_self]; simp
      · rw [if_neg b, put_other (by omega)]
  · have a1 : (tab n f)[i]? = none := List.getElem?_eq_none (by rw [tab_len]; omega)
    have a2 : (tab n (put f k v))[i]? = none := List.getElem?_eq_none (by rw [tab_len]; omega)
    rw [if_neg (by omega), if_neg (by omega), a1, a2]
theorem tab_put_app (h : k < n) : (tab n f ++ l).take k ++ (v :: (tab n f ++ l).drop (k + 1)) = tab n (put f k v) ++ l := by
  rw [List.take_append_of_le_length (by rw [tab_len]; omega), List.drop_append_of_le_length (by rw [tab_len]; omega), ← List.cons_append, ← List.append_assoc, tab_put h]
theorem tab_take_self : (tab n f ++ l).take n = tab n f := by
  rw [List.take_append_of_le_length (by rw [tab_len]; omega), List.take_of_length_le (by rw [tab_len]; omega)]
theorem tab_take_all (h : n ≤ k) : (tab n f).take k = tab n f := List.take_of_length_le (by rw [tab_len]; exact h)
theorem tab_take_one (h : n + 1 ≤ k) : (tab n f ++ [x]).take k = tab n f ++ [x] := List.take_of_length_le (by simp [tab_len]; omega)
theorem tab_drop_app (h : n ≤ k) : (tab n f ++ l).drop k = l.drop (k - n) := by
  rw [List.drop_append, List.drop_of_length_le (by rw [tab_len]; exact h), tab_len, List.nil_append]
theorem tab_drop_all (h : n ≤ k) : (tab n f).drop k = [] := List.drop_of_length_le (by rw [tab_len]; exact h)

theorem tab_one_int {κ : IntKind} {w : Nat → Int} : (tab n fun i => .int κ (w i)).all EV.one = true := by
  rw [List.all_eq_true]
  intro x hx
  simp only [tab, List.mem_map] at hx
  obtain ⟨i, _, rfl⟩ := hx
  rfl
theorem tab_one_bool {w : Nat → Bool} : (tab n fun i => .bool (w i)).all EV.one = true := by
  rw [List.all_eq_true]
  intro x hx
  simp only [tab, List.mem_map] at hx
  obtain ⟨i, _, rfl⟩ := hx
  rfl
theorem put_int {κ : IntKind} {w : Nat → Int} {a : Int} : put (fun i => .int κ (w i)) k (.int κ a) = fun i => .int κ (if i = k then a else w i) := by
  funext i
  unfold put
  split <;> rfl
theorem put_bool {w : Nat → Bool} {a : Bool} : put (fun i => .bool (w i)) k (.bool a) = fun i => .bool (if i = k then a else w i) := by
  funext i
  unfold put
  split <;> rfl

theorem tab_rep {a : EV} : List.replicate n a = tab n fun _ => a := by
  refine List.ext_getElem? fun i => ?_
  by_cases h : i < n
  · rw [tab_get h]; simp [h]
  · rw [List.getElem?_eq_none (by simp; omega), List.getElem?_eq_none (by rw [tab_len]; omega)]
theorem tab_four {a : EV} : [a, a, a, a] = tab 4 fun _ => a := rfl

theorem tab_succ : tab (n + 1) f = tab n f ++ [f n] := by simp [tab, List.range_succ]

theorem sweep {a b : Nat → Nat} {i : Nat} : (fun j => EV.int κ ((if j = i then a i else if j < i then a j else b j : Nat) : Int)) = fun j => EV.int κ ((if j < i + 1 then a j else b j : Nat) : Int) := by
  funext j
  by_cases h1 : j = i
  · subst h1; simp
  · rw [if_neg h1]
    by_cases h2 : j < i
    · rw [if_pos h2, if_pos (by omega)]
    · rw [if_neg h2, if_neg (by omega)]

theorem tab_lt {a b : Nat → Nat} : (tab n fun i => EV.int κ ((if i < n then a i else b i : Nat) : Int)) = tab n fun i => EV.int κ ((a i : Nat) : Int) := tab_congr fun i hi => by rw [if_pos hi]

/-- Equality of tables of numbers. -/
theorem fits_rep {q : SK} {ks : List SK} : ∀ {n : Nat} {f : Nat → EV}, (∀ i, i < n → fit q (f i) = true) → fits ks l = true → fits (List.replicate n q ++ ks) (tab n f ++ l) = true := by
  intro n
  induction n generalizing ks l with
  | zero => intro f _ h; simpa [tab] using h
  | succ n ih =>
    intro f hf h
    rw [tab_succ, List.replicate_succ', List.append_assoc, List.append_assoc]
    exact ih (fun i hi => hf i (by omega)) (by simp [fits, hf n (by omega), h])
theorem fits_tab {q : SK} {f : Nat → EV} (h : ∀ i, i < n → fit q (f i) = true) : fits (List.replicate n q) (tab n f) = true := by
  have := fits_rep (ks := []) (l := []) h rfl
  simpa using this
theorem eqL_app {a b c d : List EV} (h : a.length = b.length) : eqL (a ++ c) (b ++ d) = (eqL a b && eqL c d) := by
  induction a generalizing b with
  | nil => cases b with
    | nil => simp [eqL]
    | cons y b => simp at h
  | cons x a ih => cases b with
    | nil => simp at h
    | cons y b => simp only [List.cons_append, eqL, ih (by simpa using h), Bool.and_assoc]
/-- Are the first n numbers of two rows alike? -/
def allEq (n : Nat) (u w : Nat → Int) : Bool := (List.range n).all fun i => u i == w i
theorem allEq_iff {u w : Nat → Int} : allEq n u w = true ↔ ∀ i, i < n → u i = w i := by
  simp [allEq, List.all_eq_true]
theorem eqL_tab {κ κ' : IntKind} {u w : Nat → Int} : ∀ {n : Nat}, eqL (tab n fun i => .int κ (u i)) (tab n fun i => .int κ' (w i)) = allEq n u w
  | 0 => by simp [tab, eqL, allEq]
  | n + 1 => by
    rw [tab_succ, tab_succ, eqL_app (by simp [tab_len]), eqL_tab]
    simp [eqL, sceq, allEq, List.range_succ, List.all_append]
theorem eqL_tab_app {κ κ' : IntKind} {u w : Nat → Int} {c d : List EV} : eqL ((tab n fun i => .int κ (u i)) ++ c) ((tab n fun i => .int κ' (w i)) ++ d) = (allEq n u w && eqL c d) := by
  rw [eqL_app (by simp [tab_len]), eqL_tab]
theorem fits_tab_int {κ : IntKind} {w : Nat → Int} : fits (List.replicate n (.i κ)) (tab n fun i => .int κ (w i)) = true := fits_tab fun _ _ => by simp [fit]
theorem fits_app {n : Nat} {q : SK} {ks : List SK} {f : Nat → EV} (hf : ∀ i, i < n → fit q (f i) = true) : fits (List.replicate n q ++ ks) (tab n f ++ l) = fits ks l := by
  induction n generalizing ks l with
  | zero => simp [tab]
  | succ n ih =>
    rw [tab_succ, List.replicate_succ', List.append_assoc, List.append_assoc, ih (fun i hi => hf i (by omega))]
    simp [fits, hf n (by omega)]
theorem fits_tab_int_app {κ : IntKind} {w : Nat → Int} {ks : List SK} : fits (List.replicate n (.i κ) ++ ks) ((tab n fun i => .int κ (w i)) ++ l) = fits ks l := fits_app fun _ _ => by simp [fit]
end

theorem evLen_str {s : List UInt8} : evLen true (.str s) = some s.length := rfl
theorem evLen_nil : evLen false .nilsl = some 0 := rfl
theorem evLen_imm {sz : Nat} {es : List EV} : evLen false (.imm sz es) = some es.length := rfl
theorem evLen_own {b sz off len : Nat} : evLen false (.own b sz off len) = some len := rfl
theorem evElem_own {sz b bs off len : Nat} {k : Int} : evElem sz k (.own b bs off len) = if sz = bs ∧ 0 ≤ k ∧ k < len then some (.ptr b bs (off + k.toNat) 0) else none := rfl
theorem evElem_imm {sz bs : Nat} {es : List EV} {k : Int} : evElem sz k (.imm bs es) = if sz = bs ∧ 0 ≤ k then (match es[k.toNat]? with | some e => some (.iptr e.cells 0) | none => none) else none := rfl

section
variable {H G : Heap} {i b : Nat} {x : Option EB}
theorem app_get : (H ++ G)[H.length + i]? = G[i]? := by rw [List.getElem?_append_right (by omega)]; congr 1; omega
theorem app_get0 : (H ++ G)[H.length]? = G[0]? := app_get (i := 0)
theorem app_set : (H ++ G).set (H.length + i) x = H ++ G.set i x := by rw [List.set_append_right _ _ (by omega)]; congr 2; omega
theorem app_set0 : (H ++ G).set H.length x = H ++ G.set 0 x := app_set (i := 0)
theorem app_old (h : H[b]? = some x) : (H ++ G)[b]? = some x := by rw [List.getElem?_append_left (List.getElem?_eq_some_iff.1 h).1, h]
end
end Abs
