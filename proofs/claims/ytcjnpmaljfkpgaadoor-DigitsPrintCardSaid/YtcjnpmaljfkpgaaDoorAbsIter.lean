/- Iterators: functions that call 'yield', and hold no memory of their own. -/
import Derived.Test.YtcjnpmaljfkpgaaDoorAbs15
namespace Abs
open Go

/-- Values that lead nowhere. -/
def flat : EV → Bool
  | .undef | .bool _ | .int _ _ | .str _ => true
  | .agg cs => cs.all isScal
  | .func (.yield _) [] [] => true
  | _ => false

theorem flat_rv {φ φ' : Nat → Nat} {N N' : Nat} {I I' : Nat → Prop} {w w' : World} {x : EV} {v : Value} (hf : flat x = true) (h : RV φ N I w x v) : RV φ' N' I' w' x v := by
  have sc : ∀ {x : EV} {v : Value}, isScal x = true → RV φ N I w x v → RV φ' N' I' w' x v := by
    intro x v hx h
    cases h <;> first | (simp [isScal] at hx; done) | exact .bool _ | exact .int _ _ | exact .str _
  cases h with
  | undef v => exact .undef v
  | bool b => exact .bool b
  | int k n => exact .int k n
  | str s => exact .str s
  | agg cs vs hl h =>
    simp only [flat, List.all_eq_true] at hf
    exact .agg cs vs hl fun k x v hx hv => sc (hf x (List.mem_of_getElem? hx)) (h k x v hx hv)
  | func f first cap vf vc h1 h2 h3 h4 =>
    cases f <;> cases first <;> cases cap <;> simp [flat] at hf
    exact .func _ [] [] vf vc h1 h2 (by simp) (by simp)
  | _ => simp [flat] at hf

section
variable {P : Program} {γ : Nat → EV} {n : Nat} {φ : Nat → Nat} {I : Nat → Prop} {α : Type} {enc : α → EV} {xs : List α} {l m : Nat} {J Jx : List α → World → Prop} {W0 : World}

/-- The state: so many were yielded; 'st': it was told to stop. -/
structure RelY (γ : Nat → EV) (n : Nat) (φ : Nat → Nat) (I : Nat → Prop) (xs : List α) (J Jx : List α → World → Prop) (W0 : World) (k : Nat) (st : Bool) (s : Slots) (a : Act) (W : World) : Prop where
  sz : a.tmps.size = n
  defers : a.defers = []
  le : k ≤ xs.length
  slots : ∀ t, RV φ 0 (fun B => I B ∧ st = false) W (s t) (a.tmps.getD t Go.undef)
  heap : RH (fun g => if st then .undef else γ g) φ (fun B => I B ∧ st = false) [] W
  inv : if st then Jx (xs.take k) W else J (xs.take k) W

abbrev gY (γ : Nat → EV) (st : Bool) : Nat → EV := fun g => if st then .undef else γ g

def YQ := AX → Slots → Nat → Bool → Prop

def wopY (P : Program) (γ : Nat → EV) (enc : α → EV) (xs : List α) (l : Nat) (s : Slots) (k : Nat) (st : Bool) (op : EOp) (K : EV → Nat → Bool → Prop) : Prop :=
  match op with
  | .call f args =>
    match ev (gY γ st) s f with
    | .func (.yield l') [] [] => l' = l ∧ st = false ∧ ∃ x, xs[k]? = some x ∧ args.map (ev (gY γ st) s) = [enc x] ∧ K (.bool true) (k + 1) false ∧ K (.bool false) (k + 1) true
    | .func (.func g) first cap => ∃ v, CallsA P (gY γ st) g (first ++ args.map (ev (gY γ st) s) ++ cap) [] (fun er H' => er = .ret v ∧ H' = []) ∧ flat v = true ∧ K v k st
    | _ => False
  | .panic _ => False
  | op =>
    match evOp (ev (gY γ st) s) [] op with
    | some (v, []) => flat v = true ∧ K v k st
    | _ => False

def wopsY (P : Program) (γ : Nat → EV) (enc : α → EV) (xs : List α) (l : Nat) (Q : AX → Slots → Nat → Bool → Prop) : List EOper → Slots → Nat → Bool → Prop
  | [], s, k, st => Q .normal s k st
  | o :: rest, s, k, st => o.guard = none ∧ wopY P γ enc xs l s k st o.op fun v k' st' => wopsY P γ enc xs l Q rest (putA (if st' = st then s else fun _ => .undef) o.dst v) k' st'

def thenY (next : Slots → Nat → Bool → Prop) (Q : AX → Slots → Nat → Bool → Prop) : AX → Slots → Nat → Bool → Prop
  | .normal, s, k, st => next s k st
  | x, s, k, st => Q x s k st

def inBlockY (id : Nat) (Q : AX → Slots → Nat → Bool → Prop) : AX → Slots → Nat → Bool → Prop
  | .exit id', s, k, st => if id' = id then Q .normal s k st else Q (.exit id') s k st
  | x, s, k, st => Q x s k st

def wpY (P : Program) (γ : Nat → EV) (enc : α → EV) (xs : List α) (l : Nat) : EC → (AX → Slots → Nat → Bool → Prop) → Slots → Nat → Bool → Prop
  | .skip, Q, s, k, st => Q .normal s k st
  | .ops o, Q, s, k, st => wopsY P γ enc xs l Q o s k st
  | .seq a b, Q, s, k, st => wpY P γ enc xs l a (thenY (fun s' k' st' => wpY P γ enc xs l b Q s' k' st') Q) s k st
  | .cond c a b, Q, s, k, st =>
    match ev (gY γ st) s c with
    | .bool t => if t = true then wpY P γ enc xs l a Q s k st else wpY P γ enc xs l b Q s k st
    | _ => False
  | .block id c, Q, s, k, st => wpY P γ enc xs l c (inBlockY id Q) s k st
  | .loop c, Q, s, k, st => ∃ (Inv : Nat → Slots → Nat → Bool → Prop) (m0 : Nat) (s0 : Slots), (∀ t, s0 t = .undef ∨ s0 t = s t) ∧ Inv m0 s0 k st ∧ ∀ m s' k' st', Inv m s' k' st' →
      wpY P γ enc xs l c (thenY (fun s1 k1 st1 => ∃ m1 s2, m1 < m ∧ (∀ t, s2 t = .undef ∨ s2 t = s1 t) ∧ Inv m1 s2 k1 st1) Q) s' k' st'
  | .exit id, Q, s, k, st => Q (.exit id) s k st
  | .ret, Q, s, k, st => Q .ret s k st
  | _, _, _, _, _ => False

def PostY (γ : Nat → EV) (n : Nat) (φ : Nat → Nat) (I : Nat → Prop) (xs : List α) (J Jx : List α → World → Prop) (W0 : World) (Q : AX → Slots → Nat → Bool → Prop) (e : Exit) (a' : Act) (w' : World) : Prop :=
  ∃ s' k' st' x, RelY γ n φ I xs J Jx W0 k' st' s' a' w' ∧ Q x s' k' st' ∧ match x, e with
    | .normal, .normal => True
    | .ret, .ret => True
    | .exit id, .exit id' => id = id'
    | _, _ => False

theorem RelY.rel {k : Nat} {st : Bool} {s : Slots} {a : Act} {W : World} (h : RelY γ n φ I xs J Jx W0 k st s a W) : Rel (gY γ st) n 0 φ (fun B => I B ∧ st = false) s [] a W :=
  ⟨h.sz, h.slots, h.heap, by rw [h.defers]; exact .none (Nat.zero_le _)⟩

/-- A step that touches no memory. -/
theorem RelY.step (hJ : AbidesFrom W0.heap.size J) (hJx : AbidesFrom W0.heap.size Jx) {k : Nat} {st : Bool} {s : Slots} {a : Act} {W W' : World} (h : RelY γ n φ I xs J Jx W0 k st s a W) {φ' : Nat → Nat} {I' : Nat → Prop}
    (he : Evo φ (fun B => I B ∧ st = false) [] W φ' I' [] W') {dst : Option Nat} (hd : ∀ d, dst = some d → d < n) {v : EV} {val : Value} (hf : flat v = true) (hv : RV φ' 0 I' W' v val) : RelY γ n φ I xs J Jx W0 k st (putA s dst v) (a.put dst val) W' := by
  have all : ∀ B, B < W.heap.size → W'.heap[B]? = W.heap[B]? := fun B hB => he.keep B hB (by rintro ⟨b, x, hb, _⟩; simp at hb)
  have mono : ∀ {x : EV} {u : Value}, RV φ 0 (fun B => I B ∧ st = false) W x u → RV φ 0 (fun B => I B ∧ st = false) W' x u := fun g =>
    g.mono (Nat.le_refl _) (fun _ _ => rfl) (fun _ h => h) (fun B hB => all B (h.heap.imm B hB)) (fun _ hb => absurd hb (Nat.not_lt_zero _))
  have grown : W.grownBy W' none := ⟨he.os, he.tape, he.out, he.size, fun B hB _ => all B hB⟩
  refine ⟨?_, ?_, h.le, fun t => ?_, ⟨fun g => mono (h.heap.glob g), by simp, by simp, fun B hB => Nat.lt_of_lt_of_le (h.heap.imm B hB) he.size, by simp, by simp⟩, ?_⟩
  · cases dst <;> simp [Act.put, h.sz]
  · cases dst <;> exact h.defers
  · cases dst with
    | none => exact mono (h.slots t)
    | some d =>
      have hdn := hd d rfl
      simp only [putA, upd, Act.put]
      by_cases e : t = d
      · subst e
        rw [if_pos rfl]
        simp only [Array.getD_eq_getD_getElem?]
        simp [h.sz, hdn]
        exact flat_rv hf hv
      · rw [if_neg e]
        have := mono (h.slots t)
        simpa [Array.getElem?_setIfInBounds_ne (Ne.symm e)] using this
  · have := h.inv
    cases st
    · exact hJ _ _ _ none this grown (by simp)
    · exact hJx _ _ _ none this grown (by simp)

theorem scal_rv {N : Nat} {w : World} {x : EV} {v : Value} (hx : isScal x = true) (h : RV φ N I w x v) : v = scal x := by
  cases h <;> first | (simp [isScal] at hx; done) | rfl

theorem wopY_sound (hJ : AbidesFrom W0.heap.size J) (hJx : AbidesFrom W0.heap.size Jx) (hsc : ∀ x, isScal (enc x) = true)
    (hyield : ∀ pre x W1, J pre W1 → pre.length < xs.length → YieldAt (FR none) (m - 1) P l #[scal (enc x)] W1 fun e W' => (e = .returned (.bool true) ∧ J (pre ++ [x]) W' ∧ KpI I W1 W') ∨ (e = .returned (.bool false) ∧ Jx (pre ++ [x]) W'))
    {k : Nat} {st : Bool} {s : Slots} {a : Act} {W : World} (h : RelY γ n φ I xs J Jx W0 k st s a W) {o : Oper} {b : Bool} {eo : EOp} (hres : resOp P b o.op = some eo) (hd : ∀ d, o.dst = some d → d < n) {K : EV → Nat → Bool → Prop} (hw : wopY P γ enc xs l s k st eo K)
    {Kc : Act → World → Prop} {Qc : Exit → Act → World → Prop}
    (hK : ∀ v k' st' a' W', K v k' st' → RelY γ n φ I xs J Jx W0 k' st' (putA (if st' = st then s else fun _ => .undef) o.dst v) a' W' → Kc a' W') :
    o.wpIn (FR none) m P a W Kc Qc := by
  have plain : wop P (gY γ st) (fun _ _ => False) (ev (gY γ st) s) [] eo (fun v H' => flat v = true ∧ H' = [] ∧ K v k st) → o.wpIn (FR none) m P a W Kc Qc := by
    intro hp
    have h1 := wop_sound2 (Q := fun _ _ _ => False) h.rel hres hd hp
    refine opIn (fun c e => by rw [e] at hres; simp [resOp] at hres) ?_
    have h2 := op_post (Q' := Qc) (fun e a' w' hp => by obtain ⟨φ', I', s', H', x, _, _, _, hq⟩ := hp; exact hq.elim) h1
    refine Oper.wp_mono (fun a' w' hp => ?_) h2
    obtain ⟨φ', I', H', v, e1, e2, ⟨hf, rfl, hk⟩, val, rfl, hv⟩ := hp
    refine hK v k st _ w' hk ?_
    rw [if_pos rfl]
    exact h.step hJ hJx e1 hd hf hv
  unfold wopY at hw
  split at hw
  · rename_i f args
    split at hw
    · rename_i l' hf
      obtain ⟨rfl, rfl, x, hx, hargs, ht, hfl⟩ := hw
      obtain ⟨fo, ao, ats, ho, hfo, hao⟩ := res_call hres
      have rf := rv_opd h.rel hfo
      rw [hf] at rf
      generalize hva : a.eval fo = vf at rf
      cases rf with
      | func _ _ _ vfst vcap l1 l2 l3 l4 =>
      have hv0 : vfst = #[] := Array.eq_empty_of_size_eq_zero (by simpa using l1.symm)
      have hv1 : vcap = #[] := Array.eq_empty_of_size_eq_zero (by simpa using l2.symm)
      subst hv0 hv1
      obtain ⟨o1, o2⟩ := opds_sound h.rel hao
      rw [hargs] at o1 o2
      have hval : ao.map a.eval = #[scal (enc x)] := by
        have hs1 : (ao.map a.eval).size = 1 := o1.symm
        have e0 := o2 0 (enc x) (ao.map a.eval)[0] rfl (by simp [hs1])
        have := scal_rv (hsc x) e0
        apply Array.ext (by simpa using hs1)
        intro i h1 h2
        have : i = 0 := by simp at h2; omega
        subst this
        simpa using this
      have hkl := get_lt hx
      have hinv : J (xs.take k) W := by simpa using h.inv
      obtain ⟨fn, tmps, asg, body, hy, hround⟩ := hyield (xs.take k) x W hinv (by simp; omega)
      have htake : xs.take k ++ [x] = xs.take (k + 1) := by rw [List.take_add_one, hx]; rfl
      rw [htake] at hround
      refine ⟨fun _ _ => trivial, ?_⟩
      have hnd : ∀ c, o.op ≠ .defer c := fun c e => by rw [ho] at e; simp at e
      rw [Oper.semAt_eq _ _ _ hnd]
      have hrun : (execOp a.eval o).run P W = .ok (.round l' fn tmps asg body) W := by
        rw [call_op ho, hva, hval]
        simp [Deferred.ofValue, invoke, hy]
      rw [hrun, Oper.uponIn_round]
      refine ⟨FR_deep, RoundIn.mono hround fun e W' he => ?_⟩
      rcases he with ⟨rfl, hj, hkp⟩ | ⟨rfl, hjx⟩
      · refine hK (.bool true) (k + 1) false _ W' ht ?_
        rw [if_pos rfl]
        have hkp' : ∀ B, (I B ∧ false = false) → W'.heap[B]? = W.heap[B]? := fun B hB => hkp B hB.1
        have mono : ∀ {x : EV} {u : Value}, RV φ 0 (fun B => I B ∧ false = false) W x u → RV φ 0 (fun B => I B ∧ false = false) W' x u := fun g =>
          g.mono (Nat.le_refl _) (fun _ _ => rfl) (fun _ h => h) hkp' (fun _ hb => absurd hb (Nat.not_lt_zero _))
        refine ⟨?_, ?_, by omega, fun t => ?_, ⟨fun g => mono (h.heap.glob g), by simp, by simp, fun B hB => ?_, by simp, by simp⟩, by simpa using hj⟩
        · cases hdst : o.dst <;> simp [Act.put, h.sz]
        · cases hdst : o.dst <;> exact h.defers
        · cases hdst : o.dst with
          | none => exact mono (h.slots t)
          | some d =>
            have hdn := hd d hdst
            simp only [putA, upd, Act.put]
            by_cases e : t = d
            · subst e
              rw [if_pos rfl]
              simp only [Array.getD_eq_getD_getElem?]
              simp [h.sz, hdn]
              exact .bool _
            · rw [if_neg e]
              have := mono (h.slots t)
              simpa [Array.getElem?_setIfInBounds_ne (Ne.symm e)] using this
        · have h1 := h.heap.imm B hB
          have h2 := hkp' B hB
          rw [Array.getElem?_eq_getElem h1] at h2
          exact (Array.getElem?_eq_some_iff.1 h2).1
      · refine hK (.bool false) (k + 1) true _ W' hfl ?_
        rw [if_neg (by simp)]
        refine ⟨?_, ?_, by omega, fun t => ?_, ⟨fun g => .undef _, by simp, by simp, fun B hB => by simp at hB, by simp, by simp⟩, by simpa using hjx⟩
        · cases hdst : o.dst <;> simp [Act.put, h.sz]
        · cases hdst : o.dst <;> exact h.defers
        · have old : ∀ t, RV φ 0 (fun B => I B ∧ true = false) W' .undef (a.tmps.getD t Go.undef) := fun t => .undef _
          cases hdst : o.dst with
          | none => exact old t
          | some d =>
            have hdn := hd d hdst
            simp only [putA, upd, Act.put]
            by_cases e : t = d
            · subst e
              rw [if_pos rfl]
              simp only [Array.getD_eq_getD_getElem?]
              simp [h.sz, hdn]
              exact .bool _
            · rw [if_neg e]
              have := old t
              simpa [Array.getElem?_setIfInBounds_ne (Ne.symm e)] using this
    · rename_i g first cap hf
      obtain ⟨v, hc, hfv, hk⟩ := hw
      refine plain ?_
      unfold wop
      simp only
      rw [hf]
      exact ⟨_, hc, fun er H' he => by obtain ⟨rfl, rfl⟩ := he; exact ⟨hfv, rfl, hk⟩⟩
    · exact hw.elim
  · exact hw.elim
  · split at hw
    · rename_i v hev
      exact plain (wop_of hev ⟨hw.1, rfl, hw.2⟩)
    · exact hw.elim

theorem wopsY_sound (hJ : AbidesFrom W0.heap.size J) (hJx : AbidesFrom W0.heap.size Jx) (hsc : ∀ x, isScal (enc x) = true)
    (hyield : ∀ pre x W1, J pre W1 → pre.length < xs.length → YieldAt (FR none) (m - 1) P l #[scal (enc x)] W1 fun e W' => (e = .returned (.bool true) ∧ J (pre ++ [x]) W' ∧ KpI I W1 W') ∨ (e = .returned (.bool false) ∧ Jx (pre ++ [x]) W'))
    {own : List Nat} {ops : Array Oper} {Q : AX → Slots → Nat → Bool → Prop} : ∀ (ls : List Oper) (es : List EOper), ls.mapM (resOper P n own ops) = some es → ∀ (k : Nat) (st : Bool) (s : Slots) (a : Act) (W : World), RelY γ n φ I xs J Jx W0 k st s a W →
      wopsY P γ enc xs l Q es s k st → wpListIn (FR none) m P ops (PostY γ n φ I xs J Jx W0 Q) ls a W
  | [], es, he, k, st, s, a, W, hR, h => by
    simp at he; subst he
    exact ⟨s, k, st, .normal, hR, h, trivial⟩
  | o :: ls, es, he, k, st, s, a, W, hR, h => by
    simp only [List.mapM_cons, Option.pure_def, Option.bind_eq_bind, Option.bind_eq_some_iff, Option.some.injEq] at he
    obtain ⟨eo, heo, es', hes, rfl⟩ := he
    obtain ⟨⟨b, hres⟩, hdst, hd, hg⟩ := resOper_parts heo
    have IH := wopsY_sound hJ hJx hsc hyield (own := own) (ops := ops) (Q := Q) ls es' hes
    obtain ⟨hgn, hw⟩ := h
    have hog : o.guard = none := by
      cases ho : o.guard with
      | none => rfl
      | some p =>
        obtain ⟨j, bb⟩ := p
        rw [ho] at hg
        obtain ⟨d, _, _, hg⟩ := hg
        rw [hg] at hgn
        simp at hgn
    simp only [wpListIn]
    rw [if_pos (by simp [Region.wanted, hog])]
    exact wopY_sound hJ hJx hsc hyield hR hres hd hw fun v k' st' a' W' hk hR' => IH k' st' _ a' W' (by rw [← hdst] at hR'; exact hR') hk

theorem wpY_sound (hJ : AbidesFrom W0.heap.size J) (hJx : AbidesFrom W0.heap.size Jx) (hsc : ∀ x, isScal (enc x) = true)
    (hyield : ∀ pre x W1, J pre W1 → pre.length < xs.length → YieldAt (FR none) (m - 1) P l #[scal (enc x)] W1 fun e W' => (e = .returned (.bool true) ∧ J (pre ++ [x]) W' ∧ KpI I W1 W') ∨ (e = .returned (.bool false) ∧ Jx (pre ++ [x]) W'))
    {own : List Nat} : ∀ (c : Code) (ec : EC), resC P n own c = some ec → ∀ (Q : AX → Slots → Nat → Bool → Prop) (k : Nat) (st : Bool) (s : Slots) (a : Act) (W : World), RelY γ n φ I xs J Jx W0 k st s a W → wpY P γ enc xs l ec Q s k st →
      c.wpIn (FR none) m P (PostY γ n φ I xs J Jx W0 Q) a W := by
  intro c
  induction c with
  | skip =>
    intro ec he Q k st s a W hR h
    simp only [resC, Option.some.injEq] at he; subst he
    exact wpIn_skip ⟨s, k, st, .normal, hR, h, trivial⟩
  | region id ops draw =>
    intro ec he Q k st s a W hR h
    cases draw with
    | true =>
      simp only [resC] at he
      split at he
      · simp only [Option.some.injEq] at he; subst he
        exact h.elim
      · simp only [Option.map_eq_some_iff] at he
        obtain ⟨z, hz, rfl⟩ := he
        simp only [wpY] at h
    | false =>
      simp only [resC, Option.map_eq_some_iff] at he
      obtain ⟨es, hl, rfl⟩ := he
      exact wpIn_region_list (wopsY_sound hJ hJx hsc hyield ops.toList es hl k st s a W hR h)
  | seq x y ihx ihy =>
    intro ec he Q k st s a W hR h
    simp only [resC] at he
    split at he
    · rename_i ex ey hx hy
      simp only [Option.some.injEq] at he; subst he
      refine wpIn_seq (wpIn_mono (ihx ex hx _ k st s a W hR h) fun e a' W' hp => ?_)
      obtain ⟨s', k', st', X, h1, h2, h3⟩ := hp
      cases X <;> cases e <;> simp only at h3 <;> first
        | exact ihy ey hy Q k' st' s' a' W' h1 h2
        | exact ⟨s', k', st', _, h1, h2, h3⟩
    · simp at he
  | cond c x y ihx ihy =>
    intro ec he Q k st s a W hR h
    simp only [resC] at he
    split at he
    · rename_i z ex ey hz hx hy
      simp only [Option.some.injEq] at he; subst he
      have rc := rv_opd hR.rel hz
      simp only [wpY] at h
      split at h
      case h_2 => exact h.elim
      rename_i t ht
      rw [ht] at rc
      generalize hva : a.eval c = vc at rc
      cases rc
      refine wpIn_cond hva ?_
      cases t with
      | true => exact ihx ex hx Q k st s a W hR (by simpa using h)
      | false => exact ihy ey hy Q k st s a W hR (by simpa using h)
    · simp at he
  | block id c ih =>
    intro ec he Q k st s a W hR h
    simp only [resC, Option.map_eq_some_iff] at he
    obtain ⟨x, hx, rfl⟩ := he
    refine wpIn_block (wpIn_mono (ih x hx _ k st s a W hR h) fun e a' W' hp => ?_)
    obtain ⟨s', k', st', X, h1, h2, h3⟩ := hp
    cases X <;> cases e <;> simp only at h3
    · exact ⟨s', k', st', .normal, h1, h2, trivial⟩
    · subst h3
      simp only [Exit.inBlock]
      simp only [inBlockY] at h2
      split
      · rename_i e; rw [if_pos e] at h2; exact ⟨s', k', st', .normal, h1, h2, trivial⟩
      · rename_i e; rw [if_neg e] at h2; exact ⟨s', k', st', .exit _, h1, h2, rfl⟩
    · exact ⟨s', k', st', .ret, h1, h2, trivial⟩
  | loop c ih =>
    intro ec he Q k st s a W hR h
    simp only [resC, Option.map_eq_some_iff] at he
    obtain ⟨x, hx, rfl⟩ := he
    obtain ⟨Inv, m0, s0, hs0, h0, hround⟩ := h
    have weak : ∀ {k : Nat} {st : Bool} {s s0 : Slots} {a : Act} {W : World}, (∀ t, s0 t = .undef ∨ s0 t = s t) → RelY γ n φ I xs J Jx W0 k st s a W → RelY γ n φ I xs J Jx W0 k st s0 a W := fun hs hR =>
      ⟨hR.sz, hR.defers, hR.le, fun t => by
        rcases hs t with e | e
        · rw [e]; exact .undef _
        · rw [e]; exact hR.slots t, hR.heap, hR.inv⟩
    refine wpIn_loop_ghost (fun q a' W' => ∃ s' k' st', RelY γ n φ I xs J Jx W0 k' st' s' a' W' ∧ Inv q s' k' st') m0 ⟨s0, k, st, weak hs0 hR, h0⟩ ?_
    rintro q a' W' ⟨s', k', st', h1, h3⟩
    refine wpIn_mono (ih x hx _ k' st' s' a' W' h1 (hround q s' k' st' h3)) fun e a'' W'' hp => ?_
    obtain ⟨s2, k2, st2, X, g1, g2, g3⟩ := hp
    cases X <;> cases e <;> simp only at g3
    · obtain ⟨m1, s3, k1, k2', k3⟩ := g2
      exact ⟨m1, k1, s3, _, _, weak k2' g1, k3⟩
    · exact ⟨s2, k2, st2, .exit _, g1, g2, g3⟩
    · exact ⟨s2, k2, st2, .ret, g1, g2, trivial⟩
  | exit id =>
    intro ec he Q k st s a W hR h
    simp only [resC, Option.some.injEq] at he; subst he
    exact wpIn_exit ⟨s, k, st, .exit id, hR, h, rfl⟩
  | ret =>
    intro ec he Q k st s a W hR h
    simp only [resC, Option.some.injEq] at he; subst he
    exact wpIn_ret ⟨s, k, st, .ret, hR, h, trivial⟩
  | rangeFunc f ps asg c _ _ =>
    intro ec he Q k st s a W hR h
    simp only [resC] at he
    split at he
    · split at he
      · simp only [Option.some.injEq] at he; subst he
        exact h.elim
      · simp at he
    · simp at he
  | _ => intro ec he; simp [resC] at he

theorem iterA_of_body {g : FuncId} {fn : Func} {c : Code} {own : List Nat} {ec : EC} {cap : List EV} (hf : P.funcs[g]? = some fn) (hb : fn.body = some c) (hn : (fn.name == "runtime.NumGoroutine") = false) (hc : resC P fn.ntmps own c = some ec)
    (hrs : fn.results = #[]) (ha : cap.length + 1 ≤ fn.ntmps) (hsc : ∀ x, isScal (enc x) = true)
    (h : ∀ l, wpY P γ enc xs l ec (fun X _ k st => (X = .normal ∨ X = .ret) ∧ (st = false → k = xs.length)) (slots0 (.func (.yield l) [] [] :: cap)) 0 false) : IterA P γ g cap enc xs := by
  refine ⟨⟨fn, c, hf, hb, hn⟩, fun m φ I w lb hr hcap l J Jx W hbel hJ hJx hy h0 => callsIn_of_wp (F := FR none) hf hb trivial ?_⟩
  have hI : ∀ B, I B → W.heap[B]? = w.heap[B]? := fun B hB => hbel.block B (hr.imm B hB)
  have mono : ∀ {N : Nat} {x : EV} {u : Value}, RV φ 0 I w x u → RV φ 0 (fun B => I B ∧ false = false) W x u := fun g =>
    g.mono (Nat.le_refl _) (fun _ _ => rfl) (fun _ h => ⟨h, rfl⟩) hI (fun _ hb => absurd hb (Nat.not_lt_zero _))
  have hsz : (#[Value.func (.yield l) #[] #[]] ++ lb).size = cap.length + 1 := by
    have := hcap.1
    simp at this ⊢
    omega
  have hR : RelY γ fn.ntmps φ I xs J Jx W 0 false (slots0 (.func (.yield l) [] [] :: cap)) { tmps := (#[Value.func (.yield l) #[] #[]] ++ lb) ++ Array.replicate (fn.ntmps - (#[Value.func (.yield l) #[] #[]] ++ lb).size) Go.undef, defers := [] } W := by
    refine ⟨by simp only [Array.size_append, Array.size_replicate]; simp only [Array.size_append] at hsz; omega, rfl, Nat.zero_le _, fun t => ?_, ⟨fun g => mono (N := 0) (hr.glob g), by simp, by simp, fun B hB => Nat.lt_of_lt_of_le (hr.imm B hB.1) hbel.size, by simp, by simp⟩, by simpa using h0⟩
    simp only [slots0, Array.getD_eq_getD_getElem?]
    by_cases ht : t < cap.length + 1
    · rw [Array.getElem?_append_left (by rw [hsz]; exact ht)]
      cases t with
      | zero =>
        simp only [List.getElem?_cons_zero, Option.getD_some]
        rw [Array.getElem?_append_left (by simp)]
        exact .func _ [] [] #[] #[] rfl rfl (by simp) (by simp)
      | succ t =>
        rw [Array.getElem?_append_right (by simp)]
        simp only [List.getElem?_cons_succ, List.size_toArray, List.length_cons, List.length_nil, Nat.zero_add, Nat.add_sub_cancel]
        have h1 : t < cap.length := by omega
        have h2 : t < lb.size := by have := hcap.1; simp at this; omega
        have := hcap.2 t cap[t] lb[t] (by simp [h1]) (by simp [h2])
        simpa [h1, h2] using mono (N := 0) this
    · rw [List.getElem?_eq_none (by simp; omega)]
      exact .undef _
  refine wpIn_mono (wpY_sound hJ hJx hsc hy c ec hc _ 0 false _ _ W hR (h l)) fun e a' w' hp => ?_
  obtain ⟨s', k', st', X, h1, ⟨h2, h4⟩, h3⟩ := hp
  have hres : (results fn a'.tmps).run P w' = .ok (.tuple #[]) w' := by
    rw [results_eq, Array.mapM_eq_mapM_toList, hrs]
    simp
  have fin : a'.defers = [] ∧ ∃ v, (results fn a'.tmps).run P w' = .ok v w' ∧ (∃ v_1, Ending.returned v = .returned v_1) ∧ ((∃ xs_1, xs_1 = xs ∧ J xs_1 w') ∨ (∃ pre, pre <+: xs ∧ Jx pre w')) := by
    refine ⟨h1.defers, _, hres, ⟨_, rfl⟩, ?_⟩
    have hinv := h1.inv
    cases st' with
    | false =>
      have hk := h4 rfl
      subst hk
      refine .inl ⟨xs, rfl, ?_⟩
      simpa using hinv
    | true => exact .inr ⟨xs.take k', List.take_prefix _ _, by simpa using hinv⟩
  rcases h2 with rfl | rfl <;> cases e <;> simp only at h3
  · exact fin
  · exact fin
end
end Abs
