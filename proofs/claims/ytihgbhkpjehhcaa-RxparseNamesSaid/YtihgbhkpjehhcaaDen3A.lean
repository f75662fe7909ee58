/- What a run of resolved code says of the program. -/
import Derived.Test.YtihgbhkpjehhcaaDen2
namespace Abs
open Go
set_option linter.all false

section
variable {P : Program} {γ : Nat → EV} {n : Nat} {nb : NB} {φ φ0 : Nat → Nat} {I I0 : Nat → Prop} {s : Slots} {H H0 : Heap} {a : Act} {w w0 : World}

/-- What is known of calls. -/
def CallsOk (P : Program) (γ : Nat → EV) (call : FuncId → List EV → Heap → Res) : Prop :=
  ∀ g as H er H', call g as H = some (er, H') → CallsA P γ g as H fun e h => e = er ∧ h = H'

def Qis (r : Xsh) : AX → Slots → Heap → Prop := fun x s H => r = (x, s, H)

variable {call : FuncId → List EV → Heap → Res}

theorem opF_wop (hc : CallsOk P γ call) {op : EOp} {er : ER} {H' : Heap} {K Qp : EV → Heap → Prop} (h : opF call (ev γ s) H op = some (er, H')) (hk : (∀ v, er = .ret v → K v H') ∧ ∀ v, er = .pan v → Qp v H') : wop P γ Qp (ev γ s) H op K := by
  cases op with
  | call f args =>
    simp only [opF] at h
    simp only [wop]
    split at h
    · rename_i g first cap hf
      simp only [hf]
      refine ⟨_, hc _ _ _ _ _ h, ?_⟩
      rintro e h1 ⟨rfl, rfl⟩
      cases e with
      | ret v => exact hk.1 v rfl
      | pan v => exact hk.2 v rfl
    · simp at h
  | panic x =>
    simp only [opF] at h
    simp only [wop]
    split at h
    · rename_i t v hx
      simp only [hx]
      simp only [Option.some.injEq, Prod.mk.injEq] at h
      obtain ⟨rfl, rfl⟩ := h
      exact hk.2 _ rfl
    · simp at h
  | _ =>
    simp only [opF] at h
    simp only [wop]
    split at h
    · rename_i v H1 hev
      simp only [Option.some.injEq, Prod.mk.injEq] at h
      obtain ⟨rfl, rfl⟩ := h
      first | (rw [hev]; exact hk.1 _ rfl) | exact hk.1 _ rfl
    · simp at h

theorem stepO_some {r : Res} {K : EV → Heap → Option Xsh} {x : Xsh} (h : stepO r s K = some x) : (∃ v H', r = some (.ret v, H') ∧ K v H' = some x) ∨ ∃ v H', r = some (.pan v, H') ∧ x = (.panic v, s, H') := by
  unfold stepO at h
  split at h
  · exact .inl ⟨_, _, rfl, h⟩
  · exact .inr ⟨_, _, rfl, (Option.some.inj h).symm⟩
  · simp at h

theorem opsF_wops (hc : CallsOk P γ call) : ∀ (l : List EOper) (s : Slots) (H : Heap) (r : Xsh), opsF call γ l s H = some r → wops P γ (Qis r) l s H
  | [], s, H, r, h => by
    simp only [opsF, Option.some.injEq] at h
    exact h.symm
  | o :: rest, s, H, r, h => by
    have ih := opsF_wops hc rest
    have one : ∀ K : Option Xsh, (stepO (opF call (ev γ s) H o.op) s fun v H' => opsF call γ rest (putA s o.dst v) H') = some r →
        wop P γ (fun v H' => Qis r (.panic v) s H') (ev γ s) H o.op fun v H' => wops P γ (Qis r) rest (putA s o.dst v) H' := by
      intro _ h1
      rcases stepO_some h1 with ⟨v, H', h2, h3⟩ | ⟨v, H', h2, rfl⟩
      · exact opF_wop hc h2 ⟨fun u e => (by cases e; exact ih _ _ _ h3), fun u e => (by cases e)⟩
      · exact opF_wop hc h2 ⟨fun u e => (by cases e), fun u e => (by cases e; rfl)⟩
    unfold opsF at h
    unfold wops
    cases hg : o.guard with
    | none => rw [hg] at h; exact one none h
    | some p =>
      obtain ⟨d, b⟩ := p
      rw [hg] at h
      simp only at h ⊢
      unfold gateO at h
      split at h
      · rename_i t ht
        simp only [ht]
        split at h
        · rename_i e; rw [if_pos e]; exact one none h
        · rename_i e; rw [if_neg e]; exact ih _ _ _ h
      · rename_i ht
        simp only [ht]
        exact ih _ _ _ h
      · simp at h

theorem opF_acts (hc : CallsOk P γ call) {op : EOp} {v : EV} {H' : Heap} (h : opF call (ev γ s) H op = some (.ret v, H')) : Acts P γ s H op v H' := by
  cases op with
  | call f args =>
    simp only [opF] at h
    simp only [Acts]
    split at h
    · rename_i g first cap hf
      simp only [hf]
      exact hc _ _ _ _ _ h
    · simp at h
  | panic x =>
    simp only [opF] at h
    split at h <;> simp at h
  | _ =>
    simp only [opF] at h
    simp only [Acts]
    split at h
    · rename_i v H1 hev
      simp only [Option.some.injEq, Prod.mk.injEq, ER.ret.injEq] at h
      obtain ⟨rfl, rfl⟩ := h
      first | exact hev | rfl
    · simp at h

theorem stepD_some {r : Res} {chg : Bool} {K : EV → Heap → Option Xsh} {x : Xsh} (h : stepD chg H r K = some x) : ∃ v H', r = some (.ret v, H') ∧ (chg = false → H' = H) ∧ K v H' = some x := by
  unfold stepD at h
  split at h
  · split at h
    · rename_i hs
      refine ⟨_, _, rfl, fun e => ?_, h⟩
      rw [e, Bool.false_or] at hs
      exact sameH_eq hs
    · simp at h
  · simp at h

theorem drF_wdr (hc : CallsOk P γ call) : ∀ (l : List (EOper × Bool)) (s : Slots) (H : Heap) (r : Xsh), drF call γ l s H = some r → wdr P γ (Qis r) l s H
  | [], s, H, r, h => by
    simp only [drF, Option.some.injEq] at h
    exact h.symm
  | (o, chg) :: rest, s, H, r, h => by
    have ih := drF_wdr hc rest
    unfold drF at h
    unfold wdr
    cases hg : o.guard with
    | none =>
      rw [hg] at h
      obtain ⟨v, H', h1, h2, h3⟩ := stepD_some h
      refine ⟨v, H', ?_, h2, ih _ _ _ h3⟩
      unfold Runs
      rw [hg]
      exact opF_acts hc h1
    | some p =>
      obtain ⟨d, b⟩ := p
      rw [hg] at h
      simp only at h
      unfold gateO at h
      split at h
      · rename_i t ht
        split at h
        · rename_i e
          obtain ⟨v, H', h1, h2, h3⟩ := stepD_some h
          refine ⟨v, H', ?_, h2, ih _ _ _ h3⟩
          unfold Runs
          rw [hg]
          exact .inl ⟨t, ht, fun _ => opF_acts hc h1, fun hne => absurd e hne⟩
        · rename_i e
          refine ⟨.tup [], H, ?_, fun _ => rfl, ih _ _ _ h⟩
          unfold Runs
          rw [hg]
          exact .inl ⟨t, ht, fun h => absurd h e, fun _ => ⟨rfl, rfl⟩⟩
      · rename_i ht
        refine ⟨.tup [], H, ?_, fun _ => rfl, ih _ _ _ h⟩
        unfold Runs
        rw [hg]
        exact .inr ⟨ht, rfl, rfl⟩
      · simp at h

theorem bindN_some {x : Option Xsh} {K : Slots → Heap → Option Xsh} {r : Xsh} (h : bindN x K = some r) : (∃ s H, x = some (.normal, s, H) ∧ K s H = some r) ∨ (x = some r ∧ r.1 ≠ .normal) := by
  unfold bindN at h
  split at h
  · exact .inl ⟨_, _, rfl, h⟩
  · rename_i hne
    refine .inr ⟨h, fun e => ?_⟩
    obtain ⟨x, s, H⟩ := r
    simp only at e
    subst e
    exact hne _ _ h

theorem Qis.then {K : Slots → Heap → Prop} {Q : AX → Slots → Heap → Prop} {r : Xsh} {x : AX} {s' : Slots} {H' : Heap} (h : Qis r x s' H') (hk : r.1 = .normal → K r.2.1 r.2.2) (hq : r.1 ≠ .normal → Q r.1 r.2.1 r.2.2) : thenA K Q x s' H' := by
  unfold Qis at h
  subst h
  cases x with
  | normal => exact hk rfl
  | _ => exact hq (by simp)

/-- Regions. -/
theorem reg_wpc (hc : CallsOk P γ call) {k : Nat} {ec : EC} {r : Xsh} (hs : match ec with | .ops _ | .draw _ | .seq (.draw _) (.ops _) => True | _ => False) (h : codeF call γ k ec s H = some r) : wpc P γ ec (Qis r) s H := by
  cases k with
  | zero => simp [codeF] at h
  | succ k =>
    split at hs
    · exact opsF_wops hc _ _ _ _ h
    · exact drF_wdr hc _ _ _ _ h
    · rename_i a b
      simp only [codeF] at h
      cases k with
      | zero => simp [codeF, bindN] at h
      | succ k =>
        simp only [codeF] at h
        rcases bindN_some h with ⟨s1, H1, h1, h2⟩ | ⟨h1, hne⟩
        · exact wdr_mono (fun x s' H' hx => hx.then (fun _ => opsF_wops hc _ _ _ _ h2) fun h => absurd rfl h) (drF_wdr hc _ _ _ _ h1)
        · exact wdr_mono (fun x s' H' hx => hx.then (fun h => absurd h hne) fun _ => rfl) (drF_wdr hc _ _ _ _ h1)
    · exact hs.elim

theorem codeF_sound (hcall : CallsOk P γ call) {own : List Nat} : ∀ (c : Code) (ec : EC), resC P n own c = some ec → ∀ (m : Nat), 1 ≤ m → ∀ (nb : NB) (k : Nat) (r : Xsh) (φ : Nat → Nat) (I : Nat → Prop) (s : Slots) (H : Heap) (a : Act) (w : World),
    Rel γ n nb φ I s H a w → codeF call γ k ec s H = some r → c.wpIn (FR none) m P (Post γ n nb φ I H w (Qis r)) a w := by
  intro c
  induction c with
  | skip =>
    intro ec he m hm nb k r φ I s H a w hR h
    simp only [resC, Option.some.injEq] at he; subst he
    cases k with
    | zero => simp [codeF] at h
    | succ k =>
    exact wpIn_skip ⟨φ, I, s, H, .normal, .refl .., hR, .normal, (Option.some.inj h).symm⟩
  | region id ops draw =>
    intro ec he m hm nb k r φ I s H a w hR h
    by_cases hds : ∃ l us, ec = .drawS l us
    · obtain ⟨l, us, rfl⟩ := hds
      cases k with
      | zero => simp [codeF] at h
      | succ k =>
      simp only [codeF] at h
      split at h
      case h_2 => simp at h
      rename_i s' H' fs hd
      split at h
      case isFalse => simp at h
      rename_i hap
      obtain rfl := Option.some.inj h
      cases draw with
      | false => simp [resC, Option.map_eq_some_iff] at he
      | true =>
      simp only [resC] at he
      split at he
      · simp at he
      · split at he
        · rename_i p hp
          simp only [Option.some.injEq, EC.drawS.injEq] at he
          obtain ⟨rfl, rfl⟩ := he
          unfold resDrawS at hp
          split at hp
          case h_2 => simp at hp
          rename_i l hl
          split at hp
          case isFalse => simp at hp
          rename_i hc
          simp only [Bool.and_eq_true] at hc
          simp only [Option.some.injEq] at hp; subst hp
          exact wpIn_region_any hc.1 (anyIn Post.noOut (res_noDefer hl) _ _ _ _ (drawS_sound hl hc.2 hR hd hap rfl))
        · simp [Option.map_eq_some_iff] at he
    refine wpc_sound _ ec he none m nb (.inr rfl) _ φ I s H a w hR (reg_wpc hcall ?_ h)
    cases draw with
    | true =>
      simp only [resC] at he
      cases hz : resDraw P n own ops with
      | none =>
        rw [hz] at he
        simp only at he
        split at he
        · simp only [Option.some.injEq] at he
          exact absurd ⟨_, _, he.symm⟩ hds
        · simp only [Option.map_eq_some_iff] at he
          obtain ⟨z, hz', rfl⟩ := he
          trivial
      | some z =>
        rw [hz] at he
        simp only [Option.some.injEq] at he; subst he
        trivial
    | false =>
      simp only [resC, Option.map_eq_some_iff] at he
      obtain ⟨l, hl, rfl⟩ := he
      trivial
  | seq x y ihx ihy =>
    intro ec he m hm nb k r φ I s H a w hR h
    simp only [resC] at he
    split at he
    · rename_i ex ey hx hy
      simp only [Option.some.injEq] at he; subst he
      cases k with
      | zero => simp [codeF] at h
      | succ k =>
      rcases bindN_some h with ⟨s1, H1, h1, h2⟩ | ⟨h1, hne⟩
      · refine wpIn_seq (wpIn_mono (ihx ex hx m hm nb k _ φ I s H a w hR h1) fun e a' w' hp => ?_)
        refine thenA_post (next := fun s' H' => s' = s1 ∧ H' = H1) (Q := Qis r) (fun φ' I' s' H' a' w' g1 g2 g3 => ?_) (fun e a' w' _ hp => hp) (hp.mono fun x s' H' hx => hx.then (fun _ => ⟨rfl, rfl⟩) fun h => absurd rfl h)
        obtain ⟨rfl, rfl⟩ := g3
        exact wpIn_mono (ihy ey hy m hm nb k r φ' I' _ _ a' w' g2 h2) fun e a'' w'' hp => hp.trans g1
      · refine wpIn_seq (wpIn_mono (ihx ex hx m hm nb k _ φ I s H a w hR h1) fun e a' w' hp => ?_)
        exact thenA_post (next := fun _ _ => False) (Q := Qis r) (fun φ' I' s' H' a' w' g1 g2 g3 => g3.elim) (fun e a' w' _ hp => hp) (hp.mono fun x s' H' hx => hx.then (fun h => absurd h hne) fun _ => rfl)
    · simp at he
  | cond c x y ihx ihy =>
    intro ec he m hm nb k r φ I s H a w hR h
    simp only [resC] at he
    split at he
    · rename_i z ex ey hz hx hy
      simp only [Option.some.injEq] at he; subst he
      have rc := rv_opd hR hz
      cases k with
      | zero => simp [codeF] at h
      | succ k =>
      simp only [codeF] at h
      unfold condA at h
      split at h
      case h_2 => simp at h
      rename_i t ht
      rw [ht] at rc
      generalize hva : a.eval c = vc at rc
      cases rc
      refine wpIn_cond hva ?_
      cases t with
      | true => exact ihx ex hx m hm nb k r φ I s H a w hR (by simpa using h)
      | false => exact ihy ey hy m hm nb k r φ I s H a w hR (by simpa using h)
    · simp at he
  | block id c ih =>
    intro ec he m hm nb k r φ I s H a w hR h
    simp only [resC, Option.map_eq_some_iff] at he
    obtain ⟨x, hx, rfl⟩ := he
    cases k with
    | zero => simp [codeF] at h
    | succ k =>
    simp only [codeF] at h
    cases hq : codeF call γ k x s H with
    | none => rw [hq] at h; simp [blockX] at h
    | some q =>
    rw [hq] at h
    refine wpIn_block (wpIn_mono (ih x hx m hm nb k q φ I s H a w hR hq) fun e a' w' hp => ?_)
    obtain ⟨φ', I', s', H', y, h1, h2, h3, h4⟩ := hp
    unfold Qis at h4
    subst h4
    cases h3 with
    | normal => exact ⟨φ', I', s', H', _, h1, h2, .normal, (Option.some.inj h).symm⟩
    | exit id' =>
      simp only [Exit.inBlock]
      simp only [blockX] at h
      split
      · rename_i e; rw [if_pos e] at h; exact ⟨φ', I', s', H', _, h1, h2, .normal, (Option.some.inj h).symm⟩
      · rename_i e; rw [if_neg e] at h; exact ⟨φ', I', s', H', _, h1, h2, .exit id', (Option.some.inj h).symm⟩
    | goto l => exact ⟨φ', I', s', H', _, h1, h2, .goto l, (Option.some.inj h).symm⟩
    | ret => exact ⟨φ', I', s', H', _, h1, h2, .ret, (Option.some.inj h).symm⟩
    | panic x v hv => exact ⟨φ', I', s', H', _, h1, h2, .panic x v hv, (Option.some.inj h).symm⟩
  | loop c ih =>
    intro ec he m hm nb k r φ I s H a w hR h
    simp only [resC, Option.map_eq_some_iff] at he
    obtain ⟨x, hx, rfl⟩ := he
    refine wpIn_loop_ghost (fun j a' w' => ∃ φ' I' s' H', Evo φ I H w φ' I' H' w' ∧ Rel γ n nb φ' I' s' H' a' w' ∧ codeF call γ j (.loop x) s' H' = some r) k ⟨φ, I, s, H, .refl .., hR, h⟩ ?_
    rintro j a' w' ⟨φ', I', s', H', h1, h2, h3⟩
    cases j with
    | zero => simp [codeF] at h3
    | succ j =>
    rcases bindN_some h3 with ⟨s1, H1, h4, h5⟩ | ⟨h4, hne⟩
    · refine wpIn_mono (ih x hx m hm nb j _ φ' I' s' H' a' w' h2 h4) fun e a'' w'' hp => ?_
      refine thenA_post (next := fun s' H' => s' = s1 ∧ H' = H1) (Q := Qis r) (fun φ2 I2 s2 H2 a2 w2 g1 g2 g3 => ?_) (fun e a3 w3 _ hp => hp.trans h1) (hp.mono fun x s' H' hx => hx.then (fun _ => ⟨rfl, rfl⟩) fun h => absurd rfl h)
      obtain ⟨rfl, rfl⟩ := g3
      exact ⟨j, by omega, φ2, I2, _, _, h1.trans g1, g2, h5⟩
    · refine wpIn_mono (ih x hx m hm nb j _ φ' I' s' H' a' w' h2 h4) fun e a'' w'' hp => ?_
      exact thenA_post (next := fun _ _ => False) (Q := Qis r) (fun φ2 I2 s2 H2 a2 w2 g1 g2 g3 => g3.elim) (fun e a3 w3 _ hp => hp.trans h1) (hp.mono fun x s' H' hx => hx.then (fun h => absurd h hne) fun _ => rfl)
  | rangeFunc f ps asg c _ ih =>
    intro ec he m hm nb k r φ I s H a w hR h
    simp only [resC] at he
    split at he
    case h_2 => simp at he
    split at he
    case isFalse => simp at he
    simp only [Option.some.injEq] at he; subst he
    cases k <;> simp [codeF] at h
  | exit id =>
    intro ec he m hm nb k r φ I s H a w hR h
    simp only [resC, Option.some.injEq] at he; subst he
    cases k with
    | zero => simp [codeF] at h
    | succ k => exact wpIn_exit ⟨φ, I, s, H, .exit id, .refl .., hR, .exit id, (Option.some.inj h).symm⟩
  | ret =>
    intro ec he m hm nb k r φ I s H a w hR h
    simp only [resC, Option.some.injEq] at he; subst he
    cases k with
    | zero => simp [codeF] at h
    | succ k => exact wpIn_ret ⟨φ, I, s, H, .ret, .refl .., hR, .ret, (Option.some.inj h).symm⟩
  | _ => intro ec he; simp [resC] at he

/-- A contract out of what a body comes to. -/
theorem callsA_of_wp {f : FuncId} {fn : Func} {c : Code} {rs : List ERes} {args : List EV} {R : ER → Heap → Prop} (hf : P.funcs[f]? = some fn) (hb : fn.body = some c)
    (hn : (fn.name == "runtime.NumGoroutine") = false) (hrs : fn.results.toList.mapM (resRes P) = some rs) (ha : args.length ≤ fn.ntmps)
    (h : ∀ φ I a w, Rel γ fn.ntmps w.heap.size φ I (slots0 args) H a w → c.wpIn (FR none) 3 P (Post γ fn.ntmps w.heap.size φ I H w (bodyA H.length rs R)) a w) : CallsA P γ f args H R := by
  refine ⟨⟨fn, c, hf, hb, hn⟩, fun φ I w vs hr hv => (callsIn_wide (n := 3)).1 (callsIn_of_wp_marks (F := FR none) hf hb trivial ?_)⟩
  have hvs : vs.size = args.length := by simpa using hv.1.symm
  have hR : Rel γ fn.ntmps w.heap.size φ I (slots0 args) H { tmps := vs ++ Array.replicate (fn.ntmps - vs.size) Go.undef, defers := [] } w := by
    refine ⟨by simp; omega, fun t => ?_, hr, .none (Nat.le_refl _)⟩
    simp only [slots0]
    by_cases ht : t < args.length
    · have ht2 : t < vs.size := by omega
      have : (vs ++ Array.replicate (fn.ntmps - vs.size) Go.undef).getD t Go.undef = vs[t] := by simp [Array.getElem?_append, ht2]
      rw [this]
      have := hv.2 t args[t] vs[t] (by simp [ht]) (by simp [ht2])
      simpa [ht] using this
    · have : args[t]? = none := by simp; omega
      rw [this]
      exact .undef _
  refine wpIn_mono (h φ I _ w hR) fun e a' w' hp => ?_
  obtain ⟨φ', I', s', H', x, h1, h2, h3, h4⟩ := hp
  obtain ⟨_, Ds, hds, hnd, hD⟩ := h2.defers
  replace hds : a'.defers = Ds.map mark := by rw [hds]; exact List.append_nil _
  have fin : (∃ r r', evResults s' H' rs = some r ∧ FZ H.length H' r r' ∧ (∀ (b : Nat) (x : EB), b < H.length → H'[b]? = some (some x) → x.ok H.length = true) ∧ R (.ret r') (H'.take H.length)) →
      LeavesInM (FR none) 3 P fn a'.tmps (fun e w' => ∃ φ' I' H' er, Evo φ I H w φ' I' H' w' ∧ RH γ φ' I' H' w' ∧ RE φ' H'.length I' w' er e ∧ R er H') a'.defers .returning w' := by
    rintro ⟨r, r', g1, g2, g3, g4⟩
    rw [hds]
    refine leave_marks (by simp) Ds w' hnd (fun D hm => (hD D hm).2.1) fun w'' k1 k2 k3 k4 k5 => ?_
    obtain ⟨m1, m2, m3⟩ := shut h1 h2.heap (fun D hm => ⟨(hD D hm).1.1, (hD D hm).2⟩) k1 k2 k3 k4 k5
    have hR'' : Rel γ fn.ntmps 0 φ' I' s' H' { a' with defers := [] } w'' := ⟨h2.sz, fun t => m3 _ _ _ (h2.slots t), m2, .none (Nat.zero_le _)⟩
    obtain ⟨val, n1, n2⟩ := results_sound hR'' hrs g1
    refine ⟨val, n1, φ', _, H'.take H.length, .ret r', m1.close, m2.close m1.len g3, ?_, g4⟩
    rw [List.length_take, Nat.min_eq_left h1.len]
    exact .ret r' val (g2.sound m2 n2)
  cases h3 with
  | normal => exact fin h4
  | ret => exact fin h4
  | exit id => exact h4.elim
  | goto l => exact h4.elim
  | panic x v hv =>
    obtain ⟨v', g2, g3, g4⟩ := h4
    show LeavesInM (FR none) 3 P fn a'.tmps _ a'.defers (.panicking [{ v, recovered := false }]) w'
    rw [hds]
    refine leave_marks (by simp) Ds w' hnd (fun D hm => (hD D hm).2.1) fun w'' k1 k2 k3 k4 k5 => ?_
    obtain ⟨m1, m2, m3⟩ := shut h1 h2.heap (fun D hm => ⟨(hD D hm).1.1, (hD D hm).2⟩) k1 k2 k3 k4 k5
    refine ⟨φ', _, H'.take H.length, .pan v', m1.close, m2.close m1.len g3, ?_, g4⟩
    rw [List.length_take, Nat.min_eq_left h1.len]
    exact .pan v' v (g2.sound m2 (m3 _ _ _ hv))

theorem finV_some {H H' : Heap} {v : EV} {K : EV → ER} {er : ER} {H1 : Heap} (hok : OkH H) (h : finV H v K H' = some (er, H1)) :
    ∃ v', FZ H.length H' v v' ∧ (∀ (b : Nat) (x : EB), b < H.length → H'[b]? = some (some x) → x.ok H.length = true) ∧ er = K v' ∧ H1 = H'.take H.length := by
  unfold finV at h
  split at h
  case h_2 => simp at h
  rename_i r hr
  split at h
  case isFalse => simp at h
  rename_i hc
  simp only [Option.some.injEq, Prod.mk.injEq] at h
  refine ⟨r, (fz_sound _ _ _ hr).1, fun b x hb hx => ?_, h.1.symm, h.2.symm⟩
  have hget : (H'.take H.length)[b]? = some (some x) := by rw [List.getElem?_take_of_lt hb]; exact hx
  rw [Bool.or_eq_true] at hc
  rcases hc with hc | hc
  · rw [sameH_eq hc] at hget
    exact hok b x hget
  · have := List.all_eq_true.1 hc _ (List.mem_of_getElem? hget)
    simpa using this

end
end Abs
