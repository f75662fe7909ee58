/- A part. -/
import Derived.Test.YtdcjkdgjlljodaaAbs26
set_option linter.all false
namespace Abs
open Go
section
variable {P : Program} {γ : Nat → EV} {n : Nat} {nb : NB} {φ : Nat → Nat} {I : Nat → Prop} {s : aa2} {H : Heap} {a : Act} {w : World}
def Done (P : Program) (γ : Nat → EV) (φ : Nat → Nat) (I : Nat → Prop) (H : Heap) (w : World) (m : Sem Next) (v : EV) (H' : Heap) : Prop :=
 ∃ φ' I' w', Evo φ I H w φ' I' H' w' ∧ RH γ φ' I' H' w' ∧
  ((∃ val, m.run P w = .ok (.value val) w' ∧ RV φ' H'.length I' w' v val) ∨ (m.run P w = .ok .skip w' ∧ v = .undef))
theorem Done.ofPure (hr : RH γ φ I H w) {m : Sem Next} {m' : Sem Value} {v : EV} (hm : m = (do Pure.pure (Next.value (← m')))) (h : ∃ val, m'.run P w = .ok val w ∧ RV φ H.length I w v val) :
  Done P γ φ I H w m v H := by
 obtain ⟨val, h1, h2⟩ := h
 exact ⟨φ, I, w, Evo.refl .., hr, .inl ⟨val, by rw [hm]; simp [h1], h2⟩⟩
theorem Done.val (hr : RH γ φ I H w) {m : Sem Next} {val : Value} {v : EV} (hm : m = Pure.pure (Next.value val)) (h : RV φ H.length I w v val) : Done P γ φ I H w m v H :=
 ⟨φ, I, w, Evo.refl .., hr, .inl ⟨val, by rw [hm]; rfl, h⟩⟩
theorem Done.val' (hr : RH γ φ I H w) {m : Sem Next} {val : Value} {v : EV} (h : RV φ H.length I w v val) (hm : m = Pure.pure (Next.value val)) : Done P γ φ I H w m v H := .val hr hm h
theorem bc1 (hR : Rel γ n nb φ I s H a w) {x : Option Operand} {e : Option EOpd} (h : cd9 x = some e) :
  match e.map (ev γ s), x.map a.eval with | none, none => True | some x, some v => RV φ H.length I w x v | _, _ => False := by
 cases x with
 | none => simp only [cd9, Option.some.injEq] at h; subst h; trivial
 | some x =>
  simp only [cd9, Option.map_eq_some_iff] at h
  obtain ⟨y, hy, rfl⟩ := h
  exact ab5 hR hy
theorem bm6 (hR : Rel γ n nb φ I s H a w) {xs : Array Operand} {es : List EOpd} (h : xs.toList.mapM aa8 = some es) :
  (es.map (ev γ s)).length = (xs.map a.eval).size ∧ ∀ (k : Nat) (x : EV) (v : Value), (es.map (ev γ s))[k]? = some x → (xs.map a.eval)[k]? = some v → RV φ H.length I w x v := by
 obtain ⟨h1, h2⟩ := ao1 h
 refine ⟨by simp [h1], fun k x v hx hv => ?_⟩
 simp only [List.getElem?_map, Option.map_eq_some_iff] at hx
 obtain ⟨e, he, rfl⟩ := hx
 simp only [Array.getElem?_map, Option.map_eq_some_iff] at hv
 obtain ⟨o, ho, rfl⟩ := hv
 exact ab5 hR (h2 k o e (by simpa using ho) he)
theorem bj0 {t : TypeId} {p : (Bool × List SK) × TypeId} (h : br0 P t = some p) : ∃ kt e d, P.underlying t = some (.map kt e) ∧ P.underlying kt = some d ∧ au0 P 16 kt = some p.1.2 ∧ p.1.1 = aggD d ∧ p.2 = e ∧ e = e := by
 unfold br0 at h
 split at h
 ·rename_i kt e hm
  split at h
  ·rename_i d ks hd hk
   simp only [Option.some.injEq] at h
   subst h
   exact ⟨kt, e, d, hm, hd, hk, rfl, rfl, rfl⟩
  ·simp at h
 ·simp at h
theorem dh7 (hR : Rel γ n nb φ I s H a w) {o : Oper} {own : Bool} {eo : EOp} (hres : ac7 P own o.op = some eo) {v : EV} {H' : Heap} (hev : evOp (ev γ s) H eo = some (v, H')) :
  Done P γ φ I H w (execOp a.eval o) v H' := by
 have hr := hR.heap
 obtain ⟨dst, op, type, pos, after, guard⟩ := o
 simp only at hres
 cases op with
 | move x =>
  simp only [ac7, Option.pure_def, Option.bind_eq_bind, Option.bind_eq_some_iff, Option.some.injEq] at hres
  obtain ⟨e, he, rfl⟩ := hres
  simp only [evOp, Option.some.injEq, Prod.mk.injEq] at hev
  obtain ⟨rfl, rfl⟩ := hev
  exact .val hr rfl (ab5 hR he)
 | assign x =>
  simp only [ac7, Option.pure_def, Option.bind_eq_bind, Option.bind_eq_some_iff, Option.some.injEq] at hres
  obtain ⟨e, he, rfl⟩ := hres
  simp only [evOp, Option.some.injEq, Prod.mk.injEq] at hev
  obtain ⟨rfl, rfl⟩ := hev
  exact .val hr rfl (ab5 hR he)
 | pick c x y =>
  simp only [ac7, Option.pure_def, Option.bind_eq_bind, Option.bind_eq_some_iff, Option.some.injEq] at hres
  obtain ⟨ec, hc, ex, hx, ey, hy, rfl⟩ := hres
  simp only [evOp] at hev
  split at hev
  ·rename_i t ht
   simp only [Option.some.injEq, Prod.mk.injEq] at hev
   obtain ⟨rfl, rfl⟩ := hev
   have h1 := ab5 hR hc
   rw [ht] at h1
   generalize hca : a.eval c = vc at h1
   cases h1
   refine ⟨φ, I, w, Evo.refl .., hr, .inl ⟨if t then a.eval x else a.eval y, by simp [execOp, hca, asBool], ?_⟩⟩
   cases t
   ·exact ab5 hR hy
   ·exact ab5 hR hx
  ·simp at hev
 | alloc t =>
  simp only [ac7, Option.pure_def, Option.bind_eq_bind, Option.bind_eq_some_iff] at hres
  obtain ⟨z, hz, hres⟩ := hres
  split at hres
  ·rename_i ho
   simp only [Option.some.injEq] at hres; subst hres
   obtain ⟨i, vz, hi, hv, hc⟩ := bf0 hz
   simp only [evOp] at hev
   change (if z.cells.all EV.one = true then some (EV.ptr H.length z.cells.length 0 0, H ++ [some (EB.row z.cells.length [z])]) else none) = _ at hev
   rw [if_pos ho] at hev
   simp only [Option.some.injEq, Prod.mk.injEq] at hev
   obtain ⟨rfl, rfl⟩ := hev
   obtain ⟨φ', w', h1, h2, h3, h4⟩ := cr1 (P := P) hr t (an6 (φ := φ) (N := H.length) (I := I) (w := w) hc) ho
   refine ⟨φ', I, w', h2, h3, .inl ⟨_, ?_, h4⟩⟩
   have hz' : (zeroValue t).run P w = .ok vz w := by simp [zeroValue, typeInfo, hi, hv]
   simp only [Instr.box, Sem.run_bind] at h1
   simp only [execOp, Instr.alloc, Sem.run_bind, hz', Result.andThen_ok]
   rw [h1]
   rfl
  ·simp at hres
 | box t x =>
  simp only [ac7, Option.pure_def, Option.bind_eq_bind, Option.bind_eq_some_iff, Option.some.injEq] at hres
  obtain ⟨e, he, rfl⟩ := hres
  simp only [evOp] at hev
  split at hev
  ·rename_i ho
   simp only [Option.some.injEq, Prod.mk.injEq] at hev
   obtain ⟨rfl, rfl⟩ := hev
   obtain ⟨φ', w', h1, h2, h3, h4⟩ := cr1 (P := P) hr t (ab5 hR he) ho
   exact ⟨φ', I, w', h2, h3, .inl ⟨_, by simp only [execOp, Sem.run_bind, h1, Result.andThen_ok]; rfl, h4⟩⟩
  ·simp at hev
 | load t x =>
  simp only [ac7, Option.pure_def, Option.bind_eq_bind, Option.bind_eq_some_iff, Option.some.injEq, Prod.exists] at hres
  obtain ⟨ag, m, hty, e, he, rfl⟩ := hres
  simp only [evOp, Option.map_eq_some_iff, Prod.mk.injEq] at hev
  obtain ⟨u, hu, rfl, rfl⟩ := hev
  exact .ofPure hr rfl (cf1 hr hty (ab5 hR he) hu)
 | store t x y =>
  simp only [ac7, Option.pure_def, Option.bind_eq_bind, Option.bind_eq_some_iff, Option.some.injEq] at hres
  obtain ⟨j, hj, ex, hx, ey, hy, rfl⟩ := hres
  simp only [evOp, Option.map_eq_some_iff, Prod.mk.injEq] at hev
  obtain ⟨H1, hu, rfl, rfl⟩ := hev
  obtain ⟨w', h1, h2, h3⟩ := cs5 hr hj (ab5 hR hx) (ab5 hR hy) hu
  exact ⟨φ, I, w', h2, h3, .inr ⟨by simp [execOp, h1], rfl⟩⟩
 | nilCheck x =>
  simp only [ac7, Option.pure_def, Option.bind_eq_bind, Option.bind_eq_some_iff, Option.some.injEq] at hres
  obtain ⟨e, he, rfl⟩ := hres
  have hx := ab5 hR he
  simp only [evOp] at hev
  generalize hva : a.eval x = vx at hx
  split at hev <;> simp only [Option.some.injEq, Prod.mk.injEq, reduceCtorEq] at hev <;> obtain ⟨rfl, rfl⟩ := hev <;> rename_i hq <;> rw [hq] at hx <;> cases hx
  ·exact .val' hr (by constructor; assumption) (by simp [execOp, hva])
  ·exact .val' hr (by apply RV.iptr <;> assumption) (by simp [execOp, hva])
  ·exact .val' hr (by apply RV.func <;> assumption) (by simp [execOp, hva])
  ·exact .val' hr (by constructor; assumption) (by simp [execOp, hva])
 | binOp op t x y ty =>
  simp only [ac7, Option.bind_eq_bind, Option.bind_eq_some_iff] at hres
  obtain ⟨ex, hx, ey, hy, hres⟩ := hres
  have rx := ab5 hR hx
  have ry := ab5 hR hy
  have eqs : (op = .eql ∨ op = .neq) → cm3 P t op ex ey = some eo → Done P γ φ I H w (execOp a.eval ⟨dst, .binOp op t x y ty, type, pos, after, guard⟩) v H' := by
   intro hop hres
   have agg : (∃ d, P.underlying t = some d ∧ aggD d = true) → bu4 P t op ex ey = some eo →
     Done P γ φ I H w (execOp a.eval ⟨dst, .binOp op t x y ty, type, pos, after, guard⟩) v H' := by
    intro hd hres
    unfold bu4 at hres
    split at hres
    case h_2 => simp at hres
    rename_i ks hks
    split at hres
    case isTrue => simp at hres
    ·rename_i hg
     simp only [Option.some.injEq] at hres; subst hres
     simp only [evOp] at hev
     split at hev
     ·rename_i ca cb hca hcb
      split at hev
      ·rename_i hf
       simp only [Bool.and_eq_true] at hf
       simp only [Option.some.injEq, Prod.mk.injEq] at hev
       obtain ⟨rfl, rfl⟩ := hev
       rw [hca] at rx
       rw [hcb] at ry
       exact .ofPure hr rfl ⟨_, cq6 hop x y hks hd (by simpa using hg) rx ry hf.1 hf.2, .bool _⟩
      ·simp at hev
     ·simp at hev
   unfold cm3 at hres
   split at hres
   ·rename_i hu
    simp only [Option.some.injEq] at hres; subst hres
    simp only [evOp] at hev
    split at hev
    ·rename_i ba bb hba hbb
     simp only [Option.some.injEq, Prod.mk.injEq] at hev
     obtain ⟨rfl, rfl⟩ := hev
     rw [hba] at rx
     rw [hbb] at ry
     generalize hva : a.eval x = vx at rx
     generalize hvb : a.eval y = vy at ry
     cases rx
     cases ry
     refine .ofPure hr rfl ⟨_, ?_, .bool _⟩
     simp only [hva, hvb]
     exact cj4 hop x y hu
    ·simp at hev
   ·simp only [Option.some.injEq] at hres; subst hres
    simp only [evOp, Option.map_eq_some_iff, Prod.mk.injEq] at hev
    obtain ⟨u, hu, rfl, rfl⟩ := hev
    exact .ofPure hr rfl (cb9 t x y rx ry hu)
   ·simp only [Option.some.injEq] at hres; subst hres
    simp only [evOp, Option.map_eq_some_iff, Prod.mk.injEq] at hev
    obtain ⟨u, hu, rfl, rfl⟩ := hev
    exact .ofPure hr rfl (cb9 t x y rx ry hu)
   ·rename_i hu; exact agg ⟨_, hu, rfl⟩ hres
   ·rename_i hu; exact agg ⟨_, hu, rfl⟩ hres
   ·simp only [Option.map_eq_some_iff] at hres
    obtain ⟨k, hk, rfl⟩ := hres
    simp only [evOp, Option.map_eq_some_iff, Prod.mk.injEq] at hev
    obtain ⟨u, hu, rfl, rfl⟩ := hev
    exact .ofPure hr rfl ⟨_, cj3 x y hx hy hop hk rx ry hu, .bool _⟩
  have other : some (EOp.bin op ex ey) = some eo → Done P γ φ I H w (execOp a.eval ⟨dst, .binOp op t x y ty, type, pos, after, guard⟩) v H' := by
   intro hres
   simp only [Option.some.injEq] at hres; subst hres
   simp only [evOp, Option.map_eq_some_iff, Prod.mk.injEq] at hev
   obtain ⟨u, hu, rfl, rfl⟩ := hev
   exact .ofPure hr rfl (cb9 t x y rx ry hu)
  cases op <;> first
   | exact other hres
   | exact eqs (.inl rfl) hres
   | exact eqs (.inr rfl) hres
 | unOp op t x =>
  simp only [ac7, Option.pure_def, Option.bind_eq_bind, Option.bind_eq_some_iff, Option.some.injEq] at hres
  obtain ⟨e, he, rfl⟩ := hres
  simp only [evOp, Option.map_eq_some_iff, Prod.mk.injEq] at hev
  obtain ⟨u, hu, rfl, rfl⟩ := hev
  exact .ofPure hr rfl (dz7 (ab5 hR he) hu)
 | convert src dst' x =>
  simp only [ac7, Option.pure_def, Option.bind_eq_bind, Option.bind_eq_some_iff] at hres
  obtain ⟨e, he, hres⟩ := hres
  split at hres
  ·rename_i k k' hs hd
   simp only [Option.some.injEq] at hres; subst hres
   have hx := ab5 hR he
   simp only [evOp] at hev
   split at hev
   ·rename_i q m hq
    simp only [Option.some.injEq, Prod.mk.injEq] at hev
    obtain ⟨rfl, rfl⟩ := hev
    rw [hq] at hx
    generalize hva : a.eval x = vx at hx
    cases hx
    refine .ofPure hr rfl ⟨_, ?_, .int _ _⟩
    simp [convert, run_underlying hs, run_underlying hd, hva, Conv.intToInt]
   ·simp at hev
  ·rename_i k hs hd
   simp only [Option.some.injEq] at hres; subst hres
   simp only [evOp, Option.map_eq_some_iff, Prod.mk.injEq] at hev
   obtain ⟨u, hu', rfl, rfl⟩ := hev
   obtain ⟨val, h1, h2⟩ := ch3 (P := P) hs hd (ab5 hR he) hu'
   exact .ofPure hr rfl ⟨val, h1, h2⟩
  ·rename_i et hs hd
   split at hres
   case h_2 => simp at hres
   rename_i hb
   simp only [Option.some.injEq] at hres; subst hres
   simp only [evOp, Option.map_eq_some_iff, Prod.mk.injEq] at hev
   obtain ⟨u, hu', rfl, rfl⟩ := hev
   have hx := ab5 hR he
   obtain ⟨val, h1, h2⟩ := cs0 (P := P) hr hx hu'
   refine .ofPure hr rfl ⟨val, ?_, h2⟩
   have hsl : ∃ q len cap, a.eval x = .slice q len cap := by
    unfold bt4 at hu'
    split at hu'
    ·rename_i hq; rw [hq] at hx; generalize a.eval x = vx at hx; cases hx; exact ⟨_, _, _, rfl⟩
    ·rename_i hq; rw [hq] at hx; generalize a.eval x = vx at hx; cases hx; exact ⟨_, _, _, rfl⟩
    ·rename_i hq; rw [hq] at hx; generalize a.eval x = vx at hx; cases hx <;> exact ⟨_, _, _, rfl⟩
    ·rename_i hq; rw [hq] at hx; generalize a.eval x = vx at hx; cases hx <;> exact ⟨_, _, _, rfl⟩
    ·simp at hu'
   obtain ⟨q, len, cap, hva⟩ := hsl
   rw [hva] at h1 ⊢
   simp only [convert, Sem.run_bind, run_underlying hs, run_underlying hd, run_underlying hb, Result.andThen_ok]
   cases q <;> exact h1
  ·simp at hres
 | makeInterface t x =>
  simp only [ac7] at hres
  split at hres
  ·simp at hres
  ·rename_i d hni hu
   simp only [Option.pure_def, Option.bind_eq_bind, Option.bind_eq_some_iff, Option.some.injEq] at hres
   obtain ⟨e, he, rfl⟩ := hres
   simp only [evOp, Option.some.injEq, Prod.mk.injEq] at hev
   obtain ⟨rfl, rfl⟩ := hev
   refine .ofPure hr rfl ⟨_, ?_, .iface t _ _ (ab5 hR he)⟩
   simp only [Instr.makeInterface, Sem.run_bind, run_underlying hu, Result.andThen_ok]
   cases d <;> first | rfl | exact absurd rfl (hni _)
  ·simp at hres
 | makeFunc f first cap =>
  simp only [ac7, Option.pure_def, Option.bind_eq_bind, Option.bind_eq_some_iff, Option.some.injEq] at hres
  obtain ⟨ef, hf, ec, hc, rfl⟩ := hres
  simp only [evOp, Option.some.injEq, Prod.mk.injEq] at hev
  obtain ⟨rfl, rfl⟩ := hev
  obtain ⟨f1, f2⟩ := bm6 hR hf
  obtain ⟨c1, c2⟩ := bm6 hR hc
  exact .ofPure hr rfl ⟨_, rfl, .func f _ _ _ _ f1 c1 f2 c2⟩
 | fieldAddr t x f =>
  simp only [ac7] at hres
  split at hres
  ·rename_i fs hu
   simp only [Option.pure_def, Option.bind_eq_bind, Option.bind_eq_some_iff] at hres
   obtain ⟨fd, hfd, j, hj, hres⟩ := hres
   split at hres
   ·simp at hres
   ·rename_i hz
    simp only [Option.bind_eq_some_iff, Option.some.injEq] at hres
    obtain ⟨e, he, rfl⟩ := hres
    simp only [evOp, Option.map_eq_some_iff, Prod.mk.injEq] at hev
    obtain ⟨u, hu', rfl, rfl⟩ := hev
    exact .ofPure hr rfl (cw0 hu hfd hj hz (ab5 hR he) hu')
  ·simp at hres
 | field t x f =>
  simp only [ac7] at hres
  split at hres
  ·rename_i fs hu
   simp only [Option.pure_def, Option.bind_eq_bind, Option.bind_eq_some_iff, Option.some.injEq, Prod.exists] at hres
   obtain ⟨fd, hfd, ag, m, hty, e, he, rfl⟩ := hres
   have hx := ab5 hR he
   simp only [evOp] at hev
   split at hev
   ·rename_i cs hq
    split at hev
    ·rename_i hle
     simp only [Option.some.injEq, Prod.mk.injEq] at hev
     obtain ⟨rfl, rfl⟩ := hev
     rw [hq] at hx
     exact .ofPure hr rfl (cv9 hu hfd hty hx hle)
    ·simp at hev
   ·simp at hev
  ·simp at hres
 | indexAddr t x i =>
  simp only [ac7, Option.pure_def, Option.bind_eq_bind, Option.bind_eq_some_iff] at hres
  obtain ⟨e, he, ei, hi, hres⟩ := hres
  have hx := ab5 hR he
  have hy := ab5 hR hi
  split at hres
  ·rename_i len et hu
   simp only [Option.bind_eq_some_iff, Option.some.injEq] at hres
   obtain ⟨j, hj, rfl⟩ := hres
   simp only [evOp] at hev
   split at hev
   ·rename_i q k hq
    rw [hq] at hy
    generalize hva : a.eval i = vi at hy
    cases hy
    split at hev
    ·rename_i hk
     simp only [Option.map_eq_some_iff, Prod.mk.injEq] at hev
     obtain ⟨u, hu', rfl, rfl⟩ := hev
     refine .ofPure hr rfl ?_
     rw [hva]
     exact cn9 hu hj hx hk.1 hk.2 hu'
    ·simp at hev
   ·simp at hev
  ·rename_i et hu
   simp only [Option.bind_eq_some_iff, Option.some.injEq] at hres
   obtain ⟨j, hj, rfl⟩ := hres
   simp only [evOp] at hev
   split at hev
   ·rename_i q k hq
    rw [hq] at hy
    generalize hva : a.eval i = vi at hy
    cases hy
    simp only [Option.map_eq_some_iff, Prod.mk.injEq] at hev
    obtain ⟨u, hu', rfl, rfl⟩ := hev
    refine .ofPure hr rfl ?_
    rw [hva]
    exact cn8 hu hj hx hu'
   ·simp at hev
  ·simp at hres
 | index t x i =>
  simp only [ac7, Option.pure_def, Option.bind_eq_bind, Option.bind_eq_some_iff] at hres
  obtain ⟨e, he, ei, hi, hres⟩ := hres
  have hx := ab5 hR he
  have hy := ab5 hR hi
  split at hres
  ·rename_i len et hu
   simp only [Option.bind_eq_some_iff, Option.some.injEq, Prod.exists] at hres
   obtain ⟨ag, m, hty, rfl⟩ := hres
   simp only [evOp] at hev
   split at hev
   ·rename_i q k cs hq hcs
    rw [hq] at hy
    rw [hcs] at hx
    generalize hva : a.eval i = vi at hy
    cases hy
    split at hev
    ·rename_i hk
     simp only [Option.some.injEq, Prod.mk.injEq] at hev
     obtain ⟨rfl, rfl⟩ := hev
     refine .ofPure hr rfl ?_
     rw [hva]
     exact dg8 hu hty hx hk.1 hk.2.1 hk.2.2
    ·simp at hev
   ·simp at hev
  ·rename_i hu
   simp only [Option.some.injEq] at hres; subst hres
   simp only [evOp] at hev
   split at hev
   ·rename_i q k cs hq hcs
    rw [hq] at hy
    rw [hcs] at hx
    generalize hva : a.eval i = vi at hy
    cases hy
    split at hev
    ·rename_i hk
     simp only [Option.map_eq_some_iff, Prod.mk.injEq] at hev
     obtain ⟨b, hb, rfl, rfl⟩ := hev
     refine .ofPure hr rfl ⟨_, ?_, .int _ _⟩
     rw [hva]
     exact cn7 hu hx hk hb
    ·simp at hev
   ·simp at hev
  ·simp at hres
 | extract x i =>
  simp only [ac7, Option.pure_def, Option.bind_eq_bind, Option.bind_eq_some_iff, Option.some.injEq] at hres
  obtain ⟨e, he, rfl⟩ := hres
  have hx := ab5 hR he
  simp only [evOp] at hev
  split at hev
  ·rename_i vs hq
   simp only [Option.map_eq_some_iff, Prod.mk.injEq] at hev
   obtain ⟨u, hu', rfl, rfl⟩ := hev
   rw [hq] at hx
   exact .ofPure hr rfl (ci6 hx hu')
  ·simp at hev
 | slice t x lo hi mx =>
  cases mx with
  | some m =>
   cases hi with
   | none => simp [ac7] at hres
   | some hi =>
    simp only [ac7, Option.pure_def, Option.bind_eq_bind, Option.bind_eq_some_iff] at hres
    obtain ⟨e, he, el, hl, eh, hh, em, hm, hres⟩ := hres
    split at hres
    case h_2 => simp at hres
    rename_i et hu
    simp only [Option.bind_eq_some_iff, Option.some.injEq] at hres
    obtain ⟨j, hj, rfl⟩ := hres
    simp only [evOp, Option.map_eq_some_iff, Prod.mk.injEq] at hev
    obtain ⟨u, hu', rfl, rfl⟩ := hev
    exact .ofPure hr rfl (di5 hu hj (ab5 hR he) (bc1 hR hl) (ab5 hR hh) (ab5 hR hm) hu')
  | none =>
   simp only [ac7, Option.pure_def, Option.bind_eq_bind, Option.bind_eq_some_iff] at hres
   obtain ⟨e, he, el, hl, eh, hh, hres⟩ := hres
   have hx := ab5 hR he
   split at hres
   ·rename_i hu
    simp only [Option.some.injEq] at hres; subst hres
    simp only [evOp] at hev
    split at hev
    ·rename_i str hq
     simp only [Option.map_eq_some_iff, Prod.mk.injEq] at hev
     obtain ⟨u, hu', rfl, rfl⟩ := hev
     rw [hq] at hx
     exact .ofPure hr rfl (cs6 hu hx (bc1 hR hl) (bc1 hR hh) hu')
    ·simp at hev
   ·rename_i et hu
    simp only [Option.bind_eq_some_iff, Option.some.injEq] at hres
    obtain ⟨j, hj, rfl⟩ := hres
    simp only [evOp, Option.map_eq_some_iff, Prod.mk.injEq] at hev
    obtain ⟨u, hu', rfl, rfl⟩ := hev
    exact .ofPure hr rfl (dw6 hu hj hx (bc1 hR hl) (bc1 hR hh) hu')
   ·rename_i n et hu
    simp only [Option.bind_eq_some_iff] at hres
    obtain ⟨j, hj, hres⟩ := hres
    split at hres
    case isFalse => simp at hres
    rename_i h1j
    simp only [Option.some.injEq] at hres; subst hres
    simp only [evOp] at hev
    obtain ⟨val, g1, g2, g3, g4⟩ := cs7 (P := P) hr hu hj h1j hx (bc1 hR hl) (bc1 hR hh) hev
    exact ⟨φ, I, w, g2, g3, .inl ⟨val, by simp [execOp, g1], g4⟩⟩
   ·simp at hres
 | build t parts =>
  simp only [ac7] at hres
  have zs_of : ∀ zs, aq3 P t = some (.agg zs) → ∃ i v, P.info? t = some i ∧ i.zero = some v ∧ RCs φ H.length I w zs v.cells.toList := by
   intro zs hz
   obtain ⟨i, v, hi, hv, hc⟩ := bf0 hz
   have := an6 (φ := φ) (N := H.length) (I := I) (w := w) hc
   cases this with
   | agg _ vs hl h => exact ⟨i, _, hi, hv, by simpa [Value.cells] using hl, fun k x u hx hu => h k x u hx (by simpa [Value.cells] using hu)⟩
  split at hres
  ·rename_i zs fs hz hu
   obtain ⟨i, vz, hi, hvz, hrc⟩ := zs_of zs hz
   simp only [Option.bind_eq_bind, Option.bind_eq_some_iff, Option.some.injEq] at hres
   obtain ⟨places, hplaces, ps, hps, rfl⟩ := hres
   obtain ⟨m1, m2⟩ := ao1 hps
   simp only [evOp] at hev
   split at hev
   case isFalse => simp at hev
   rename_i hones
   split at hev
   case h_2 => simp at hev
   rename_i cs hcs
   simp only [Option.some.injEq, Prod.mk.injEq] at hev
   obtain ⟨rfl, rfl⟩ := hev
   obtain ⟨c', f1, f2⟩ := bh5 (place := fun x => places[x]?) (ps.map fun p => (p.1, p.2.1, ev γ s p.2.2)) (parts.map fun (i, x) => (i, a.eval x)).toList zs cs vz.cells hrc hcs (by simp [m1]) (by
    intro k p q hp hq
    simp only [List.getElem?_map, Option.map_eq_some_iff, Array.toList_map] at hp hq
    obtain ⟨p', hp', rfl⟩ := hp
    obtain ⟨q', hq', rfl⟩ := hq
    have := m2 k q' p' hq' hp'
    simp only [Option.bind_eq_some_iff, Option.some.injEq] at this
    obtain ⟨f, hf, j, hj, x, hx, rfl⟩ := this
    refine ⟨?_, ab5 hR hx, List.all_eq_true.1 hones _ (List.mem_of_getElem? hp')⟩
    obtain ⟨p1, p2⟩ := ao1 hplaces
    have hfl : q'.1 < places.length := by
     rw [p1]
     have := (Array.getElem?_eq_some_iff.1 hf).1
     simpa using this
    have := p2 q'.1 f places[q'.1] (by simpa using hf) (by simp [hfl])
    rw [hj] at this
    simp only [Option.map_some, Option.some.injEq] at this
    simp [hfl, ← this])
   have hb : P.built t (parts.map fun (i, x) => (i, a.eval x)).toList = some c' := by
    unfold Program.built
    rw [hi, hu]
    simp only [hvz, hplaces]
    simpa using f1
   refine .ofPure hr rfl ⟨.agg c', ?_, .agg cs c' (by simpa using f2.1) fun k x u hx hu => f2.2 k x u hx (by simpa using hu)⟩
   exact run_build w t _ c' hb
  ·rename_i zs len et hz hu
   obtain ⟨i, vz, hi, hvz, hrc⟩ := zs_of zs hz
   simp only [Option.bind_eq_bind, Option.bind_eq_some_iff, Option.some.injEq] at hres
   obtain ⟨j, hj, ps, hps, rfl⟩ := hres
   obtain ⟨m1, m2⟩ := ao1 hps
   simp only [evOp] at hev
   split at hev
   case isFalse => simp at hev
   rename_i hones
   split at hev
   case h_2 => simp at hev
   rename_i cs hcs
   simp only [Option.some.injEq, Prod.mk.injEq] at hev
   obtain ⟨rfl, rfl⟩ := hev
   obtain ⟨c', f1, f2⟩ := bh5 (place := fun i => some (i * j.size, j.size)) (ps.map fun p => (p.1, p.2.1, ev γ s p.2.2)) (parts.map fun (i, x) => (i, a.eval x)).toList zs cs vz.cells hrc hcs (by simp [m1]) (by
    intro k p q hp hq
    simp only [List.getElem?_map, Option.map_eq_some_iff, Array.toList_map] at hp hq
    obtain ⟨p', hp', rfl⟩ := hp
    obtain ⟨q', hq', rfl⟩ := hq
    have := m2 k q' p' hq' hp'
    simp only [Option.bind_eq_some_iff, Option.some.injEq] at this
    obtain ⟨x, hx, rfl⟩ := this
    exact ⟨rfl, ab5 hR hx, List.all_eq_true.1 hones _ (List.mem_of_getElem? hp')⟩)
   have hb : P.built t (parts.map fun (i, x) => (i, a.eval x)).toList = some c' := by
    unfold Program.built
    rw [hi, hu]
    simp only [hvz, hj]
    exact f1
   refine .ofPure hr rfl ⟨.agg c', ?_, .agg cs c' (by simpa using f2.1) fun k x u hx hu => f2.2 k x u hx (by simpa using hu)⟩
   exact run_build w t _ c' hb
  ·simp at hres
 | buildSlice t len parts =>
  simp only [ac7] at hres
  split at hres
  ·rename_i et hu
   simp only [Option.bind_eq_bind, Option.bind_eq_some_iff, Prod.exists] at hres
   obtain ⟨ag, sz, hty, z, hz, ps, hps, hres⟩ := hres
   split at hres
   case isFalse => simp at hres
   rename_i hcond
   simp only [Bool.and_eq_true, decide_eq_true_eq] at hcond
   obtain ⟨⟨hs, ho⟩, hle⟩ := hcond
   simp only [Option.some.injEq] at hres; subst hres
   obtain ⟨m1, m2⟩ := ao1 hps
   simp only [evOp] at hev
   split at hev
   case isFalse => simp at hev
   rename_i hones
   have hl : (ps.map fun p => (p.1, ev γ s p.2)).length = (parts.map fun (i, x) => (i, a.eval x)).size := by simp [m1]
   have hp : ∀ (i : Nat) (p : Nat × EV) (q : Nat × Value), (ps.map fun p => (p.1, ev γ s p.2))[i]? = some p → (parts.map fun (i, x) => (i, a.eval x))[i]? = some q →
     p.1 = q.1 ∧ p.1 < len ∧ RV φ H.length I w p.2 q.2 ∧ p.2.cells.all EV.one = true ∧ p.2.cells.length = sz := by
    intro k p q hp hq
    simp only [List.getElem?_map, Option.map_eq_some_iff] at hp
    obtain ⟨p', hp', rfl⟩ := hp
    simp only [Array.getElem?_map, Option.map_eq_some_iff] at hq
    obtain ⟨q', hq', rfl⟩ := hq
    have := m2 k q' p' (by simpa using hq') hp'
    simp only [Option.bind_eq_some_iff] at this
    obtain ⟨x, hx, this⟩ := this
    split at this
    case isFalse => simp at this
    rename_i hlt
    simp only [Option.some.injEq] at this
    subst this
    have hall := List.all_eq_true.1 hones _ (List.mem_of_getElem? hp')
    simp only [Bool.and_eq_true, beq_iff_eq] at hall
    exact ⟨rfl, hlt, ab5 hR hx, hall.2, hall.1⟩
   split at hev
   ·simp only [Option.some.injEq, Prod.mk.injEq] at hev
    obtain ⟨rfl, rfl⟩ := hev
    obtain ⟨φ', val, w', h1, h2, h3, h4⟩ := eo2 hr hu hty hz hs ho hle hl hp
    exact ⟨φ', I, w', h2, h3, .inl ⟨val, by simp only [execOp, Sem.run_bind, h1, Result.andThen_ok]; rfl, by simpa using h4⟩⟩
   ·simp only [Option.some.injEq, Prod.mk.injEq] at hev
    obtain ⟨rfl, rfl⟩ := hev
    obtain ⟨I', val, w', h1, h2, h3, h4⟩ := eo3 hr hu hty hz hs ho hle hl hp
    exact ⟨φ, I', w', h2, h3, .inl ⟨val, by simp only [execOp, Sem.run_bind, h1, Result.andThen_ok]; rfl, h4⟩⟩
  ·simp at hres
 | call c =>
  obtain ⟨callee, args, ats⟩ := c
  cases callee with
  | value f =>
   simp only [ac7] at hres
   split at hres
   ·rename_i k hk
    have hf : ∃ g, f = .func g := by
     unfold ef6 at hk
     split at hk
     ·exact ⟨_, rfl⟩
     ·simp at hk
    obtain ⟨g, rfl⟩ := hf
    unfold ce0 at hres
    split at hres
    case h_2 => simp at hres
    rename_i x c hx
    split at hres
    case h_2 => simp at hres
    rename_i ex ec hex hec
    simp only [Option.some.injEq] at hres; subst hres
    simp only [evOp, Option.map_eq_some_iff, Prod.mk.injEq] at hev
    obtain ⟨u, hu, rfl, rfl⟩ := hev
    obtain ⟨val, h1, h2⟩ := dg7 (P := P) hk (ab5 hR hex) (ab5 hR hec) hu
    have hargs : args = #[x, c] := by cases args; simp_all
    refine ⟨φ, I, w, .refl .., hr, .inl ⟨val, ?_, h2⟩⟩
    have hfe : a.eval (.func g) = .func (.func g) #[] #[] := rfl
    unfold execOp
    simp only [hargs, resolve, hfe, Deferred.ofValue, invoke, Sem.run_bind, Sem.run_pure, Result.andThen_ok, List.map_toArray, List.map_cons, List.map_nil]
    simpa using h1
   ·simp only [Option.pure_def, Option.bind_eq_bind, Option.bind_eq_some_iff, Option.some.injEq] at hres
    obtain ⟨e, he, es, hes, rfl⟩ := hres
    simp [evOp] at hev
  | invoke r m => simp [ac7] at hres
  | builtin b =>
   cases b with
   | len =>
    simp only [ac7] at hres
    split at hres
    case h_2 => simp at hres
    rename_i t x ht hx
    split at hres
    ·rename_i hu
     simp only [Option.bind_eq_bind, Option.bind_eq_some_iff, Option.some.injEq] at hres
     obtain ⟨e, he, rfl⟩ := hres
     simp only [evOp, Option.map_eq_some_iff, Prod.mk.injEq] at hev
     obtain ⟨u, hu', rfl, rfl⟩ := hev
     exact .ofPure hr rfl ⟨_, cn3 ht (.inl ⟨rfl, hu⟩) (v := a.eval x) (by simp [hx]) (ab5 hR he) hu', .int _ _⟩
    ·rename_i et hu
     simp only [Option.bind_eq_bind, Option.bind_eq_some_iff, Option.some.injEq] at hres
     obtain ⟨e, he, rfl⟩ := hres
     simp only [evOp, Option.map_eq_some_iff, Prod.mk.injEq] at hev
     obtain ⟨u, hu', rfl, rfl⟩ := hev
     exact .ofPure hr rfl ⟨_, cn3 ht (.inr ⟨rfl, _, hu⟩) (v := a.eval x) (by simp [hx]) (ab5 hR he) hu', .int _ _⟩
    ·simp at hres
   | append =>
    simp only [ac7] at hres
    split at hres
    case h_2 => simp at hres
    rename_i t u x y ht hx
    have hats : ats = #[t, u] := by cases ats; simp_all
    have key : ∀ (e : TypeId) (d : TypeDesc), P.underlying t = some (.slice e) → P.underlying u = some d → (∀ k, d ≠ .int k) →
      (do let j ← P.info? e
          let z ← aq3 P e
          if z.cells.length = j.size && z.cells.all EV.one then some (.append j.size j.bytes (← aa8 x) (← aa8 y)) else none) = some eo →
      Done P γ φ I H w (execOp a.eval ⟨dst, .call { callee := .builtin .append, args := args, argTypes := ats }, type, pos, after, guard⟩) v H' := by
     intro e d hu1 hu2 hd hres
     simp only [Option.bind_eq_bind, Option.bind_eq_some_iff] at hres
     obtain ⟨j, hj, z, hz, hres⟩ := hres
     split at hres
     case isFalse => simp at hres
     rename_i hc
     simp only [Bool.and_eq_true, decide_eq_true_eq] at hc
     simp only [Option.bind_eq_some_iff, Option.some.injEq] at hres
     obtain ⟨ex, hex, ey, hey, rfl⟩ := hres
     simp only [evOp] at hev
     obtain ⟨φ', val, w', h1, h2, h3, h4⟩ := cr3 (P := P) (ty := type) hr hu1 hu2 hd hj hz hc.1 hc.2 (ab5 hR hex) (ab5 hR hey) hev
     refine ⟨φ', I, w', h2, h3, .inl ⟨val, ?_, h4⟩⟩
     have hargs : args = #[x, y] := by cases args; simp_all
     unfold execOp
     simp only [hargs, hats, resolve, invoke, builtin, Sem.run_bind, Sem.run_pure, Result.andThen_ok, List.map_toArray, List.map_cons, List.map_nil, h1]
    split at hres
    ·rename_i e e' hu1 hu2
     exact key e _ hu1 hu2 (by simp) hres
    ·rename_i e hu1 hu2
     exact key e _ hu1 hu2 (by simp) hres
    ·rename_i e kk hu1 hu2
     simp only [Option.bind_eq_bind, Option.bind_eq_some_iff] at hres
     obtain ⟨j, hj, z, hz, hres⟩ := hres
     split at hres
     case isFalse => simp at hres
     rename_i hc
     simp only [Bool.and_eq_true, decide_eq_true_eq] at hc
     simp only [Option.bind_eq_some_iff, Option.some.injEq] at hres
     obtain ⟨ex, hex, ey, hey, rfl⟩ := hres
     simp only [evOp] at hev
     obtain ⟨φ', val, w', h1, h2, h3, h4⟩ := dj6 (P := P) (ty := type) hr hu1 hu2 hj hz hc.1.1 hc.1.2 hc.2 (ab5 hR hex) (ab5 hR hey) hev
     refine ⟨φ', I, w', h2, h3, .inl ⟨val, ?_, h4⟩⟩
     have hargs : args = #[x, y] := by cases args; simp_all
     unfold execOp
     simp only [hargs, hats, resolve, invoke, builtin, Sem.run_bind, Sem.run_pure, Result.andThen_ok, List.map_toArray, List.map_cons, List.map_nil, h1]
    ·simp at hres
   | max =>
    simp only [ac7] at hres
    split at hres
    case h_2 => simp at hres
    rename_i x y hx
    have hargs : args = #[x, y] := by cases args; simp_all
    simp only [Option.pure_def, Option.bind_eq_bind, Option.bind_eq_some_iff, Option.some.injEq] at hres
    obtain ⟨ex, hex, ey, hey, rfl⟩ := hres
    simp only [evOp, Option.map_eq_some_iff, Prod.mk.injEq] at hev
    obtain ⟨u, hu, rfl, rfl⟩ := hev
    obtain ⟨val, h1, h2⟩ := da7 (P := P) (ats := ats) (ty := type) (ab5 hR hex) (ab5 hR hey) hu
    refine ⟨φ, I, w, .refl .., hr, .inl ⟨val, ?_, h2⟩⟩
    simp only [if_true] at h1
    unfold execOp
    simp only [hargs, resolve, invoke, builtin, Sem.run_bind, Sem.run_pure, Result.andThen_ok, List.map_toArray, List.map_cons, List.map_nil, h1]
   | min =>
    simp only [ac7] at hres
    split at hres
    case h_2 => simp at hres
    rename_i x y hx
    have hargs : args = #[x, y] := by cases args; simp_all
    simp only [Option.pure_def, Option.bind_eq_bind, Option.bind_eq_some_iff, Option.some.injEq] at hres
    obtain ⟨ex, hex, ey, hey, rfl⟩ := hres
    simp only [evOp, Option.map_eq_some_iff, Prod.mk.injEq] at hev
    obtain ⟨u, hu, rfl, rfl⟩ := hev
    obtain ⟨val, h1, h2⟩ := da7 (P := P) (ats := ats) (ty := type) (ab5 hR hex) (ab5 hR hey) hu
    refine ⟨φ, I, w, .refl .., hr, .inl ⟨val, ?_, h2⟩⟩
    simp only [Bool.false_eq_true, if_false] at h1
    unfold execOp
    simp only [hargs, resolve, invoke, builtin, Sem.run_bind, Sem.run_pure, Result.andThen_ok, List.map_toArray, List.map_cons, List.map_nil, h1]
   | copy =>
    simp only [ac7] at hres
    split at hres
    case h_2 => simp at hres
    rename_i t u x y ht hx
    have hats : ats = #[t, u] := by cases ats; simp_all
    have hargs : args = #[x, y] := by cases args; simp_all
    split at hres
    case h_2 => simp at hres
    rename_i e hu1
    simp only [Option.bind_eq_bind, Option.bind_eq_some_iff, Option.some.injEq] at hres
    obtain ⟨j, hj, ex, hex, ey, hey, rfl⟩ := hres
    simp only [evOp] at hev
    obtain ⟨val, w', h1, h2, h3, h4⟩ := di6 (P := P) (u := u) (ty := type) hr hu1 hj (ab5 hR hex) (ab5 hR hey) hev
    refine ⟨φ, I, w', h2, h3, .inl ⟨val, ?_, h4⟩⟩
    unfold execOp
    simp only [hargs, hats, resolve, invoke, builtin, Sem.run_bind, Sem.run_pure, Result.andThen_ok, List.map_toArray, List.map_cons, List.map_nil, h1]
   | cap =>
    simp only [ac7] at hres
    split at hres
    case h_2 => simp at hres
    rename_i t x ht hx
    have hats : ats = #[t] := by cases ats; simp_all
    have hargs : args = #[x] := by cases args; simp_all
    split at hres
    case h_2 => simp at hres
    rename_i e hu1
    simp only [Option.bind_eq_bind, Option.bind_eq_some_iff, Option.some.injEq] at hres
    obtain ⟨ex, hex, rfl⟩ := hres
    simp only [evOp, Option.map_eq_some_iff, Prod.mk.injEq] at hev
    obtain ⟨u, hu, rfl, rfl⟩ := hev
    have h1 := dx0 (P := P) (ty := type) hu1 (ab5 hR hex) hu
    refine ⟨φ, I, w, .refl .., hr, .inl ⟨_, ?_, .int _ _⟩⟩
    unfold execOp
    simp only [hargs, hats, resolve, invoke, builtin, Sem.run_bind, Sem.run_pure, Result.andThen_ok, List.map_toArray, List.map_cons, List.map_nil, h1]
   | clear =>
    simp only [ac7] at hres
    split at hres
    case h_2 => simp at hres
    rename_i t x ht hx
    have hats : ats = #[t] := by cases ats; simp_all
    have hargs : args = #[x] := by cases args; simp_all
    split at hres
    case h_2 => simp at hres
    rename_i e hu1
    simp only [Option.bind_eq_bind, Option.bind_eq_some_iff] at hres
    obtain ⟨j, hj, z, hz, hres⟩ := hres
    split at hres
    case isFalse => simp at hres
    rename_i hc
    simp only [Bool.and_eq_true, decide_eq_true_eq] at hc
    simp only [Option.bind_eq_some_iff, Option.some.injEq] at hres
    obtain ⟨ex, hex, rfl⟩ := hres
    simp only [evOp, Option.map_eq_some_iff, Prod.mk.injEq] at hev
    obtain ⟨H1, hu, rfl, rfl⟩ := hev
    obtain ⟨val, w', h1, h2, h3⟩ := cx8 (P := P) (ty := type) hr hu1 hj hz hc.1.1 hc.1.2 hc.2 (ab5 hR hex) hu
    refine ⟨φ, I, w', h2, h3, .inl ⟨val, ?_, .undef _⟩⟩
    unfold execOp
    simp only [hargs, hats, resolve, invoke, builtin, Sem.run_bind, Sem.run_pure, Result.andThen_ok, List.map_toArray, List.map_cons, List.map_nil, h1]
   | _ => simp [ac7] at hres
 | makeSlice t l c =>
  simp only [ac7] at hres
  split at hres
  case h_2 => simp at hres
  rename_i e hu
  simp only [Option.bind_eq_bind, Option.bind_eq_some_iff] at hres
  obtain ⟨j, hj, z, hz, hres⟩ := hres
  split at hres
  case isFalse => simp at hres
  rename_i hc
  simp only [Bool.and_eq_true, decide_eq_true_eq] at hc
  simp only [Option.bind_eq_some_iff, Option.some.injEq] at hres
  obtain ⟨el, hel, ec, hec, rfl⟩ := hres
  simp only [evOp] at hev
  obtain ⟨φ', val, w', h1, h2, h3, h4⟩ := dg2 (P := P) hr hu hj hz hc.1 hc.2 (ab5 hR hel) (ab5 hR hec) hev
  refine ⟨φ', I, w', h2, h3, .inl ⟨val, ?_, h4⟩⟩
  simp only [execOp, Sem.run_bind, h1, Result.andThen_ok, Sem.run_pure]
 | typeAssert x xt t ok =>
  simp only [ac7] at hres
  split at hres
  case h_1 => simp at hres
  case h_3 => simp at hres
  rename_i d hd hu
  simp only [Option.bind_eq_bind, Option.bind_eq_some_iff, Option.some.injEq] at hres
  obtain ⟨z, hz, ex, hex, rfl⟩ := hres
  simp only [evOp, Option.map_eq_some_iff, Prod.mk.injEq] at hev
  obtain ⟨u, hu', rfl, rfl⟩ := hev
  obtain ⟨val, h1, h2⟩ := dk8 (P := P) (xt := xt) hz hu (fun ms e => hd ms (by rw [← e])) (ab5 hR hex) hu'
  exact .ofPure hr rfl ⟨val, h1, h2⟩
 | panic x =>
  simp only [ac7, Option.pure_def, Option.bind_eq_bind, Option.bind_eq_some_iff, Option.some.injEq] at hres
  obtain ⟨e, he, rfl⟩ := hres
  simp [evOp] at hev
 | makeMap t r =>
  cases r with
  | some _ => simp [ac7] at hres
  | none =>
   simp only [ac7, Option.some.injEq] at hres; subst hres
   simp only [evOp, Option.some.injEq, Prod.mk.injEq] at hev
   obtain ⟨rfl, rfl⟩ := hev
   obtain ⟨φ', w', h1, h2, h3, h4⟩ := ci1 (P := P) hr t
   exact ⟨φ', I, w', h2, h3, .inl ⟨_, by simp only [execOp, Sem.run_bind, Option.map_none, h1, Result.andThen_ok]; rfl, h4⟩⟩
 | range t x =>
  simp only [ac7] at hres
  split at hres
  case h_2 => simp at hres
  rename_i hu
  simp only [Option.pure_def, Option.bind_eq_bind, Option.bind_eq_some_iff, Option.some.injEq] at hres
  obtain ⟨e, he, rfl⟩ := hres
  simp only [evOp] at hev
  split at hev
  case h_2 => simp at hev
  rename_i str hq
  simp only [Option.some.injEq, Prod.mk.injEq] at hev
  obtain ⟨rfl, rfl⟩ := hev
  have hx := ab5 hR he
  rw [hq] at hx
  obtain ⟨φ', w', h1, h2, h3, h4⟩ := dm8 (P := P) hr hu hx
  exact ⟨φ', I, w', h2, h3, .inl ⟨_, by simp only [execOp, Sem.run_bind, h1, Result.andThen_ok]; rfl, h4⟩⟩
 | next x str =>
  cases str with
  | false => simp [ac7] at hres
  | true =>
   simp only [ac7, Option.pure_def, Option.bind_eq_bind, Option.bind_eq_some_iff, Option.some.injEq] at hres
   obtain ⟨e, he, rfl⟩ := hres
   simp only [evOp] at hev
   obtain ⟨val, w', h1, h2, h3, h4⟩ := df8 (P := P) hr type (ab5 hR he) hev
   exact ⟨φ, I, w', h2, h3, .inl ⟨val, by simp only [execOp, Sem.run_bind, h1, Result.andThen_ok]; rfl, h4⟩⟩
 | lookup t x k ok =>
  simp only [ac7, Option.pure_def, Option.bind_eq_bind, Option.bind_eq_some_iff, Option.some.injEq] at hres
  obtain ⟨ex, hx, ek, hk, p, hp, z, hz, rfl⟩ := hres
  obtain ⟨⟨pa, pk⟩, pe⟩ := p
  obtain ⟨kt, e, d, hm, hu, hks, h1, h2, _⟩ := bj0 hp
  simp only at hks h1 h2
  subst h1 h2
  obtain ⟨i, vz, hi, hv, hc⟩ := bf0 hz
  simp only [evOp, Option.map_eq_some_iff, Prod.mk.injEq] at hev
  obtain ⟨u, hu', rfl, rfl⟩ := hev
  have hz' : (zeroValue pe).run P w = .ok vz w := by simp [zeroValue, typeInfo, hi, hv]
  exact .ofPure hr rfl (cn1 hr hm ⟨d, hu, rfl⟩ hks hz' (an6 hc) (ab5 hR hx) (ab5 hR hk) hu')
 | mapUpdate t m k x =>
  simp only [ac7, Option.pure_def, Option.bind_eq_bind, Option.bind_eq_some_iff, Option.some.injEq] at hres
  obtain ⟨em, hm', ek, hk, ex, hx, p, hp, rfl⟩ := hres
  obtain ⟨⟨pa, pk⟩, pe⟩ := p
  obtain ⟨kt, e, d, hm, hu, hks, h1, h2, _⟩ := bj0 hp
  simp only at hks h1 h2
  subst h1 h2
  simp only [evOp, Option.map_eq_some_iff, Prod.mk.injEq] at hev
  obtain ⟨H1, hu', rfl, rfl⟩ := hev
  obtain ⟨w', h1, h2, h3⟩ := bu5 hr hm ⟨d, hu, rfl⟩ hks (ab5 hR hm') (ab5 hR hk) (ab5 hR hx) hu'
  exact ⟨φ, I, w', h2, h3, .inr ⟨by simp [execOp, h1], rfl⟩⟩
 | insert t m k x =>
  simp only [ac7, Option.pure_def, Option.bind_eq_bind, Option.bind_eq_some_iff, Option.some.injEq] at hres
  obtain ⟨em, hm', ek, hk, ex, hx, p, hp, rfl⟩ := hres
  obtain ⟨⟨pa, pk⟩, pe⟩ := p
  obtain ⟨kt, e, d, hm, hu, hks, h1, h2, _⟩ := bj0 hp
  simp only at hks h1 h2
  subst h1 h2
  simp only [evOp, Option.map_eq_some_iff, Prod.mk.injEq] at hev
  obtain ⟨H1, hu', rfl, rfl⟩ := hev
  obtain ⟨w', h1, h2, h3⟩ := bu5 hr hm ⟨d, hu, rfl⟩ hks (ab5 hR hm') (ab5 hR hk) (ab5 hR hx) hu'
  exact ⟨φ, I, w', h2, h3, .inr ⟨by simp [execOp, h1], rfl⟩⟩
 | _ => simp [ac7] at hres
end
end Abs
