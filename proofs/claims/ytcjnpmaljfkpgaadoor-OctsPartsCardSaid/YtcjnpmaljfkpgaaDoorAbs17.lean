/- Regions whose order is drawn: the theorem. -/
import Derived.Test.YtcjnpmaljfkpgaaDoorAbs16
namespace Abs
open Go

/-- May an operation change the heap (or call)? -/
def EOp.eff : EOp → Bool
  | .store _ _ _ | .box _ | .append _ _ _ _ | .copy _ _ | .call _ _ | .panic _ | .mkmap | .mapset _ _ _ _ _ => true
  | .bsl _ _ _ _ own => own
  | _ => false

def EOp.looks : EOp → Bool
  | .load _ _ _ => true
  | .lookup _ _ _ _ _ _ => true
  | op => op.eff

theorem evOp_noeff {ρ : EOpd → EV} {H H' : Heap} {op : EOp} {v : EV} (he : op.eff = false) (h : evOp ρ H op = some (v, H')) : H' = H := by
  cases op <;> simp [EOp.eff] at he <;> simp only [evOp] at h
  all_goals first
    | (simp only [Option.some.injEq, Prod.mk.injEq] at h; exact h.2.symm)
    | (simp only [Option.map_eq_some_iff, Prod.mk.injEq] at h; obtain ⟨_, _, _, h⟩ := h; exact h.symm)
    | (split at h <;> simp only [Option.some.injEq, Prod.mk.injEq, reduceCtorEq] at h <;> exact h.2.symm)
    | (split at h <;> first | (split at h <;> simp only [Option.some.injEq, Prod.mk.injEq, reduceCtorEq] at h <;> exact h.2.symm) | (simp only [Option.some.injEq, Prod.mk.injEq, reduceCtorEq] at h; done))
    | (split at h <;> first
        | (simp only [Option.map_eq_some_iff, Prod.mk.injEq] at h; obtain ⟨_, _, _, h⟩ := h; exact h.symm)
        | (simp only [reduceCtorEq] at h; done)
        | (split at h <;> first | (simp only [Option.map_eq_some_iff, Prod.mk.injEq] at h; obtain ⟨_, _, _, h⟩ := h; exact h.symm) | (simp only [reduceCtorEq] at h; done)))
    | skip
  · subst he
    split at h
    · simp only [Bool.false_eq_true, if_false, Option.some.injEq, Prod.mk.injEq] at h
      exact h.2.symm
    · simp at h

theorem evOp_blind {ρ : EOpd → EV} {H H2 : Heap} {op : EOp} {v : EV} (he : op.looks = false) (h : evOp ρ H op = some (v, H)) : evOp ρ H2 op = some (v, H2) := by
  cases op <;> simp [EOp.looks, EOp.eff] at he <;> simp only [evOp] at h ⊢
  all_goals first
    | (simp only [Option.some.injEq, Prod.mk.injEq, and_true] at h ⊢; exact h)
    | (simp only [Option.map_eq_some_iff, Prod.mk.injEq, and_true] at h ⊢; exact h)
    | (split at h <;> simp_all; done)
    | skip
  · split at h
    · rename_i h1
      rw [if_pos h1]
      split at h
      · simp only [Option.some.injEq, Prod.mk.injEq, and_true] at h ⊢; exact h
      · simp at h
    · simp at h
  · subst he
    split at h
    · rename_i h1
      rw [if_pos h1]
      simp only [Bool.false_eq_true, if_false, Option.some.injEq, Prod.mk.injEq, and_true] at h ⊢
      exact h
    · simp at h

/-- Do two operations meet at a slot? -/
def meets (a b : EOper) : Bool :=
  (match a.dst with | some d => b.reads.contains d || b.dst == some d | none => false) || (match b.dst with | some d => a.reads.contains d | none => false)

/-- The order in which a region may be drawn: what stands ahead of what. -/
def drawOk (l : List EOper) (deps pre : List (List Nat)) (chg : List Bool) : Bool :=
  let at_ (i : Nat) : EOper := l.getD i default
  let pr (i : Nat) : List Nat := pre.getD i []
  let ch (i : Nat) : Bool := chg.getD i false
  (List.range l.length).all fun i =>
    (deps.getD i []).all (· < i) &&
    (pr i).all (fun j => (deps.getD i []).any fun k => k == j || (pr k).contains j) &&
    (List.range i).all (fun j =>
      (!meets (at_ j) (at_ i) || (pr i).contains j) &&
      (!((at_ j).op.eff && (at_ i).op.eff) || (pr i).contains j) &&
      (!((ch j && (at_ i).op.looks) || (ch i && (at_ j).op.looks) || (ch i && ch j)) || (pr i).contains j))

/-- A region in the text's order; 'chg': may this operation change the heap? -/
def wdr (P : Program) (γ : Nat → EV) (Q : AX → Slots → Heap → Prop) : List (EOper × Bool) → Slots → Heap → Prop
  | [], s, H => Q .normal s H
  | (o, chg) :: rest, s, H => ∃ v H', Runs P γ s H o v H' ∧ (chg = false → H' = H) ∧ wdr P γ Q rest (putA s o.dst v) H'

theorem wdr_parts {P : Program} {γ : Nat → EV} {Q : AX → Slots → Heap → Prop} : ∀ (l : List (EOper × Bool)) (s : Slots) (H : Heap), wdr P γ Q l s H →
    ∃ (val : Nat → EV) (hs : Nat → Heap), hs 0 = H ∧ (∀ (i : Nat) (o : EOper) (c : Bool), l[i]? = some (o, c) → Runs P γ (stS val (fun j => decide (j < i)) 0 (l.map (·.1)) s) (hs i) o (val i) (hs (i + 1)) ∧ (c = false → hs (i + 1) = hs i)) ∧
      Q .normal (stS val (fun _ => true) 0 (l.map (·.1)) s) (hs l.length)
  | [], s, H, h => ⟨fun _ => .undef, fun _ => H, rfl, by simp, h⟩
  | (o, c) :: l, s, H, h => by
    obtain ⟨v, H', h1, h2, h3⟩ := h
    obtain ⟨val, hs, g0, g1, g2⟩ := wdr_parts l _ _ h3
    have shift : ∀ (S : Nat → Bool) (l : List EOper) (i : Nat) (s : Slots), stS (fun j => match j with | 0 => v | j + 1 => val j) S (i + 1) l s = stS val (fun j => S (j + 1)) i l s := by
      intro S l
      induction l with
      | nil => intro i s; rfl
      | cons o' l ih => intro i s; simp only [stS]; rw [ih]
    refine ⟨fun j => match j with | 0 => v | j + 1 => val j, fun j => match j with | 0 => H | j + 1 => hs j, rfl, fun i o' c' hi => ?_, ?_⟩
    · cases i with
      | zero =>
        simp only [List.getElem?_cons_zero, Option.some.injEq, Prod.mk.injEq] at hi
        obtain ⟨rfl, rfl⟩ := hi
        have none_ : stS (fun j => match j with | 0 => v | j + 1 => val j) (fun j => decide (j < 0)) 0 (((o, c) :: l).map (·.1)) s = s := by
          have : ∀ (l : List EOper) (i : Nat) (s : Slots), stS (fun j => match j with | 0 => v | j + 1 => val j) (fun j => decide (j < 0)) i l s = s := by
            intro l
            induction l with
            | nil => intro i s; rfl
            | cons o' l ih => intro i s; simp only [stS, Nat.not_lt_zero, decide_false, Bool.false_eq_true, if_false]; exact ih _ _
          exact this _ _ _
        rw [none_]
        simp only [g0]
        exact ⟨h1, h2⟩
      | succ i =>
        have := g1 i o' c' (by simpa using hi)
        simp only [List.map_cons, stS, Nat.zero_lt_succ, decide_true, if_true]
        rw [shift]
        simpa using this
    · simp only [List.map_cons, stS, if_true]
      rw [shift]
      simpa using g2

end Abs
