/- Functions that defer a call: rules for their runs. -/
import Derived.Test.YtbilmalnlkileaaDen4
set_option linter.all false

namespace Abs
open Go
set_option linter.all false

section
variable (E : Env)
abbrev QE := Xsh → Option (FuncId × List EV) → Prop
def HE (f : EF) (s : Slots) (H : Heap) (Q : QE) : Prop := ∃ n x, efF (runF E n) E.γ n f s H = some x ∧ Q x.1 x.2
structure DefE (E : Env) (f : FuncId) (ef : EF) (rs : List ERes) (nt : Nat) : Prop where
  T : E.T f = none
  F : E.F f = some ⟨ef, rs, nt⟩
  Ψ : ∀ as H, E.Ψ f as H = none
/-- The deferred call, behind the rest. -/
def HDf (g : FuncId) (as : List EV) (H : Heap) (pv : Option EV) (K : Heap → Prop) : Prop :=
  ∃ d, E.D g = some d ∧ as.length ≤ d.nt ∧ @Hd E ⟨d.ec⟩ ⟨upd (upd (slots0 as) d.d0 (pv.getD .nilif)) d.d1 (pv.getD .nilif)⟩ ⟨H⟩ ⟨fun x s2 H2 => ∃ v H3, finF H [] (some (x, s2, H2)) = some (.ret v, H3) ∧ K H3⟩
/-- How a function that defers ends. -/
def finQE (H : Heap) (rs : List ERes) (r : ER × Heap) (x : Xsh) (d : Option (FuncId × List EV)) : Prop :=
  match d with
  | none => finF H rs (some x) = some r
  | some (g, as) =>
    match x with
    | (.normal, s, H') | (.ret, s, H') => HDf E g as H' none fun H2 => finR H r (evResults s H2 rs) H2
    | (.panic v, s, H') => HDf E g as H' (some v) fun H2 => finR H r (evResults s H2 rs) H2
    | _ => False
end

section
variable {E : Env} {s : Slots} {H : Heap}

theorem HE_code {ec : EC} {Q : QE} (h : @Hd E ⟨ec⟩ ⟨s⟩ ⟨H⟩ ⟨fun x s' H' => Q (x, s', H') none⟩) : HE E (.code ec) s H Q := by
  obtain ⟨x, s', H', h1, h2⟩ := h
  obtain ⟨n, hn⟩ := denC_iff.1 h1
  simp only at hn h2
  exact ⟨n, ((x, s', H'), none), by simp only [efF, hn, Option.map_some], h2⟩
theorem HE_pre {a : EC} {f : EF} {Q : QE} (h : @Hd E ⟨a⟩ ⟨s⟩ ⟨H⟩ ⟨fun x s' H' => match x with | .normal => HE E f s' H' Q | x => Q (x, s', H') none⟩) : HE E (.pre a f) s H Q := by
  obtain ⟨x, s', H', h1, h2⟩ := h
  obtain ⟨n, hn⟩ := denC_iff.1 h1
  simp only at hn h2
  cases x with
  | normal =>
    obtain ⟨m, y, hy, hq⟩ := h2
    refine ⟨max n m, y, ?_, hq⟩
    simp only [efF, code_up (Nat.le_max_left n m) _ hn]
    exact efF_mono (runF_up (Nat.le_max_right n m)) (Nat.le_max_right n m) _ _ _ _ hy
  | _ => exact ⟨n, _, by simp only [efF, hn]; rfl, h2⟩
theorem HE_dfr {l : List EOper} {f : EOpd} {args : List EOpd} {c : EC} {Q : QE} (h : @HO E ⟨l⟩ ⟨s⟩ ⟨H⟩ ⟨fun x s1 H1 => match x with
      | .normal => ∃ g first cap, ev E.γ s1 f = .func (.func g) first cap ∧ @Hd E ⟨c⟩ ⟨s1⟩ ⟨H1⟩ ⟨fun x s' H' => Q (x, s', H') (some (g, first ++ args.map (ev E.γ s1) ++ cap))⟩
      | x => Q (x, s1, H1) none⟩) : HE E (.dfr l f args c) s H Q := by
  obtain ⟨x, s1, H1, h1, h2⟩ := h
  simp only at h1 h2
  obtain ⟨n, hn⟩ := denO_cont l s H _ h1
  cases x with
  | normal =>
    obtain ⟨g, first, cap, hf, y, s2, H2, h3, hq⟩ := h2
    simp only at h3 hq
    obtain ⟨m, hm⟩ := denC_iff.1 h3
    refine ⟨max n m, ((y, s2, H2), some (g, first ++ args.map (ev E.γ s1) ++ cap)), ?_, hq⟩
    simp only [efF, opsF_mono (runF_up (Nat.le_max_left n m)) _ _ _ _ hn, hf, code_up (Nat.le_max_right n m) _ hm, Option.map_some]
  | _ => exact ⟨n, _, by simp only [efF, hn]; rfl, h2⟩

theorem HDf_run {g : FuncId} {as : List EV} {pv : Option EV} {K : Heap → Prop} (h : HDf E g as H pv K) : ∃ n H2, dcF (runF E n) E.γ E.D n g as H pv = some H2 ∧ K H2 := by
  obtain ⟨d, hd, hl, x, s2, H2, h1, v, H3, h2, hk⟩ := h
  simp only at h1 h2 hk
  obtain ⟨n, hn⟩ := denC_iff.1 h1
  refine ⟨n, H3, ?_, hk⟩
  simp only [dcF, hd, if_pos hl, hn, h2]

theorem den_ofE {f : FuncId} {ef : EF} {rs : List ERes} {nt : Nat} (hF : DefE E f ef rs nt) {as : List EV} {r : ER × Heap} (hl : as.length ≤ nt) (h : HE E ef (slots0 as) H (finQE E H rs r)) : den E f as H = some r := by
  obtain ⟨n, x, hx, hq⟩ := h
  have key : ∃ m, n ≤ m ∧ finE (runF E m) E.γ E.D m H rs (some x) = some r := by
    obtain ⟨⟨x, s1, H1⟩, d⟩ := x
    cases d with
    | none => exact ⟨n, Nat.le_refl n, hq⟩
    | some p =>
      obtain ⟨g, as'⟩ := p
      have go : ∀ pv, HDf E g as' H1 pv (fun H2 => finR H r (evResults s1 H2 rs) H2) → ∃ m, n ≤ m ∧ (match dcF (runF E m) E.γ E.D m g as' H1 pv with | some H2 => finR' H rs s1 H2 | none => none) = some r := by
        intro pv hd
        obtain ⟨m, H2, hm, hr⟩ := HDf_run hd
        refine ⟨max n m, Nat.le_max_left n m, ?_⟩
        rw [dcF_mono (runF_up (Nat.le_max_right n m)) (Nat.le_max_right n m) hm]
        unfold finR at hr
        unfold finR'
        simp only
        cases hv : evResults s1 H2 rs with
        | none => rw [hv] at hr; exact hr.elim
        | some v => rw [hv] at hr; exact hr
      cases x with
      | normal => exact go _ hq
      | ret => exact go _ hq
      | panic v => exact go _ hq
      | exit id => exact hq.elim
      | goto l => exact hq.elim
  obtain ⟨m, hnm, hm⟩ := key
  refine den_iff.2 ⟨m + 1, ?_⟩
  unfold runF
  rw [hF.Ψ, hF.T, hF.F]
  simp only
  rw [if_pos hl, efF_mono (runF_up hnm) hnm _ _ _ _ hx]
  exact hm
end
end Abs

namespace Abs
open Go

def look {α : Type} : List (Nat × α) → Nat → Option α
  | [], _ => none
  | (k, x) :: l, n => if n = k then some x else look l n

def AllT {α : Type} (p : Nat → α → Prop) : List (Nat × α) → Prop
  | [] => True
  | (k, x) :: l => p k x ∧ AllT p l

theorem AllT.look {α : Type} {p : Nat → α → Prop} : ∀ {l : List (Nat × α)}, AllT p l → ∀ {n : Nat} {x : α}, Abs.look l n = some x → p n x
  | [], _, n, x, h => by simp [Abs.look] at h
  | (k, y) :: l, h, n, x, hx => by
    unfold Abs.look at hx
    split at hx
    · rename_i e
      obtain rfl := Option.some.inj hx
      rw [e]
      exact h.1
    · exact AllT.look h.2 hx

end Abs
