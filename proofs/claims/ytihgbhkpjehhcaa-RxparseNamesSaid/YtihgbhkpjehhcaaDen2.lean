/- The run without a bound on its steps: its equations. -/
import Derived.Test.YtihgbhkpjehhcaaDen1
namespace Abs
open Go
set_option linter.all false

section
variable (E : Env)

open Classical in
noncomputable def lim {α : Type} (f : Nat → Option α) : Option α := if h : ∃ n r, f n = some r then some h.choose_spec.choose else none

theorem lim_iff {α : Type} {f : Nat → Option α} (hm : ∀ n m, n ≤ m → ∀ r, f n = some r → f m = some r) {r : α} : lim f = some r ↔ ∃ n, f n = some r := by
  constructor
  · intro h
    unfold lim at h
    split at h
    · rename_i hx
      have := hx.choose_spec.choose_spec
      obtain rfl := Option.some.inj h
      exact ⟨_, this⟩
    · simp at h
  · rintro ⟨n, hn⟩
    have hx : ∃ n r, f n = some r := ⟨n, r, hn⟩
    unfold lim
    rw [dif_pos hx]
    have h1 := hx.choose_spec.choose_spec
    have h2 := hm _ (max hx.choose n) (Nat.le_max_left _ _) _ h1
    have h3 := hm _ (max hx.choose n) (Nat.le_max_right _ _) _ hn
    rw [h2] at h3
    exact h3

noncomputable def den (f : FuncId) (as : List EV) (H : Heap) : Res := lim fun n => runF E n f as H
noncomputable def denC (c : EC) (s : Slots) (H : Heap) : Option Xsh := lim fun n => codeF (runF E n) E.γ n c s H
noncomputable def denO (l : List EOper) (s : Slots) (H : Heap) : Option Xsh := opsF (den E) E.γ l s H
noncomputable def denD (l : List (EOper × Bool)) (s : Slots) (H : Heap) : Option Xsh := drF (den E) E.γ l s H
noncomputable def opD (ρ : EOpd → EV) (H : Heap) (op : EOp) : Res := opF (den E) ρ H op

variable {E}
theorem den_iff {f : FuncId} {as : List EV} {H : Heap} {r : ER × Heap} : den E f as H = some r ↔ ∃ n, runF E n f as H = some r :=
  lim_iff fun n m h r => runF_mono E n m h f as H r
theorem denC_iff {c : EC} {s : Slots} {H : Heap} {r : Xsh} : denC E c s H = some r ↔ ∃ n, codeF (runF E n) E.γ n c s H = some r :=
  lim_iff fun n m h r => codeF_mono (fun g as H q => runF_mono E n m h g as H q) n m h c s H r

theorem opF_cont {ρ : EOpd → EV} {H : Heap} {op : EOp} {r : ER × Heap} (h : opF (den E) ρ H op = some r) : ∃ n, opF (runF E n) ρ H op = some r := by
  cases op with
  | call f args =>
    simp only [opF] at h ⊢
    split at h
    · exact den_iff.1 h
    · simp at h
  | _ => exact ⟨0, h⟩

theorem runF_up {n m : Nat} (h : n ≤ m) : ∀ g as H r, runF E n g as H = some r → runF E m g as H = some r := fun g as H r => runF_mono E n m h g as H r
theorem opF_up {n m : Nat} (h : n ≤ m) {ρ : EOpd → EV} {H : Heap} {op : EOp} (q : ER × Heap) (hq : opF (runF E n) ρ H op = some q) : opF (runF E m) ρ H op = some q := opF_mono (runF_up h) hq

theorem stepO_cont {r : Nat → Res} {r' : Res} {s : Slots} {K : Nat → EV → Heap → Option Xsh} {K' : EV → Heap → Option Xsh} {x : Xsh} (hr : ∀ q, r' = some q → ∃ n, r n = some q) (hk : ∀ v H y, K' v H = some y → ∃ n, K n v H = some y)
    (mr : ∀ n m, n ≤ m → ∀ q, r n = some q → r m = some q) (mk : ∀ n m, n ≤ m → ∀ v H y, K n v H = some y → K m v H = some y) (h : stepO r' s K' = some x) : ∃ n, stepO (r n) s (K n) = some x := by
  unfold stepO at h
  split at h
  · rename_i v H
    obtain ⟨n, hn⟩ := hr _ rfl
    obtain ⟨m, hm⟩ := hk _ _ _ h
    refine ⟨max n m, ?_⟩
    rw [mr n (max n m) (Nat.le_max_left _ _) _ hn]
    exact mk m _ (Nat.le_max_right _ _) _ _ _ hm
  · obtain ⟨n, hn⟩ := hr _ rfl
    exact ⟨n, by rw [hn]; exact h⟩
  · simp at h

theorem stepD_cont {r : Nat → Res} {r' : Res} {chg : Bool} {H : Heap} {K : Nat → EV → Heap → Option Xsh} {K' : EV → Heap → Option Xsh} {x : Xsh} (hr : ∀ q, r' = some q → ∃ n, r n = some q) (hk : ∀ v H y, K' v H = some y → ∃ n, K n v H = some y)
    (mr : ∀ n m, n ≤ m → ∀ q, r n = some q → r m = some q) (mk : ∀ n m, n ≤ m → ∀ v H y, K n v H = some y → K m v H = some y) (h : stepD chg H r' K' = some x) : ∃ n, stepD chg H (r n) (K n) = some x := by
  unfold stepD at h
  split at h
  · rename_i v H'
    split at h
    · rename_i hs
      obtain ⟨n, hn⟩ := hr _ rfl
      obtain ⟨m, hm⟩ := hk _ _ _ h
      refine ⟨max n m, ?_⟩
      rw [mr n (max n m) (Nat.le_max_left _ _) _ hn]
      simp only [stepD, if_pos hs]
      exact mk m _ (Nat.le_max_right _ _) _ _ _ hm
    · simp at h
  · simp at h

theorem gateO_cont {v : EV} {t : Bool} {a b : Nat → Option Xsh} {a' b' : Option Xsh} {x : Xsh} (ha : ∀ y, a' = some y → ∃ n, a n = some y) (hb : ∀ y, b' = some y → ∃ n, b n = some y) (h : gateO v t a' b' = some x) : ∃ n, gateO v t (a n) (b n) = some x := by
  unfold gateO at h
  split at h
  · split at h
    · rename_i e
      obtain ⟨n, hn⟩ := ha _ h
      exact ⟨n, by simp only [gateO]; rw [if_pos e]; exact hn⟩
    · rename_i e
      obtain ⟨n, hn⟩ := hb _ h
      exact ⟨n, by simp only [gateO]; rw [if_neg e]; exact hn⟩
  · obtain ⟨n, hn⟩ := hb _ h
    exact ⟨n, hn⟩
  · simp at h

theorem denO_cont : ∀ (l : List EOper) (s : Slots) (H : Heap) (r : Xsh), opsF (den E) E.γ l s H = some r → ∃ n, opsF (runF E n) E.γ l s H = some r
  | [], s, H, r, h => ⟨0, h⟩
  | o :: rest, s, H, r, h => by
    unfold opsF at h ⊢
    have ih := denO_cont rest
    have up : ∀ n m, n ≤ m → ∀ (v : EV) (H : Heap) (y : Xsh), opsF (runF E n) E.γ rest (putA s o.dst v) H = some y → opsF (runF E m) E.γ rest (putA s o.dst v) H = some y := fun n m h v H y hy => opsF_mono (runF_up h) _ _ _ _ hy
    split at h
    · exact stepO_cont (fun q hq => opF_cont hq) (fun v H y hy => ih _ _ _ hy) (fun n m hnm q hq => opF_up hnm q hq) up h
    · exact gateO_cont (fun y hy => stepO_cont (fun q hq => opF_cont hq) (fun v H y hy => ih _ _ _ hy) (fun n m hnm q hq => opF_up hnm q hq) up hy) (fun y hy => ih _ _ _ hy) h

theorem denD_cont : ∀ (l : List (EOper × Bool)) (s : Slots) (H : Heap) (r : Xsh), drF (den E) E.γ l s H = some r → ∃ n, drF (runF E n) E.γ l s H = some r
  | [], s, H, r, h => ⟨0, h⟩
  | (o, chg) :: rest, s, H, r, h => by
    unfold drF at h ⊢
    have ih := denD_cont rest
    have up : ∀ n m, n ≤ m → ∀ (v : EV) (H : Heap) (y : Xsh), drF (runF E n) E.γ rest (putA s o.dst v) H = some y → drF (runF E m) E.γ rest (putA s o.dst v) H = some y := fun n m h v H y hy => drF_mono (runF_up h) _ _ _ _ hy
    split at h
    · exact stepD_cont (fun q hq => opF_cont hq) (fun v H y hy => ih _ _ _ hy) (fun n m hnm q hq => opF_up hnm q hq) up h
    · exact gateO_cont (fun y hy => stepD_cont (fun q hq => opF_cont hq) (fun v H y hy => ih _ _ _ hy) (fun n m hnm q hq => opF_up hnm q hq) up hy) (fun y hy => ih _ _ _ hy) h

theorem runF_den {n : Nat} : ∀ g as H r, runF E n g as H = some r → den E g as H = some r := fun _ _ _ _ h => den_iff.2 ⟨n, h⟩

theorem opt_ext {α : Type} {x y : Option α} (h : ∀ r, x = some r ↔ y = some r) : x = y := by
  cases x with
  | none => cases y with
    | none => rfl
    | some b => exact absurd ((h b).2 rfl) (by simp)
  | some a => exact ((h a).1 rfl).symm

theorem code_up {n m : Nat} (h : n ≤ m) {c : EC} {s : Slots} {H : Heap} (q : Xsh) (hq : codeF (runF E n) E.γ n c s H = some q) : codeF (runF E m) E.γ m c s H = some q := codeF_mono (runF_up h) n m h _ _ _ _ hq

variable {s : Slots} {H : Heap}

theorem denC_skip : denC E .skip s H = some (.normal, s, H) := denC_iff.2 ⟨1, rfl⟩
theorem denC_exit {id : Nat} : denC E (.exit id) s H = some (.exit id, s, H) := denC_iff.2 ⟨1, rfl⟩
theorem denC_ret : denC E .ret s H = some (.ret, s, H) := denC_iff.2 ⟨1, rfl⟩

theorem denC_ops {l : List EOper} : denC E (.ops l) s H = denO E l s H := by
  refine opt_ext fun r => ⟨fun h => ?_, fun h => ?_⟩
  · obtain ⟨n, hn⟩ := denC_iff.1 h
    cases n with
    | zero => simp [codeF] at hn
    | succ n => exact opsF_mono (runF_den (n := n + 1)) _ _ _ _ hn
  · obtain ⟨n, hn⟩ := denO_cont _ _ _ _ h
    exact denC_iff.2 ⟨n + 1, opsF_mono (runF_up (Nat.le_succ n)) _ _ _ _ hn⟩

theorem denC_draw {l : List (EOper × Bool)} : denC E (.draw l) s H = denD E l s H := by
  refine opt_ext fun r => ⟨fun h => ?_, fun h => ?_⟩
  · obtain ⟨n, hn⟩ := denC_iff.1 h
    cases n with
    | zero => simp [codeF] at hn
    | succ n => exact drF_mono (runF_den (n := n + 1)) _ _ _ _ hn
  · obtain ⟨n, hn⟩ := denD_cont _ _ _ _ h
    exact denC_iff.2 ⟨n + 1, drF_mono (runF_up (Nat.le_succ n)) _ _ _ _ hn⟩

theorem denC_drawS {l : List EOper} {us : List (Nat × Nat)} : denC E (.drawS l us) s H = (match dsF E.γ l s H with | some (s', H', fs) => if apart fs us then some (.normal, s', H') else none | none => none) := by
  refine opt_ext fun r => ⟨fun h => ?_, fun h => ?_⟩
  · obtain ⟨n, hn⟩ := denC_iff.1 h
    cases n with
    | zero => simp [codeF] at hn
    | succ n => exact hn
  · exact denC_iff.2 ⟨1, h⟩

theorem bindN_cont {x : Nat → Option Xsh} {x' : Option Xsh} {K : Nat → Slots → Heap → Option Xsh} {K' : Slots → Heap → Option Xsh} {y : Xsh} (hx : ∀ q, x' = some q → ∃ n, x n = some q) (hk : ∀ s H q, K' s H = some q → ∃ n, K n s H = some q)
    (mx : ∀ n m, n ≤ m → ∀ q, x n = some q → x m = some q) (mk : ∀ n m, n ≤ m → ∀ s H q, K n s H = some q → K m s H = some q) (h : bindN x' K' = some y) : ∃ n, bindN (x n) (K n) = some y := by
  cases x' with
  | none => simp [bindN] at h
  | some q =>
    obtain ⟨n, hn⟩ := hx _ rfl
    obtain ⟨e, s, H⟩ := q
    by_cases he : e = .normal
    · subst he
      obtain ⟨m, hm⟩ := hk _ _ _ h
      refine ⟨max n m, ?_⟩
      rw [mx n (max n m) (Nat.le_max_left _ _) _ hn]
      exact mk m _ (Nat.le_max_right _ _) _ _ _ hm
    · refine ⟨n, ?_⟩
      rw [hn]
      cases e <;> first | exact absurd rfl he | exact h

theorem bind_up {b : EC} : ∀ n m, n ≤ m → ∀ s H q, codeF (runF E n) E.γ n b s H = some q → codeF (runF E m) E.γ m b s H = some q := fun n m h s H q hq => code_up h q hq

theorem codeF_next {n : Nat} {c : EC} (q : Xsh) (h : codeF (runF E (n + 1)) E.γ n c s H = some q) : denC E c s H = some q :=
  denC_iff.2 ⟨n + 1, codeF_mono (fun _ _ _ _ h => h) n (n + 1) (Nat.le_succ n) _ _ _ _ h⟩
theorem codeF_prev {n : Nat} {c : EC} (q : Xsh) (h : codeF (runF E n) E.γ n c s H = some q) : codeF (runF E (n + 1)) E.γ n c s H = some q :=
  codeF_mono (runF_up (Nat.le_succ n)) n n (Nat.le_refl n) _ _ _ _ h

theorem denC_seq {a b : EC} : denC E (.seq a b) s H = bindN (denC E a s H) fun s' H' => denC E b s' H' := by
  refine opt_ext fun r => ⟨fun h => ?_, fun h => ?_⟩
  · obtain ⟨n, hn⟩ := denC_iff.1 h
    cases n with
    | zero => simp [codeF] at hn
    | succ n => exact bindN_mono (fun q hq => codeF_next q hq) (fun s H q hq => codeF_next q hq) hn
  · obtain ⟨n, hn⟩ := bindN_cont (x := fun n => codeF (runF E n) E.γ n a s H) (K := fun n s' H' => codeF (runF E n) E.γ n b s' H') (fun q hq => denC_iff.1 hq) (fun s H q hq => denC_iff.1 hq) (fun n m h q hq => code_up h q hq) bind_up h
    exact denC_iff.2 ⟨n + 1, bindN_mono (fun q hq => codeF_prev q hq) (fun s H q hq => codeF_prev q hq) hn⟩

theorem denC_loop {c : EC} : denC E (.loop c) s H = bindN (denC E c s H) fun s' H' => denC E (.loop c) s' H' := by
  refine opt_ext fun r => ⟨fun h => ?_, fun h => ?_⟩
  · obtain ⟨n, hn⟩ := denC_iff.1 h
    cases n with
    | zero => simp [codeF] at hn
    | succ n => exact bindN_mono (fun q hq => codeF_next q hq) (fun s H q hq => codeF_next q hq) hn
  · obtain ⟨n, hn⟩ := bindN_cont (x := fun n => codeF (runF E n) E.γ n c s H) (K := fun n s' H' => codeF (runF E n) E.γ n (.loop c) s' H') (fun q hq => denC_iff.1 hq) (fun s H q hq => denC_iff.1 hq) (fun n m h q hq => code_up h q hq) bind_up h
    exact denC_iff.2 ⟨n + 1, bindN_mono (fun q hq => codeF_prev q hq) (fun s H q hq => codeF_prev q hq) hn⟩

theorem denC_block {id : Nat} {c : EC} : denC E (.block id c) s H = blockX id (denC E c s H) := by
  refine opt_ext fun r => ⟨fun h => ?_, fun h => ?_⟩
  · obtain ⟨n, hn⟩ := denC_iff.1 h
    cases n with
    | zero => simp [codeF] at hn
    | succ n => exact blockX_mono (fun q hq => codeF_next q hq) hn
  · cases hx : denC E c s H with
    | none => rw [hx] at h; simp [blockX] at h
    | some q =>
      obtain ⟨n, hn⟩ := denC_iff.1 hx
      rw [hx] at h
      refine denC_iff.2 ⟨n + 1, ?_⟩
      simp only [codeF]
      rw [codeF_prev q hn]
      exact h

theorem denC_cond {c : EOpd} {a b : EC} : denC E (.cond c a b) s H = condA (ev E.γ s c) (denC E a s H) (denC E b s H) := by
  refine opt_ext fun r => ⟨fun h => ?_, fun h => ?_⟩
  · obtain ⟨n, hn⟩ := denC_iff.1 h
    cases n with
    | zero => simp [codeF] at hn
    | succ n => exact condA_mono (fun q hq => codeF_next q hq) (fun q hq => codeF_next q hq) hn
  · unfold condA at h
    split at h
    · rename_i t ht
      split at h
      · rename_i e
        obtain ⟨n, hn⟩ := denC_iff.1 h
        refine denC_iff.2 ⟨n + 1, ?_⟩
        simp only [codeF, ht, condA]
        rw [if_pos e]; exact codeF_prev _ hn
      · rename_i e
        obtain ⟨n, hn⟩ := denC_iff.1 h
        refine denC_iff.2 ⟨n + 1, ?_⟩
        simp only [codeF, ht, condA]
        rw [if_neg e]; exact codeF_prev _ hn
    · simp at h

theorem den_fun {f : FuncId} {as : List EV} {d : FnD} (hT : E.T f = some d) (hΨ : E.Ψ f as = none) (hl : as.length ≤ d.nt) : den E f as H = finF H d.rs (denC E d.ec (slots0 as) H) := by
  refine opt_ext fun r => ⟨fun h => ?_, fun h => ?_⟩
  · obtain ⟨n, hn⟩ := den_iff.1 h
    cases n with
    | zero => simp [runF] at hn
    | succ n =>
      simp only [runF, hΨ, hT, if_pos hl] at hn
      exact finF_mono (fun q hq => denC_iff.2 ⟨n, hq⟩) hn
  · cases hx : denC E d.ec (slots0 as) H with
    | none => rw [hx] at h; simp [finF] at h
    | some q =>
      obtain ⟨n, hn⟩ := denC_iff.1 hx
      rw [hx] at h
      refine den_iff.2 ⟨n + 1, ?_⟩
      simp only [runF, hΨ, hT, if_pos hl, hn]
      exact h

theorem den_known {f : FuncId} {as : List EV} {v : EV} (hΨ : E.Ψ f as = some v) : den E f as H = some (.ret v, H) :=
  den_iff.2 ⟨1, by simp only [runF, hΨ]⟩

end
end Abs
