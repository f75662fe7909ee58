/- Walking an iterator's code; a loop over a function. -/
import Derived.Test.YtcjnpmaljfkpgaaDoorAbsIter
import Derived.Test.YtcjnpmaljfkpgaaDoorAbsSet
namespace Abs
open Go

section
variable {P : Program} {γ : Nat → EV} {α : Type} {enc : α → EV} {xs : List α} {l : Nat} {Q : AX → Slots → Nat → Bool → Prop} {s : Slots} {k : Nat} {st : Bool}

theorem wpY_seq {a b : EC} (h : wpY P γ enc xs l a (thenY (fun s' k' st' => wpY P γ enc xs l b Q s' k' st') Q) s k st) : wpY P γ enc xs l (.seq a b) Q s k st := h
theorem wpY_ops {o : List EOper} (h : wopsY P γ enc xs l Q o s k st) : wpY P γ enc xs l (.ops o) Q s k st := h
theorem wpY_skip (h : Q .normal s k st) : wpY P γ enc xs l .skip Q s k st := h
theorem wpY_exit {id : Nat} (h : Q (.exit id) s k st) : wpY P γ enc xs l (.exit id) Q s k st := h
theorem wpY_ret (h : Q .ret s k st) : wpY P γ enc xs l .ret Q s k st := h
theorem wpY_block {id : Nat} {c : EC} (h : wpY P γ enc xs l c (inBlockY id Q) s k st) : wpY P γ enc xs l (.block id c) Q s k st := h
theorem wopsY_nil (h : Q .normal s k st) : wopsY P γ enc xs l Q [] s k st := h
theorem thenY_normal {next : Slots → Nat → Bool → Prop} (h : next s k st) : thenY next Q .normal s k st := h
theorem thenY_exit {next : Slots → Nat → Bool → Prop} {id : Nat} (h : Q (.exit id) s k st) : thenY next Q (.exit id) s k st := h
theorem thenY_ret {next : Slots → Nat → Bool → Prop} (h : Q .ret s k st) : thenY next Q .ret s k st := h
theorem blockY_normal {id : Nat} (h : Q .normal s k st) : inBlockY id Q .normal s k st := h
theorem blockY_ret {id : Nat} (h : Q .ret s k st) : inBlockY id Q .ret s k st := h
theorem blockY_exit_same {id : Nat} (h : Q .normal s k st) : inBlockY id Q (.exit id) s k st := by simpa [inBlockY] using h
theorem blockY_exit_other {id id' : Nat} (hne : id' ≠ id) (h : Q (.exit id') s k st) : inBlockY id Q (.exit id') s k st := by simpa [inBlockY, hne] using h
theorem wpY_test {c : EOpd} {a b : EC} {t : Bool} (hc : ev (gY γ st) s c = .bool t) (h : gate t (wpY P γ enc xs l a Q s k st) (wpY P γ enc xs l b Q s k st)) : wpY P γ enc xs l (.cond c a b) Q s k st := by
  simp only [wpY]
  rw [hc]
  cases t
  · have h' : wpY P γ enc xs l b Q s k st := h
    simpa using h'
  · have h' : wpY P γ enc xs l a Q s k st := h
    simpa using h'
theorem wpY_cond {c : EOpd} {a b : EC} {t : Bool} (hc : ev (gY γ st) s c = .bool t) (h1 : t = true → wpY P γ enc xs l a Q s k st) (h2 : t = false → wpY P γ enc xs l b Q s k st) : wpY P γ enc xs l (.cond c a b) Q s k st := by
  simp only [wpY]
  rw [hc]
  cases t
  · simpa using h2 rfl
  · simpa using h1 rfl

theorem wopY_of {op : EOp} {v : EV} {K : EV → Nat → Bool → Prop} (hev : evOp (ev (gY γ st) s) [] op = some (v, [])) (hf : flat v = true) (h : K v k st) : wopY P γ enc xs l s k st op K := by
  unfold wopY
  split
  · simp [evOp] at hev
  · simp [evOp] at hev
  · rw [hev]; exact ⟨hf, h⟩

theorem wopsY_step {d : Option Nat} {op : EOp} {rest : List EOper} {v : EV} (hev : evOp (ev (gY γ st) s) [] op = some (v, [])) (hf : flat v = true) (h : wopsY P γ enc xs l Q rest (putA s d v) k st) : wopsY P γ enc xs l Q ({ dst := d, op := op } :: rest) s k st :=
  ⟨rfl, wopY_of hev hf (by rw [if_pos rfl]; exact h)⟩

theorem wopsY_call {d : Option Nat} {f : EOpd} {args : List EOpd} {rest : List EOper} {g : FuncId} {first cap as : List EV} {v : EV} (hf : ev (gY γ st) s f = .func (.func g) first cap) (ha : args.map (ev (gY γ st) s) = as)
    (hc : CallsA P (gY γ st) g (first ++ as ++ cap) [] fun er H' => er = .ret v ∧ H' = []) (hv : flat v = true) (h : wopsY P γ enc xs l Q rest (putA s d v) k st) : wopsY P γ enc xs l Q ({ dst := d, op := .call f args } :: rest) s k st := by
  subst ha
  refine ⟨rfl, ?_⟩
  simp only [wopY]
  rw [hf]
  exact ⟨v, hc, hv, by simpa using h⟩

theorem wopsY_yield {d : Option Nat} {f : EOpd} {args : List EOpd} {rest : List EOper} {x : α} (hf : ev (gY γ false) s f = .func (.yield l) [] []) (hx : xs[k]? = some x) (ha : args.map (ev (gY γ false) s) = [enc x])
    (h1 : wopsY P γ enc xs l Q rest (putA s d (.bool true)) (k + 1) false) (h2 : wopsY P γ enc xs l Q rest (putA (fun _ => .undef) d (.bool false)) (k + 1) true) :
    wopsY P γ enc xs l Q ({ dst := d, op := .call f args } :: rest) s k false := by
  refine ⟨rfl, ?_⟩
  simp only [wopY]
  rw [hf]
  exact ⟨rfl, trivial, x, hx, ha, by simpa using h1, by simpa using h2⟩

theorem wpY_while {ι : Type} {c : EC} (J : ι → Prop) (μ : ι → Nat) (S : ι → List (Nat × EV)) (kf : ι → Nat) (i0 : ι) (hJ : J i0) (hl : slotsAre s 0 (S i0)) (hk : k = kf i0)
    (h : ∀ i, J i → ∀ (K : Slots → Nat → Bool → Prop) (Q' : AX → Slots → Nat → Bool → Prop), (∀ j s1 k1, J j → μ j < μ i → k1 = kf j → slotsAre s1 0 (S j) → K s1 k1 false) → (∀ x s k st, Q x s k st → Q' x s k st) →
      wpY P γ enc xs l c (thenY K Q') (mkS (S i)) (kf i) false) : wpY P γ enc xs l (.loop c) Q s k false := by
  refine ⟨fun m s' k' st' => ∃ i, J i ∧ m = μ i ∧ s' = mkS (S i) ∧ k' = kf i ∧ st' = false, μ i0, mkS (S i0), fun t => mkS_or s (S i0) (fun p hp => (slotsAre_mem hl p hp).1) t, ⟨i0, hJ, rfl, rfl, hk, rfl⟩, ?_⟩
  rintro m s' k' st' ⟨i, hi, rfl, rfl, rfl, rfl⟩
  exact h i hi _ Q (fun j s1 k1 hj hlt hk1 hs => ⟨μ j, mkS (S j), hlt, fun t => mkS_or s1 (S j) (fun p hp => (slotsAre_mem hs p hp).1) t, j, hj, rfl, rfl, hk1, rfl⟩) fun _ _ _ _ h => h

theorem Body.iter {g : FuncId} {ec : EC} {nt : Nat} (hb : Body P g ec [] nt) {cap : List EV} (ha : cap.length + 1 ≤ nt) (hsc : ∀ x, isScal (enc x) = true)
    (h : ∀ l, wpY P γ enc xs l ec (fun X _ k st => (X = .normal ∨ X = .ret) ∧ (st = false → k = xs.length)) (slots0 (.func (.yield l) [] [] :: cap)) 0 false) : IterA P γ g cap enc xs := by
  obtain ⟨fn, c, own, h1, h2, h3, h4, h5, rfl⟩ := hb
  refine iterA_of_body h1 h2 h3 h4 ?_ ha hsc h
  have := (mapM_get h5).1
  exact Array.eq_empty_of_size_eq_zero (by simpa using this.symm)

/-- A loop over a function, its rounds by the values that came. -/
theorem wpc_range {f : EOpd} {p d : Nat} {c : EC} {Q : AX → Slots → Heap → Prop} {H : Heap} (Hs : List α → Heap) (J : List α → Prop) {g : FuncId} {cap : List EV} (hf : ev γ s f = .func (.func g) [] cap) (hcap : okL 0 cap = true) (hit : IterA P γ g cap enc xs)
    (hsc : ∀ x, isScal (enc x) = true) (h0 : H = Hs []) (hJ0 : J []) (hnm : ∀ pre, NoMaps (Hs pre))
    (hbody : ∀ pre x, pre.length < xs.length → J pre → wpc P γ c (rangeA Q s (Hs (pre ++ [x])) (J (pre ++ [x])) (pre ++ [x] <+: xs)) (upd (upd s p (enc x)) d (enc x)) (Hs pre)) (hdone : J xs → Q .normal s (Hs xs)) : wpc P γ (.rangeFunc f p d c) Q s H :=
  ⟨α, enc, g, cap, xs, Hs, J, hf, hcap, hit, hsc, h0.symm, hJ0, hnm, hbody, hdone⟩

theorem rangeA_normal {Q : AX → Slots → Heap → Prop} {s0 : Slots} {Hn H : Heap} {Jn whole : Prop} (h1 : H = Hn) (h2 : Jn) : rangeA Q s0 Hn Jn whole .normal s H := ⟨h1, h2⟩
theorem rangeA_ret {Q : AX → Slots → Heap → Prop} {s0 : Slots} {Hn H : Heap} {Jn whole : Prop} (h1 : whole → Q .ret s0 H) (h2 : NoMaps H) : rangeA Q s0 Hn Jn whole .ret s H := ⟨h1, h2⟩

def noMapsB : Heap → Bool
  | [] => true
  | some (.map _) :: _ => false
  | some (.it _ _) :: _ => false
  | _ :: H => noMapsB H
theorem noMaps_of : ∀ {H : Heap}, noMapsB H = true → NoMaps H
  | [], _ => fun b es h => by simp at h
  | none :: H, h => fun b es hb => by
    cases b with
    | zero => simp at hb
    | succ b => exact noMaps_of (H := H) (by simpa [noMapsB] using h) b es (by simpa using hb)
  | some (.it _ _) :: _, h => by simp [noMapsB] at h
  | some (.row _ _) :: H, h => fun b es hb => by
    cases b with
    | zero =>
      simp at hb
      subst hb
      rfl
    | succ b => exact noMaps_of (H := H) (by simpa [noMapsB] using h) b es (by simpa using hb)
  | some (.map _) :: _, h => by simp [noMapsB] at h
end
attribute [go_sem] flat isScal
end Abs
