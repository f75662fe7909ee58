/- What the row NfaRuns needs: the document's example, run; whether a set has an octet; the law. -/
import Derived.Test.YtbilmalnlkileaaTnE
import Derived.Test.YtbilmalnlkileaaNfK
import Derived.Test.YtbilmalnlkileaaAbsFrame
import Derived.Test.YtbilmalnlkileaaAbsPsi
import Derived.Test.YtbilmalnlkileaaDenRow2
set_option linter.all false

set_option linter.all false

namespace Go.Proofs.Ytbilmalnlkileaa
open Go Abs

theorem own : ownKnob Try.prog.godebug = none := by kernel_rfl
theorem laidOut : laidOutB Try.prog = true := by kernel_rfl

@[reducible] def iNfaR {γ : Nat → EV} {Ψ : FuncId → List EV → Heap → Option (ER × Heap)} (h : ∀ f ∈ [83, 89, 121, 13, 14, 15, 16, 11, 12, 18, 19, 54, 17, 20, 49, 48, 50, 90, 51, 52, 10, 3], ∀ xs H, Ψ f xs H = none) : NfaR (env γ Ψ) :=
  { n_slices_Clone_int_int := 83, n_slices_DeleteFunc_int_int := 89, n_slices_IndexFunc_int_int := 121, n_nfa_Run := 13, n_nfa_May := 11, n_nfa_Nfa_goOn := 51, n_nfa_Nfa_tag := 52, n_nfa_Nfa_with := 50, n_nfa_Begin := 14, n_nfa_Go := 15, n_nfa_Nfa_rising := 48, n_nfa_Tag := 16, n_hackleref08_May := 12, n_hackleref08_rising := 49, n_hackleref08_Step := 18, n_hackleref01_Has := 53, n_hackleref08_List := 54, n_hackleref08_Tag := 19, n_hackleref08_Ints := 17, n_hackleref08_Rising := 20, n_nfa_Nfa_with_c1 := 90, n_octs_Has := 91, n_hacklelaw08_Of := 10, n_hacklelaw08_NfaRuns := 3, n_hacklelaw08_alive := 9, d_slices_Clone_int_int := d83 (h 83 (by simp)), d_slices_DeleteFunc_int_int := d89 (h 89 (by simp)), d_slices_IndexFunc_int_int := d121 (h 121 (by simp)), d_nfa_Run := d13 (h 13 (by simp)), d_nfa_Begin := d14 (h 14 (by simp)), d_nfa_Go := d15 (h 15 (by simp)), d_nfa_Tag := d16 (h 16 (by simp)), d_nfa_May := d11 (h 11 (by simp)), d_hackleref08_May := d12 (h 12 (by simp)), d_hackleref08_Step := d18 (h 18 (by simp)), d_hackleref08_Tag := d19 (h 19 (by simp)), d_hackleref08_List := d54 (h 54 (by simp)), d_hackleref08_Ints := d17 (h 17 (by simp)), d_hackleref08_Rising := d20 (h 20 (by simp)), d_hackleref08_rising := d49 (h 49 (by simp)), d_nfa_Nfa_rising := d48 (h 48 (by simp)), d_nfa_Nfa_with := d50 (h 50 (by simp)), d_nfa_Nfa_with_c1 := d90 (h 90 (by simp)), d_nfa_Nfa_goOn := d51 (h 51 (by simp)), d_nfa_Nfa_tag := d52 (h 52 (by simp)), d_hacklelaw08_Of := d10 (h 10 (by simp)), d_hacklelaw08_NfaRuns := d3 (h 3 (by simp)) }

def E1 : Env := env (fun _ => .undef) (fun _ _ _ => none)
theorem sound1 : E1.Sound Try.prog := env_sound fun f xs H r h => by simp at h
theorem alive08 : den E1 9 [] [] = some (.ret (.bool true), []) := den_iff.2 ⟨600, by kernel_rfl⟩
theorem alive_calls (H : Heap) : CallsA Try.prog (fun _ => .undef) 9 [] H fun er H' => er = .ret (.bool true) ∧ H' = H := CallsA.frame (den_sound sound1 alive08) rfl H

theorem has_in : HasOk Try.prog (fun _ => .undef) 91 .u8 := has_ok b91 b122 b123 b143 b144
theorem ref_in : HasOk Try.prog (fun _ => .undef) 53 .i64 := refHas_ok b53

def known (f : FuncId) (xs : List EV) (H : Heap) (r : ER × Heap) : Prop := (f = 9 ∧ xs = [] ∧ r = (.ret (.bool true), H)) ∨ (f = 91 ∧ HasR .u8 xs H r) ∨ (f = 53 ∧ HasR .i64 xs H r)
noncomputable def E0 : Env := env (fun _ => .undef) (psiOf known)
theorem sound0 : E0.Sound Try.prog := env_sound fun f xs H r h => by
  rcases psiOf_sound h with ⟨rfl, rfl, rfl⟩ | ⟨rfl, h2⟩ | ⟨rfl, h2⟩
  · exact alive_calls H
  · exact h2.calls has_in
  · exact h2.calls ref_in
theorem known_alive (H : Heap) : den E0 9 [] H = some (.ret (.bool true), H) := den_known (psiOf_some (R := known) (.inl ⟨rfl, rfl, rfl⟩) fun r' h => by
  rcases h with ⟨_, _, h⟩ | ⟨h, _⟩ | ⟨h, _⟩
  · exact h
  · exact absurd h (by decide)
  · exact absurd h (by decide))
theorem known_has : HasDen E0 91 .u8 := fun w b H hw hb => den_known (psiOf_some (R := known) (.inr (.inl ⟨rfl, w, b, hw, hb, rfl, rfl⟩)) fun r' h => by
  rcases h with ⟨h, _⟩ | ⟨_, h⟩ | ⟨h, _⟩
  · exact absurd h (by decide)
  · exact HasR.one ⟨w, b, hw, hb, rfl, rfl⟩ h
  · exact absurd h (by decide))
theorem known_ref : HasDen E0 53 .i64 := fun w b H hw hb => den_known (psiOf_some (R := known) (.inr (.inr ⟨rfl, w, b, hw, hb, rfl, rfl⟩)) fun r' h => by
  rcases h with ⟨h, _⟩ | ⟨h, _⟩ | ⟨_, h⟩
  · exact absurd h (by decide)
  · exact absurd h (by decide)
  · exact HasR.one ⟨w, b, hw, hb, rfl, rfl⟩ h)
noncomputable instance iE0 : NfaR E0 := iNfaR (γ := fun _ => .undef) (Ψ := psiOf known) fun f hf xs H => psiOf_none fun r h => by
  rcases h with ⟨rfl, _⟩ | ⟨rfl, _⟩ | ⟨rfl, _⟩ <;> exact absurd hf (by decide)

theorem nfaRuns_calls {n : NF} {x : EV} {l : List Int} (hx : IntsV x l) (s : List UInt8) (hs : s.length ≤ maxLen) : CallsA Try.prog (fun _ => .undef) 3 [n.E, x, .str s] [] fun er H' => er = .ret (.bool true) ∧ H' = [] :=
  den_sound sound0 (nfaRuns_den (R := iE0) known_has known_ref known_alive n x l hx s (by simpa [maxLen] using hs))

end Go.Proofs.Ytbilmalnlkileaa
