/- A part. -/
import Derived.Test.YtdcjkdgjlljodaaTlE
import Derived.Test.YtdcjkdgjlljodaaTlSp
import Derived.Test.YtdcjkdgjlljodaaAbsSrt
import Derived.Test.YtdcjkdgjlljodaaLgZ
set_option linter.all false
namespace Go.Proofs.Ytdcjkdgjlljodaa
open Go Abs
theorem own : ownKnob Try.prog.godebug = none := by kernel_rfl
theorem cu8 : laidOutB Try.prog = true := by kernel_rfl
@[reducible] def iAliR {γ : Nat → EV} {Ψ : FuncId → List EV → Heap → Option (ER × Heap)} (h : ∀ f ∈ [7, 22, 38, 50, 59, 37, 27, 39, 9, 15, 30, 14, 12, 11, 24, 8, 23, 26, 58, 74, 60, 69, 81, 75, 55, 47, 49, 31, 40, 29, 19, 16, 20, 21, 28, 10, 42, 35, 51, 43, 36, 45, 25, 44, 52], ∀ xs H, Ψ f xs H = none) : AliR (env γ Ψ) :=
 { af8 := 7, as7 := 22, an9 := 34, ae7 := 38, ab1 := 48, aj3 := 50, ai2 := 59, ao4 := 37, ak5 := 46, af7 := 27, ai1 := 39, at7 := 9, aj0 := 15, au5 := 30, av2 := 14, av3 := 12, ak9 := 11, ag7 := 24, aj4 := 8, aj5 := 23, ac9 := 26, ad2 := 58, ac0 := 74, ac2 := 60, as0 := 69, ak8 := 75, aq5 := 81, ag2 := 55, t_string := 9, ae6 := 47, ad3 := 49, af5 := 31, ah4 := 40, ai3 := 29, ax5 := 32, ao5 := 19, at8 := 16, ae4 := 20, ag4 := 21, al0 := 28, ax4 := 10, ap4 := 42, bc2 := 35, bc3 := 51, bl5 := 43, bb0 := 36, aq9 := 45, ab9 := 44, bm8 := 25, ab6 := 52, bd2 := d7 (h 7 (by simp)), bj8 := d22 (h 22 (by simp)), ar4 := d38 (h 38 (by simp)), aw2 := d50 (h 50 (by simp)), aw1 := d59 (h 59 (by simp)), ba1 := d37 (h 37 (by simp)), ba0 := d27 (h 27 (by simp)), aw0 := d39 (h 39 (by simp)), bd0 := d9 (h 9 (by simp)), as4 := d15 (h 15 (by simp)), bl9 := d30 (h 30 (by simp)), ba7 := d14 (h 14 (by simp)), be5 := d12 (h 12 (by simp)), aw3 := d11 (h 11 (by simp)), ar6 := d24 (h 24 (by simp)), au2 := d8 (h 8 (by simp)), au3 := d23 (h 23 (by simp)), ab3 := d26 (h 26 (by simp)), ag6 := d58 (h 58 (by simp)), ah2 := d74 (h 74 (by simp)), ai6 := d60 (h 60 (by simp)), bf8 := d69 (h 69 (by simp)), bd3 := d81 (h 81 (by simp)), av9 := d75 (h 75 (by simp)), al8 := d55 (h 55 (by simp)), ai9 := d47 (h 47 (by simp)), ai4 := d49 (h 49 (by simp)), am2 := d31 (h 31 (by simp)), ap6 := d40 (h 40 (by simp)), be7 := d29 (h 29 (by simp)), bj7 := d19 (h 19 (by simp)), bd1 := d16 (h 16 (by simp)), au1 := d20 (h 20 (by simp)), aw4 := d21 (h 21 (by simp)), be6 := d28 (h 28 (by simp)), bh8 := d10 (h 10 (by simp)), bf7 := d42 (h 42 (by simp)), bo8 := d35 (h 35 (by simp)), bo9 := d51 (h 51 (by simp)), ca9 := d43 (h 43 (by simp)), bt7 := d36 (h 36 (by simp)), bj2 := d45 (h 45 (by simp)), cj1 := d25 (h 25 (by simp)), af9 := d44 (h 44 (by simp)), ah0 := d52 (h 52 (by simp)) }@[reducible] def iLawJ {γ : Nat → EV} {Ψ : FuncId → List EV → Heap → Option (ER × Heap)} (h : ∀ f ∈ [6, 13, 38, 50, 59, 37, 27, 39, 9, 15, 30, 14, 12, 11, 24, 8, 23, 26, 58, 74, 60, 69, 81, 75, 55, 47, 49, 31, 40, 29, 19, 16, 20, 21, 28, 10, 42, 35, 51, 43, 36, 45, 25, 44, 52], ∀ xs H, Ψ f xs H = none) : LawJ (env γ Ψ) :=
 { ao0 := 6, af8 := 7, be1 := 13, ae7 := 38, ab1 := 48, aj3 := 50, ai2 := 59, ao4 := 37, ak5 := 46, af7 := 27, ai1 := 39, at7 := 9, aj0 := 15, au5 := 30, av2 := 14, av3 := 12, ak9 := 11, ag7 := 24, aj4 := 8, aj5 := 23, ac9 := 26, ad2 := 58, ac0 := 74, ac2 := 60, as0 := 69, ak8 := 75, aq5 := 81, ag2 := 55, t_string := 9, ae6 := 47, ad3 := 49, af5 := 31, ah4 := 40, ai3 := 29, ax5 := 32, ao5 := 19, at8 := 16, ae4 := 20, ag4 := 21, al0 := 28, ax4 := 10, ap4 := 42, bc2 := 35, bc3 := 51, bl5 := 43, bb0 := 36, aq9 := 45, ab9 := 44, bm8 := 25, ab6 := 52, aw5 := d6 (h 6 (by simp)), bu9 := d13 (h 13 (by simp)), ar4 := d38 (h 38 (by simp)), aw2 := d50 (h 50 (by simp)), aw1 := d59 (h 59 (by simp)), ba1 := d37 (h 37 (by simp)), ba0 := d27 (h 27 (by simp)), aw0 := d39 (h 39 (by simp)), bd0 := d9 (h 9 (by simp)), as4 := d15 (h 15 (by simp)), bl9 := d30 (h 30 (by simp)), ba7 := d14 (h 14 (by simp)), be5 := d12 (h 12 (by simp)), aw3 := d11 (h 11 (by simp)), ar6 := d24 (h 24 (by simp)), au2 := d8 (h 8 (by simp)), au3 := d23 (h 23 (by simp)), ab3 := d26 (h 26 (by simp)), ag6 := d58 (h 58 (by simp)), ah2 := d74 (h 74 (by simp)), ai6 := d60 (h 60 (by simp)), bf8 := d69 (h 69 (by simp)), bd3 := d81 (h 81 (by simp)), av9 := d75 (h 75 (by simp)), al8 := d55 (h 55 (by simp)), ai9 := d47 (h 47 (by simp)), ai4 := d49 (h 49 (by simp)), am2 := d31 (h 31 (by simp)), ap6 := d40 (h 40 (by simp)), be7 := d29 (h 29 (by simp)), bj7 := d19 (h 19 (by simp)), bd1 := d16 (h 16 (by simp)), au1 := d20 (h 20 (by simp)), aw4 := d21 (h 21 (by simp)), be6 := d28 (h 28 (by simp)), bh8 := d10 (h 10 (by simp)), bf7 := d42 (h 42 (by simp)), bo8 := d35 (h 35 (by simp)), bo9 := d51 (h 51 (by simp)), ca9 := d43 (h 43 (by simp)), bt7 := d36 (h 36 (by simp)), bj2 := d45 (h 45 (by simp)), cj1 := d25 (h 25 (by simp)), af9 := d44 (h 44 (by simp)), ah0 := d52 (h 52 (by simp)) }
def E1 : Env := env (fun _ => .undef) (fun _ _ _ => none)
theorem ei9 : E1.Sound Try.prog := cp2 fun f xs H r h => by simp at h
def vA : EV := .agg [.int .u64 0, .int .u64 8589934592, .int .u64 0, .int .u64 0]
def vB : EV := .agg [.int .u64 0, .int .u64 17179869184, .int .u64 0, .int .u64 0]
theorem rngA : den E1 34 [.int .i64 97, .int .i64 97] [] = some (.ret vA, []) := bl8.2 ⟨900, by kernel_rfl⟩
theorem rngB : den E1 34 [.int .i64 98, .int .i64 98] [] = some (.ret vB, []) := bl8.2 ⟨900, by kernel_rfl⟩
theorem dd6 (H : Heap) : CallsA Try.prog (fun _ => .undef) 34 [.int .i64 97, .int .i64 97] H fun er H' => er = .ret vA ∧ H' = H := CallsA.frame (ca8 ei9 rngA) rfl H
theorem dd5 (H : Heap) : CallsA Try.prog (fun _ => .undef) 34 [.int .i64 98, .int .i64 98] H fun er H' => er = .ret vB ∧ H' = H := CallsA.frame (ca8 ei9 rngB) rfl H
def RngR (ar : List EV) (H : Heap) (r : ER × Heap) : Prop := (ar = [.int .i64 97, .int .i64 97] ∧ r = (.ret vA, H)) ∨ (ar = [.int .i64 98, .int .i64 98] ∧ r = (.ret vB, H))
theorem RngR.one {ar : List EV} {H : Heap} {r r' : ER × Heap} (h : RngR ar H r) (h' : RngR ar H r') : r' = r := by
 rcases h with ⟨rfl, rfl⟩ | ⟨rfl, rfl⟩
 ·rcases h' with ⟨_, rfl⟩ | ⟨e, _⟩
  ·rfl
  ·simp at e
 ·rcases h' with ⟨e, _⟩ | ⟨_, rfl⟩
  ·simp at e
  ·rfl
/-! ### What is cv0 -/
def knL : List KnE := [⟨32, HasR .i64⟩, ⟨46, HasR .u8⟩, ⟨48, SortR⟩, ⟨34, RngR⟩]
theorem kn_nd : (knL.map KnE.f).Nodup := by decide
noncomputable def E0 : Env := env (fun _ => .undef) (cv1 knL)
theorem eq9 : E0.Sound Try.prog := cp2 fun f xs H r h => ee0 (fun p hp ar H r hr => by
 simp only [knL, List.mem_cons, List.not_mem_nil, or_false] at hp
 rcases hp with rfl | rfl | rfl | rfl
 ·exact HasR.calls (dn2 b32) hr
 ·exact HasR.calls (es8 b46 b53 b54 b61 b62) hr
 ·exact SortR.calls Try.lays189 ⟨Try.f48, Try.f48.body.getD .skip, Try.func48, by kernel_rfl, by kernel_rfl⟩ hr
 ·rcases hr with ⟨rfl, rfl⟩ | ⟨rfl, rfl⟩
  ·exact dd6 H
  ·exact dd5 H) h
theorem cv0 {p : KnE} (hp : p ∈ knL) {ar : List EV} {H : Heap} {r : ER × Heap} (h : p.R ar H r) (h1 : ∀ r', p.R ar H r' → r' = r) : den E0 p.f ar H = some r := dw2 (es7 kn_nd hp h h1)
theorem cf3 : bs5 E0 46 .u8 := fun w b H hw hb => cv0 (p := ⟨46, HasR .u8⟩) (by simp [knL]) ⟨w, b, hw, hb, rfl, rfl⟩ fun r' h => HasR.one ⟨w, b, hw, hb, rfl, rfl⟩ h
theorem cf2 : ba3 E0 48 := SortR.den fun ar H r h => cv0 (p := ⟨48, SortR⟩) (by simp [knL]) h fun r' h' => SortR.one h h'
theorem dr6 : dy5 E0 34 := ⟨fun H => cv0 (p := ⟨34, RngR⟩) (by simp [knL]) (.inl ⟨rfl, rfl⟩) fun r' h' => RngR.one (.inl ⟨rfl, rfl⟩) h', fun H => cv0 (p := ⟨34, RngR⟩) (by simp [knL]) (.inr ⟨rfl, rfl⟩) fun r' h' => RngR.one (.inr ⟨rfl, rfl⟩) h'⟩
theorem noK (L : List Nat) (hL : ∀ f ∈ L, f ∉ knL.map KnE.f) : ∀ f ∈ L, ∀ xs H, cv1 knL f xs H = none := fun f hf xs H => em9 (hL f hf) xs H
noncomputable instance iA0 : AliR E0 := iAliR (γ := fun _ => .undef) (Ψ := cv1 knL) (noK _ (by decide))
theorem cu9 (H : Heap) : den E0 7 [] H = some (.ret (.bool true), H) := cy5 (R := iA0) dr6 cf3 cf2 H
noncomputable instance iL0 : LawJ E0 := iLawJ (γ := fun _ => .undef) (Ψ := cv1 knL) (noK _ (by decide))
theorem dr4 {a b : RT} (ha : a.Ok) (hb : b.Ok) (s0 s1 : List UInt8) (h0 : s0.length ≤ 1000000000000000) (h1 : s1.length ≤ 1000000000000000) : CallsA Try.prog (fun _ => .undef) 6 [a.E, b.E, .agg [.str s0, .str s1]] [] fun er H' => er = .ret (.bool true) ∧ H' = [] :=
 ca8 eq9 (bv4 (R := iL0) cu9 cf3 cf2 ha hb s0 s1 h0 h1 [])
end Go.Proofs.Ytdcjkdgjlljodaa
