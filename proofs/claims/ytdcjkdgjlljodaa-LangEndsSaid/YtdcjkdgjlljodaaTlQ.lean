/- A part. -/
import Derived.Test.YtdcjkdgjlljodaaTlE
import Derived.Test.YtdcjkdgjlljodaaTlSp
import Derived.Test.YtdcjkdgjlljodaaAbsSrt
import Derived.Test.YtdcjkdgjlljodaaLgY
set_option linter.all false
namespace Go.Proofs.Ytdcjkdgjlljodaa
open Go Abs
theorem own : ownKnob Try.prog.godebug = none := by kernel_rfl
theorem cv4 : laidOutB Try.prog = true := by kernel_rfl
@[reducible] def iAliR {γ : Nat → EV} {Ψ : FuncId → List EV → Heap → Option (ER × Heap)} (h : ∀ f ∈ [7, 22, 38, 50, 59, 37, 27, 39, 9, 15, 30, 14, 12, 11, 24, 8, 23, 26, 58, 74, 60, 69, 81, 75, 55, 47, 49, 31, 40, 29, 19, 16, 20, 21, 28, 10, 42, 35, 51, 43, 36, 45, 25, 44, 52], ∀ xs H, Ψ f xs H = none) : AliR (env γ Ψ) :=
 { ag5 := 7, au4 := 22, ap0 := 34, af3 := 38, ab3 := 48, ak0 := 50, ai9 := 59, ap4 := 37, an5 := 46, ag3 := 27, ai8 := 39, as0 := 9, at6 := 15, av7 := 30, aw3 := 14, al7 := 12, aj0 := 11, ah4 := 24, ak1 := 8, ak2 := 23, ad2 := 26, ad5 := 58, ac4 := 74, ac6 := 60, at7 := 69, al6 := 75, as1 := 81, ag9 := 55, t_string := 9, af2 := 47, ad6 := 49, ag2 := 31, ai2 := 40, ah2 := 29, ai5 := 32, al4 := 19, av0 := 16, ag4 := 20, aj2 := 21, aj1 := 28, an6 := 10, aq7 := 42, bd7 := 35, bd8 := 51, bl6 := 43, bc3 := 36, as6 := 45, ac2 := 44, bn2 := 25, ab9 := 52, be8 := d7 (h 7 (by simp)), bk0 := d22 (h 22 (by simp)), at0 := d38 (h 38 (by simp)), ax0 := d50 (h 50 (by simp)), aw9 := d59 (h 59 (by simp)), bb2 := d37 (h 37 (by simp)), bb1 := d27 (h 27 (by simp)), aw8 := d39 (h 39 (by simp)), be6 := d9 (h 9 (by simp)), az5 := d15 (h 15 (by simp)), bm1 := d30 (h 30 (by simp)), bb9 := d14 (h 14 (by simp)), ax2 := d12 (h 12 (by simp)), ax1 := d11 (h 11 (by simp)), at3 := d24 (h 24 (by simp)), av4 := d8 (h 8 (by simp)), av5 := d23 (h 23 (by simp)), ab4 := d26 (h 26 (by simp)), ah3 := d58 (h 58 (by simp)), ai0 := d74 (h 74 (by simp)), aj5 := d60 (h 60 (by simp)), bg8 := d69 (h 69 (by simp)), be9 := d81 (h 81 (by simp)), aw7 := d75 (h 75 (by simp)), am8 := d55 (h 55 (by simp)), aj8 := d47 (h 47 (by simp)), aj3 := d49 (h 49 (by simp)), an1 := d31 (h 31 (by simp)), ar1 := d40 (h 40 (by simp)), ax4 := d29 (h 29 (by simp)), bb3 := d19 (h 19 (by simp)), be7 := d16 (h 16 (by simp)), av3 := d20 (h 20 (by simp)), ax5 := d21 (h 21 (by simp)), ax3 := d28 (h 28 (by simp)), ay8 := d10 (h 10 (by simp)), bg7 := d42 (h 42 (by simp)), bp3 := d35 (h 35 (by simp)), bp4 := d51 (h 51 (by simp)), ca7 := d43 (h 43 (by simp)), bu3 := d36 (h 36 (by simp)), bj5 := d45 (h 45 (by simp)), cj0 := d25 (h 25 (by simp)), ag6 := d44 (h 44 (by simp)), ah8 := d52 (h 52 (by simp)) }@[reducible] def iLawE {γ : Nat → EV} {Ψ : FuncId → List EV → Heap → Option (ER × Heap)} (h : ∀ f ∈ [3, 38, 50, 59, 37, 27, 39, 9, 15, 30, 14, 12, 11, 24, 8, 23, 26, 58, 74, 60, 69, 81, 75, 55, 47, 49, 31, 40, 29, 19, 16, 20, 21, 28, 10, 42, 35, 51, 43, 36, 45, 25, 44, 52], ∀ xs H, Ψ f xs H = none) : LawE (env γ Ψ) :=
 { ar0 := 3, ag5 := 7, af3 := 38, ab3 := 48, ak0 := 50, ai9 := 59, ap4 := 37, an5 := 46, ag3 := 27, ai8 := 39, as0 := 9, at6 := 15, av7 := 30, aw3 := 14, al7 := 12, aj0 := 11, ah4 := 24, ak1 := 8, ak2 := 23, ad2 := 26, ad5 := 58, ac4 := 74, ac6 := 60, at7 := 69, al6 := 75, as1 := 81, ag9 := 55, t_string := 9, af2 := 47, ad6 := 49, ag2 := 31, ai2 := 40, ah2 := 29, ai5 := 32, al4 := 19, av0 := 16, ag4 := 20, aj2 := 21, aj1 := 28, an6 := 10, aq7 := 42, bd7 := 35, bd8 := 51, bl6 := 43, bc3 := 36, as6 := 45, ac2 := 44, bn2 := 25, ab9 := 52, ak8 := d3 (h 3 (by simp)), at0 := d38 (h 38 (by simp)), ax0 := d50 (h 50 (by simp)), aw9 := d59 (h 59 (by simp)), bb2 := d37 (h 37 (by simp)), bb1 := d27 (h 27 (by simp)), aw8 := d39 (h 39 (by simp)), be6 := d9 (h 9 (by simp)), az5 := d15 (h 15 (by simp)), bm1 := d30 (h 30 (by simp)), bb9 := d14 (h 14 (by simp)), ax2 := d12 (h 12 (by simp)), ax1 := d11 (h 11 (by simp)), at3 := d24 (h 24 (by simp)), av4 := d8 (h 8 (by simp)), av5 := d23 (h 23 (by simp)), ab4 := d26 (h 26 (by simp)), ah3 := d58 (h 58 (by simp)), ai0 := d74 (h 74 (by simp)), aj5 := d60 (h 60 (by simp)), bg8 := d69 (h 69 (by simp)), be9 := d81 (h 81 (by simp)), aw7 := d75 (h 75 (by simp)), am8 := d55 (h 55 (by simp)), aj8 := d47 (h 47 (by simp)), aj3 := d49 (h 49 (by simp)), an1 := d31 (h 31 (by simp)), ar1 := d40 (h 40 (by simp)), ax4 := d29 (h 29 (by simp)), bb3 := d19 (h 19 (by simp)), be7 := d16 (h 16 (by simp)), av3 := d20 (h 20 (by simp)), ax5 := d21 (h 21 (by simp)), ax3 := d28 (h 28 (by simp)), ay8 := d10 (h 10 (by simp)), bg7 := d42 (h 42 (by simp)), bp3 := d35 (h 35 (by simp)), bp4 := d51 (h 51 (by simp)), ca7 := d43 (h 43 (by simp)), bu3 := d36 (h 36 (by simp)), bj5 := d45 (h 45 (by simp)), cj0 := d25 (h 25 (by simp)), ag6 := d44 (h 44 (by simp)), ah8 := d52 (h 52 (by simp)) }
def E1 : Env := env (fun _ => .undef) (fun _ _ _ => none)
theorem ej4 : E1.Sound Try.prog := cp5 fun f xs H r h => by simp at h
def vA : EV := .agg [.int .u64 0, .int .u64 8589934592, .int .u64 0, .int .u64 0]
def vB : EV := .agg [.int .u64 0, .int .u64 17179869184, .int .u64 0, .int .u64 0]
theorem rngA : den E1 34 [.int .i64 97, .int .i64 97] [] = some (.ret vA, []) := bm0.2 ⟨900, by kernel_rfl⟩
theorem rngB : den E1 34 [.int .i64 98, .int .i64 98] [] = some (.ret vB, []) := bm0.2 ⟨900, by kernel_rfl⟩
theorem de0 (H : Heap) : CallsA Try.prog (fun _ => .undef) 34 [.int .i64 97, .int .i64 97] H fun er H' => er = .ret vA ∧ H' = H := CallsA.frame (ca6 ej4 rngA) rfl H
theorem dd9 (H : Heap) : CallsA Try.prog (fun _ => .undef) 34 [.int .i64 98, .int .i64 98] H fun er H' => er = .ret vB ∧ H' = H := CallsA.frame (ca6 ej4 rngB) rfl H
def RngR (ar : List EV) (H : Heap) (r : ER × Heap) : Prop := (ar = [.int .i64 97, .int .i64 97] ∧ r = (.ret vA, H)) ∨ (ar = [.int .i64 98, .int .i64 98] ∧ r = (.ret vB, H))
theorem RngR.one {ar : List EV} {H : Heap} {r r' : ER × Heap} (h : RngR ar H r) (h' : RngR ar H r') : r' = r := by
 rcases h with ⟨rfl, rfl⟩ | ⟨rfl, rfl⟩
 ·rcases h' with ⟨_, rfl⟩ | ⟨e, _⟩
  ·rfl
  ·simp at e
 ·rcases h' with ⟨e, _⟩ | ⟨_, rfl⟩
  ·simp at e
  ·rfl
/-! ### What is cn4 -/
def knL : List KnE := [⟨32, HasR .i64⟩, ⟨46, HasR .u8⟩, ⟨48, SortR⟩, ⟨34, RngR⟩]
theorem kn_nd : (knL.map KnE.f).Nodup := by decide
noncomputable def E0 : Env := env (fun _ => .undef) (cv6 knL)
theorem er4 : E0.Sound Try.prog := cp5 fun f xs H r h => ee5 (fun p hp ar H r hr => by
 simp only [knL, List.mem_cons, List.not_mem_nil, or_false] at hp
 rcases hp with rfl | rfl | rfl | rfl
 ·exact HasR.calls (dn6 b32) hr
 ·exact HasR.calls (et5 b46 b53 b54 b61 b62) hr
 ·exact SortR.calls Try.lays189 ⟨Try.f48, Try.f48.body.getD .skip, Try.func48, by kernel_rfl, by kernel_rfl⟩ hr
 ·rcases hr with ⟨rfl, rfl⟩ | ⟨rfl, rfl⟩
  ·exact de0 H
  ·exact dd9 H) h
theorem cn4 {p : KnE} (hp : p ∈ knL) {ar : List EV} {H : Heap} {r : ER × Heap} (h : p.R ar H r) (h1 : ∀ r', p.R ar H r' → r' = r) : den E0 p.f ar H = some r := dw6 (et4 kn_nd hp h h1)
theorem ds3 : bk2 E0 32 .i64 := fun w b H hw hb => cn4 (p := ⟨32, HasR .i64⟩) (by simp [knL]) ⟨w, b, hw, hb, rfl, rfl⟩ fun r' h => HasR.one ⟨w, b, hw, hb, rfl, rfl⟩ h
theorem cf1 : bk2 E0 46 .u8 := fun w b H hw hb => cn4 (p := ⟨46, HasR .u8⟩) (by simp [knL]) ⟨w, b, hw, hb, rfl, rfl⟩ fun r' h => HasR.one ⟨w, b, hw, hb, rfl, rfl⟩ h
theorem cf0 : bf2 E0 48 := SortR.den fun ar H r h => cn4 (p := ⟨48, SortR⟩) (by simp [knL]) h fun r' h' => SortR.one h h'
theorem ds2 : dy9 E0 34 := ⟨fun H => cn4 (p := ⟨34, RngR⟩) (by simp [knL]) (.inl ⟨rfl, rfl⟩) fun r' h' => RngR.one (.inl ⟨rfl, rfl⟩) h', fun H => cn4 (p := ⟨34, RngR⟩) (by simp [knL]) (.inr ⟨rfl, rfl⟩) fun r' h' => RngR.one (.inr ⟨rfl, rfl⟩) h'⟩
theorem noK (L : List Nat) (hL : ∀ f ∈ L, f ∉ knL.map KnE.f) : ∀ f ∈ L, ∀ xs H, cv6 knL f xs H = none := fun f hf xs H => en3 (hL f hf) xs H
noncomputable instance iA0 : AliR E0 := iAliR (γ := fun _ => .undef) (Ψ := cv6 knL) (noK _ (by decide))
theorem cv5 (H : Heap) : den E0 7 [] H = some (.ret (.bool true), H) := cz0 (R := iA0) ds2 cf1 cf0 H
noncomputable instance iL0 : LawE E0 := iLawE (γ := fun _ => .undef) (Ψ := cv6 knL) (noK _ (by decide))
theorem ds0 {t : RT} (ht : t.Ok) (s : List UInt8) (p : Int) : CallsA Try.prog (fun _ => .undef) 3 [t.E, .str s, .int .i64 p] [] fun er H' => er = .ret (.bool true) ∧ H' = [] :=
 ca6 er4 (bz9 (R := iL0) cv5 ds3 cf1 cf0 ht s p [])
end Go.Proofs.Ytdcjkdgjlljodaa
