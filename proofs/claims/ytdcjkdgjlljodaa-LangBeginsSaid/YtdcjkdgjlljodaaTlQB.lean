/- A part. -/
import Derived.Test.YtdcjkdgjlljodaaTlE
import Derived.Test.YtdcjkdgjlljodaaTlSp
import Derived.Test.YtdcjkdgjlljodaaAbsSrt
import Derived.Test.YtdcjkdgjlljodaaLgY
set_option linter.all false
namespace Go.Proofs.Ytdcjkdgjlljodaa
open Go Abs
theorem own : ownKnob Try.prog.godebug = none := by kernel_rfl
theorem ds9 : laidOutB Try.prog = true := by kernel_rfl
@[reducible] def iAliR {γ : Nat → EV} {Ψ : FuncId → List EV → Heap → Option (ER × Heap)} (h : ∀ f ∈ [7, 22, 38, 50, 59, 37, 27, 39, 9, 15, 30, 14, 12, 11, 24, 8, 23, 26, 58, 74, 60, 69, 81, 75, 55, 47, 49, 31, 40, 29, 19, 16, 20, 21, 28, 10, 42, 35, 51, 43, 36, 45, 25, 44, 52], ∀ xs H, Ψ f xs H = none) : AliR (env γ Ψ) :=
 { ag5 := 7, au2 := 22, ao7 := 34, af0 := 38, ab1 := 48, aj8 := 50, ai7 := 59, ap1 := 37, al0 := 46, ag2 := 27, ai6 := 39, av3 := 9, aj6 := 15, aw2 := 30, as0 := 14, aw7 := 12, al5 := 11, ah2 := 24, aj9 := 8, ak0 := 23, ac9 := 26, ad2 := 58, ac1 := 74, ac3 := 60, at3 := 69, al4 := 75, ar4 := 81, ag9 := 55, t_string := 9, ae9 := 47, ad3 := 49, ag0 := 31, ai0 := 40, ai8 := 29, ay7 := 32, ap2 := 19, av4 := 16, ag4 := 20, al7 := 21, al6 := 28, ay6 := 10, aq0 := 42, bd4 := 35, bd5 := 51, bm3 := 43, bc1 := 36, ar9 := 45, ab9 := 44, bn7 := 25, ab6 := 52, be4 := d7 (h 7 (by simp)), bk8 := d22 (h 22 (by simp)), as5 := d38 (h 38 (by simp)), ax5 := d50 (h 50 (by simp)), ax4 := d59 (h 59 (by simp)), bb2 := d37 (h 37 (by simp)), bb1 := d27 (h 27 (by simp)), ax3 := d39 (h 39 (by simp)), be2 := d9 (h 9 (by simp)), at8 := d15 (h 15 (by simp)), bm7 := d30 (h 30 (by simp)), bb8 := d14 (h 14 (by simp)), bf8 := d12 (h 12 (by simp)), ax6 := d11 (h 11 (by simp)), as9 := d24 (h 24 (by simp)), av9 := d8 (h 8 (by simp)), aw0 := d23 (h 23 (by simp)), ab3 := d26 (h 26 (by simp)), ah1 := d58 (h 58 (by simp)), ah8 := d74 (h 74 (by simp)), aj1 := d60 (h 60 (by simp)), bg8 := d69 (h 69 (by simp)), be5 := d81 (h 81 (by simp)), ax2 := d75 (h 75 (by simp)), am4 := d55 (h 55 (by simp)), aj5 := d47 (h 47 (by simp)), ai9 := d49 (h 49 (by simp)), am8 := d31 (h 31 (by simp)), aq4 := d40 (h 40 (by simp)), bg0 := d29 (h 29 (by simp)), bk7 := d19 (h 19 (by simp)), be3 := d16 (h 16 (by simp)), av8 := d20 (h 20 (by simp)), bg1 := d21 (h 21 (by simp)), bf9 := d28 (h 28 (by simp)), bi8 := d10 (h 10 (by simp)), bg7 := d42 (h 42 (by simp)), bp5 := d35 (h 35 (by simp)), bp6 := d51 (h 51 (by simp)), cc2 := d43 (h 43 (by simp)), bu8 := d36 (h 36 (by simp)), bk2 := d45 (h 45 (by simp)), ck3 := d25 (h 25 (by simp)), ag6 := d44 (h 44 (by simp)), ah6 := d52 (h 52 (by simp)) }@[reducible] def iLawB {γ : Nat → EV} {Ψ : FuncId → List EV → Heap → Option (ER × Heap)} (h : ∀ f ∈ [5, 13, 38, 50, 59, 37, 27, 39, 9, 15, 30, 14, 12, 11, 24, 8, 23, 26, 58, 74, 60, 69, 81, 75, 55, 47, 49, 31, 40, 29, 19, 16, 20, 21, 28, 10, 42, 35, 51, 43, 36, 45, 25, 44, 52], ∀ xs H, Ψ f xs H = none) : LawB (env γ Ψ) :=
 { an3 := 5, ag5 := 7, bf4 := 13, af0 := 38, ab1 := 48, aj8 := 50, ai7 := 59, ap1 := 37, al0 := 46, ag2 := 27, ai6 := 39, av3 := 9, aj6 := 15, aw2 := 30, as0 := 14, aw7 := 12, al5 := 11, ah2 := 24, aj9 := 8, ak0 := 23, ac9 := 26, ad2 := 58, ac1 := 74, ac3 := 60, at3 := 69, al4 := 75, ar4 := 81, ag9 := 55, t_string := 9, ae9 := 47, ad3 := 49, ag0 := 31, ai0 := 40, ai8 := 29, ay7 := 32, ap2 := 19, av4 := 16, ag4 := 20, al7 := 21, al6 := 28, ay6 := 10, aq0 := 42, bd4 := 35, bd5 := 51, bm3 := 43, bc1 := 36, ar9 := 45, ab9 := 44, bn7 := 25, ab6 := 52, ao3 := d5 (h 5 (by simp)), bw0 := d13 (h 13 (by simp)), as5 := d38 (h 38 (by simp)), ax5 := d50 (h 50 (by simp)), ax4 := d59 (h 59 (by simp)), bb2 := d37 (h 37 (by simp)), bb1 := d27 (h 27 (by simp)), ax3 := d39 (h 39 (by simp)), be2 := d9 (h 9 (by simp)), at8 := d15 (h 15 (by simp)), bm7 := d30 (h 30 (by simp)), bb8 := d14 (h 14 (by simp)), bf8 := d12 (h 12 (by simp)), ax6 := d11 (h 11 (by simp)), as9 := d24 (h 24 (by simp)), av9 := d8 (h 8 (by simp)), aw0 := d23 (h 23 (by simp)), ab3 := d26 (h 26 (by simp)), ah1 := d58 (h 58 (by simp)), ah8 := d74 (h 74 (by simp)), aj1 := d60 (h 60 (by simp)), bg8 := d69 (h 69 (by simp)), be5 := d81 (h 81 (by simp)), ax2 := d75 (h 75 (by simp)), am4 := d55 (h 55 (by simp)), aj5 := d47 (h 47 (by simp)), ai9 := d49 (h 49 (by simp)), am8 := d31 (h 31 (by simp)), aq4 := d40 (h 40 (by simp)), bg0 := d29 (h 29 (by simp)), bk7 := d19 (h 19 (by simp)), be3 := d16 (h 16 (by simp)), av8 := d20 (h 20 (by simp)), bg1 := d21 (h 21 (by simp)), bf9 := d28 (h 28 (by simp)), bi8 := d10 (h 10 (by simp)), bg7 := d42 (h 42 (by simp)), bp5 := d35 (h 35 (by simp)), bp6 := d51 (h 51 (by simp)), cc2 := d43 (h 43 (by simp)), bu8 := d36 (h 36 (by simp)), bk2 := d45 (h 45 (by simp)), ck3 := d25 (h 25 (by simp)), ag6 := d44 (h 44 (by simp)), ah6 := d52 (h 52 (by simp)) }
def E1 : Env := env (fun _ => .undef) (fun _ _ _ => none)
theorem ek9 : E1.Sound Try.prog := cq4 fun f xs H r h => by simp at h
def vA : EV := .agg [.int .u64 0, .int .u64 8589934592, .int .u64 0, .int .u64 0]
def vB : EV := .agg [.int .u64 0, .int .u64 17179869184, .int .u64 0, .int .u64 0]
theorem rngA : den E1 34 [.int .i64 97, .int .i64 97] [] = some (.ret vA, []) := bm6.2 ⟨900, by kernel_rfl⟩
theorem rngB : den E1 34 [.int .i64 98, .int .i64 98] [] = some (.ret vB, []) := bm6.2 ⟨900, by kernel_rfl⟩
theorem de9 (H : Heap) : CallsA Try.prog (fun _ => .undef) 34 [.int .i64 97, .int .i64 97] H fun er H' => er = .ret vA ∧ H' = H := CallsA.frame (cc1 ek9 rngA) rfl H
theorem de8 (H : Heap) : CallsA Try.prog (fun _ => .undef) 34 [.int .i64 98, .int .i64 98] H fun er H' => er = .ret vB ∧ H' = H := CallsA.frame (cc1 ek9 rngB) rfl H
def RngR (ar : List EV) (H : Heap) (r : ER × Heap) : Prop := (ar = [.int .i64 97, .int .i64 97] ∧ r = (.ret vA, H)) ∨ (ar = [.int .i64 98, .int .i64 98] ∧ r = (.ret vB, H))
theorem RngR.one {ar : List EV} {H : Heap} {r r' : ER × Heap} (h : RngR ar H r) (h' : RngR ar H r') : r' = r := by
 rcases h with ⟨rfl, rfl⟩ | ⟨rfl, rfl⟩
 ·rcases h' with ⟨_, rfl⟩ | ⟨e, _⟩
  ·rfl
  ·simp at e
 ·rcases h' with ⟨e, _⟩ | ⟨_, rfl⟩
  ·simp at e
  ·rfl
/-! ### What is cw2 -/
def knL : List KnE := [⟨32, HasR .i64⟩, ⟨46, HasR .u8⟩, ⟨48, SortR⟩, ⟨34, RngR⟩]
theorem kn_nd : (knL.map KnE.f).Nodup := by decide
noncomputable def E0 : Env := env (fun _ => .undef) (cw3 knL)
theorem et4 : E0.Sound Try.prog := cq4 fun f xs H r h => eg1 (fun p hp ar H r hr => by
 simp only [knL, List.mem_cons, List.not_mem_nil, or_false] at hp
 rcases hp with rfl | rfl | rfl | rfl
 ·exact HasR.calls (do6 b32) hr
 ·exact HasR.calls (ev1 b46 b53 b54 b61 b62) hr
 ·exact SortR.calls Try.lays189 ⟨Try.f48, Try.f48.body.getD .skip, Try.func48, by kernel_rfl, by kernel_rfl⟩ hr
 ·rcases hr with ⟨rfl, rfl⟩ | ⟨rfl, rfl⟩
  ·exact de9 H
  ·exact de8 H) h
theorem cw2 {p : KnE} (hp : p ∈ knL) {ar : List EV} {H : Heap} {r : ER × Heap} (h : p.R ar H r) (h1 : ∀ r', p.R ar H r' → r' = r) : den E0 p.f ar H = some r := dx5 (ev0 kn_nd hp h h1)
theorem cg3 : bt4 E0 46 .u8 := fun w b H hw hb => cw2 (p := ⟨46, HasR .u8⟩) (by simp [knL]) ⟨w, b, hw, hb, rfl, rfl⟩ fun r' h => HasR.one ⟨w, b, hw, hb, rfl, rfl⟩ h
theorem cg2 : bb4 E0 48 := SortR.den fun ar H r h => cw2 (p := ⟨48, SortR⟩) (by simp [knL]) h fun r' h' => SortR.one h h'
theorem dt0 : ea2 E0 34 := ⟨fun H => cw2 (p := ⟨34, RngR⟩) (by simp [knL]) (.inl ⟨rfl, rfl⟩) fun r' h' => RngR.one (.inl ⟨rfl, rfl⟩) h', fun H => cw2 (p := ⟨34, RngR⟩) (by simp [knL]) (.inr ⟨rfl, rfl⟩) fun r' h' => RngR.one (.inr ⟨rfl, rfl⟩) h'⟩
theorem noK (L : List Nat) (hL : ∀ f ∈ L, f ∉ knL.map KnE.f) : ∀ f ∈ L, ∀ xs H, cw3 knL f xs H = none := fun f hf xs H => ep1 (hL f hf) xs H
noncomputable instance iA0 : AliR E0 := iAliR (γ := fun _ => .undef) (Ψ := cw3 knL) (noK _ (by decide))
theorem cw1 (H : Heap) : den E0 7 [] H = some (.ret (.bool true), H) := cz9 (R := iA0) dt0 cg3 cg2 H
noncomputable instance iL0 : LawB E0 := iLawB (γ := fun _ => .undef) (Ψ := cw3 knL) (noK _ (by decide))
theorem ds7 {t : RT} (ht : t.Ok) (s : List UInt8) : CallsA Try.prog (fun _ => .undef) 5 [t.E, .str s] [] fun er H' => er = .ret (.bool true) ∧ H' = [] :=
 cc1 et4 (bu1 (R := iL0) cw1 cg3 cg2 ht s [])
end Go.Proofs.Ytdcjkdgjlljodaa
