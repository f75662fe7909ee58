/- A part. -/
import Derived.Test.YtdcjkdgjlljodaaTlE
import Derived.Test.YtdcjkdgjlljodaaTlSp
import Derived.Test.YtdcjkdgjlljodaaAbsSrt
import Derived.Test.YtdcjkdgjlljodaaLgN
set_option linter.all false
namespace Go.Proofs.Ytdcjkdgjlljodaa
open Go Abs
theorem own : ownKnob Try.prog.godebug = none := by kernel_rfl
theorem dw9 : laidOutB Try.prog = true := by kernel_rfl
@[reducible] def iAliR {γ : Nat → EV} {Ψ : FuncId → List EV → Heap → Option (ER × Heap)} (h : ∀ f ∈ [7, 22, 38, 50, 59, 37, 27, 39, 9, 15, 30, 14, 12, 11, 24, 8, 23, 26, 58, 74, 60, 69, 81, 75, 55, 47, 49, 31, 40, 29, 19, 16, 20, 21, 28, 10, 42, 35, 51, 43, 36, 45, 25, 44, 52], ∀ xs H, Ψ f xs H = none) : AliR (env γ Ψ) :=
 { ah1 := 7, aw7 := 22, aq9 := 34, af8 := 38, ab4 := 48, al2 := 50, aj6 := 59, ar3 := 37, am6 := 46, ag8 := 27, aj5 := 39, ax3 := 9, aj3 := 15, ay2 := 30, au8 := 14, an2 := 12, an0 := 11, ai0 := 24, al4 := 8, al5 := 23, ad3 := 26, ad7 := 58, ac5 := 74, ac7 := 60, av9 := 69, am9 := 75, au0 := 81, ah5 := 55, t_string := 9, af7 := 47, ad8 := 49, ag7 := 31, ai8 := 40, ag3 := 29, ac8 := 32, ai3 := 19, al3 := 16, ah0 := 20, aj8 := 21, aj7 := 28, ap5 := 10, as7 := 42, bg5 := 35, bg6 := 51, bo5 := 43, bf4 := 36, au7 := 45, ac4 := 44, bp9 := 25, ac0 := 52, bh4 := d7 (h 7 (by simp)), bm7 := d22 (h 22 (by simp)), av1 := d38 (h 38 (by simp)), az6 := d50 (h 50 (by simp)), az5 := d59 (h 59 (by simp)), be1 := d37 (h 37 (by simp)), be0 := d27 (h 27 (by simp)), az4 := d39 (h 39 (by simp)), bh3 := d9 (h 9 (by simp)), aw5 := d15 (h 15 (by simp)), bp0 := d30 (h 30 (by simp)), be9 := d14 (h 14 (by simp)), az8 := d12 (h 12 (by simp)), az7 := d11 (h 11 (by simp)), av6 := d24 (h 24 (by simp)), ax9 := d8 (h 8 (by simp)), ay0 := d23 (h 23 (by simp)), ab6 := d26 (h 26 (by simp)), ah9 := d58 (h 58 (by simp)), ai6 := d74 (h 74 (by simp)), ak2 := d60 (h 60 (by simp)), bj4 := d69 (h 69 (by simp)), bh5 := d81 (h 81 (by simp)), az3 := d75 (h 75 (by simp)), ao6 := d55 (h 55 (by simp)), ak9 := d47 (h 47 (by simp)), ak0 := d49 (h 49 (by simp)), ap0 := d31 (h 31 (by simp)), at2 := d40 (h 40 (by simp)), ba0 := d29 (h 29 (by simp)), be2 := d19 (h 19 (by simp)), ax7 := d16 (h 16 (by simp)), ax8 := d20 (h 20 (by simp)), ba1 := d21 (h 21 (by simp)), az9 := d28 (h 28 (by simp)), bb6 := d10 (h 10 (by simp)), bj3 := d42 (h 42 (by simp)), bs2 := d35 (h 35 (by simp)), bs3 := d51 (h 51 (by simp)), ce2 := d43 (h 43 (by simp)), bx3 := d36 (h 36 (by simp)), bm2 := d45 (h 45 (by simp)), cm9 := d25 (h 25 (by simp)), ah2 := d44 (h 44 (by simp)), ai4 := d52 (h 52 (by simp)) }@[reducible] def iLawT {γ : Nat → EV} {Ψ : FuncId → List EV → Heap → Option (ER × Heap)} (h : ∀ f ∈ [4, 17, 18, 33, 13, 38, 50, 59, 37, 27, 39, 9, 15, 30, 14, 12, 11, 24, 8, 23, 26, 58, 74, 60, 69, 81, 75, 55, 47, 49, 31, 40, 29, 19, 16, 20, 21, 28, 10, 42, 35, 51, 43, 36, 45, 25, 44, 52], ∀ xs H, Ψ f xs H = none) : LawT (env γ Ψ) :=
 { ar0 := 4, ah1 := 7, ak5 := 18, an1 := 17, an3 := 33, bi3 := 13, af8 := 38, ab4 := 48, al2 := 50, aj6 := 59, ar3 := 37, am6 := 46, ag8 := 27, aj5 := 39, ax3 := 9, aj3 := 15, ay2 := 30, au8 := 14, an2 := 12, an0 := 11, ai0 := 24, al4 := 8, al5 := 23, ad3 := 26, ad7 := 58, ac5 := 74, ac7 := 60, av9 := 69, am9 := 75, au0 := 81, ah5 := 55, t_string := 9, af7 := 47, ad8 := 49, ag7 := 31, ai8 := 40, ag3 := 29, ac8 := 32, ai3 := 19, al3 := 16, ah0 := 20, aj8 := 21, aj7 := 28, ap5 := 10, as7 := 42, bg5 := 35, bg6 := 51, bo5 := 43, bf4 := 36, au7 := 45, ac4 := 44, bp9 := 25, ac0 := 52, al0 := d4 (h 4 (by simp)), au3 := d17 (h 17 (by simp)), be4 := d18 (h 18 (by simp)), bi7 := d33 (h 33 (by simp)), by5 := d13 (h 13 (by simp)), av1 := d38 (h 38 (by simp)), az6 := d50 (h 50 (by simp)), az5 := d59 (h 59 (by simp)), be1 := d37 (h 37 (by simp)), be0 := d27 (h 27 (by simp)), az4 := d39 (h 39 (by simp)), bh3 := d9 (h 9 (by simp)), aw5 := d15 (h 15 (by simp)), bp0 := d30 (h 30 (by simp)), be9 := d14 (h 14 (by simp)), az8 := d12 (h 12 (by simp)), az7 := d11 (h 11 (by simp)), av6 := d24 (h 24 (by simp)), ax9 := d8 (h 8 (by simp)), ay0 := d23 (h 23 (by simp)), ab6 := d26 (h 26 (by simp)), ah9 := d58 (h 58 (by simp)), ai6 := d74 (h 74 (by simp)), ak2 := d60 (h 60 (by simp)), bj4 := d69 (h 69 (by simp)), bh5 := d81 (h 81 (by simp)), az3 := d75 (h 75 (by simp)), ao6 := d55 (h 55 (by simp)), ak9 := d47 (h 47 (by simp)), ak0 := d49 (h 49 (by simp)), ap0 := d31 (h 31 (by simp)), at2 := d40 (h 40 (by simp)), ba0 := d29 (h 29 (by simp)), be2 := d19 (h 19 (by simp)), ax7 := d16 (h 16 (by simp)), ax8 := d20 (h 20 (by simp)), ba1 := d21 (h 21 (by simp)), az9 := d28 (h 28 (by simp)), bb6 := d10 (h 10 (by simp)), bj3 := d42 (h 42 (by simp)), bs2 := d35 (h 35 (by simp)), bs3 := d51 (h 51 (by simp)), ce2 := d43 (h 43 (by simp)), bx3 := d36 (h 36 (by simp)), bm2 := d45 (h 45 (by simp)), cm9 := d25 (h 25 (by simp)), ah2 := d44 (h 44 (by simp)), ai4 := d52 (h 52 (by simp)) }
def E1 : Env := env (fun _ => .undef) (fun _ _ _ => none)
theorem eo8 : E1.Sound Try.prog := ct8 fun f xs H r h => by simp at h
def vA : EV := .agg [.int .u64 0, .int .u64 8589934592, .int .u64 0, .int .u64 0]
def vB : EV := .agg [.int .u64 0, .int .u64 17179869184, .int .u64 0, .int .u64 0]
theorem rngA : den E1 34 [.int .i64 97, .int .i64 97] [] = some (.ret vA, []) := bo9.2 ⟨900, by kernel_rfl⟩
theorem rngB : den E1 34 [.int .i64 98, .int .i64 98] [] = some (.ret vB, []) := bo9.2 ⟨900, by kernel_rfl⟩
theorem di4 (H : Heap) : CallsA Try.prog (fun _ => .undef) 34 [.int .i64 97, .int .i64 97] H fun er H' => er = .ret vA ∧ H' = H := CallsA.frame (ce1 eo8 rngA) rfl H
theorem di3 (H : Heap) : CallsA Try.prog (fun _ => .undef) 34 [.int .i64 98, .int .i64 98] H fun er H' => er = .ret vB ∧ H' = H := CallsA.frame (ce1 eo8 rngB) rfl H
def RngR (ar : List EV) (H : Heap) (r : ER × Heap) : Prop := (ar = [.int .i64 97, .int .i64 97] ∧ r = (.ret vA, H)) ∨ (ar = [.int .i64 98, .int .i64 98] ∧ r = (.ret vB, H))
theorem RngR.one {ar : List EV} {H : Heap} {r r' : ER × Heap} (h : RngR ar H r) (h' : RngR ar H r') : r' = r := by
 rcases h with ⟨rfl, rfl⟩ | ⟨rfl, rfl⟩
 ·rcases h' with ⟨_, rfl⟩ | ⟨e, _⟩
  ·rfl
  ·simp at e
 ·rcases h' with ⟨e, _⟩ | ⟨_, rfl⟩
  ·simp at e
  ·rfl
/-! ### What is cr7 -/
def knL : List KnE := [⟨32, HasR .i64⟩, ⟨46, HasR .u8⟩, ⟨48, SortR⟩, ⟨34, RngR⟩]
theorem kn_nd : (knL.map KnE.f).Nodup := by decide
noncomputable def E0 : Env := env (fun _ => .undef) (da1 knL)
theorem ex6 : E0.Sound Try.prog := ct8 fun f xs H r h => ek1 (fun p hp ar H r hr => by
 simp only [knL, List.mem_cons, List.not_mem_nil, or_false] at hp
 rcases hp with rfl | rfl | rfl | rfl
 ·exact HasR.calls (ds2 b32) hr
 ·exact HasR.calls (ez4 b46 b53 b54 b61 b62) hr
 ·exact SortR.calls Try.lays189 ⟨Try.f48, Try.f48.body.getD .skip, Try.func48, by kernel_rfl, by kernel_rfl⟩ hr
 ·rcases hr with ⟨rfl, rfl⟩ | ⟨rfl, rfl⟩
  ·exact di4 H
  ·exact di3 H) h
theorem cr7 {p : KnE} (hp : p ∈ knL) {ar : List EV} {H : Heap} {r : ER × Heap} (h : p.R ar H r) (h1 : ∀ r', p.R ar H r' → r' = r) : den E0 p.f ar H = some r := eb4 (ez3 kn_nd hp h h1)
theorem dx1 : be5 E0 32 .i64 := fun w b H hw hb => cr7 (p := ⟨32, HasR .i64⟩) (by simp [knL]) ⟨w, b, hw, hb, rfl, rfl⟩ fun r' h => HasR.one ⟨w, b, hw, hb, rfl, rfl⟩ h
theorem ci5 : be5 E0 46 .u8 := fun w b H hw hb => cr7 (p := ⟨46, HasR .u8⟩) (by simp [knL]) ⟨w, b, hw, hb, rfl, rfl⟩ fun r' h => HasR.one ⟨w, b, hw, hb, rfl, rfl⟩ h
theorem ci4 : be3 E0 48 := SortR.den fun ar H r h => cr7 (p := ⟨48, SortR⟩) (by simp [knL]) h fun r' h' => SortR.one h h'
theorem dx0 : ee0 E0 34 := ⟨fun H => cr7 (p := ⟨34, RngR⟩) (by simp [knL]) (.inl ⟨rfl, rfl⟩) fun r' h' => RngR.one (.inl ⟨rfl, rfl⟩) h', fun H => cr7 (p := ⟨34, RngR⟩) (by simp [knL]) (.inr ⟨rfl, rfl⟩) fun r' h' => RngR.one (.inr ⟨rfl, rfl⟩) h'⟩
theorem noK (L : List Nat) (hL : ∀ f ∈ L, f ∉ knL.map KnE.f) : ∀ f ∈ L, ∀ xs H, da1 knL f xs H = none := fun f hf xs H => et7 (hL f hf) xs H
noncomputable instance iA0 : AliR E0 := iAliR (γ := fun _ => .undef) (Ψ := da1 knL) (noK _ (by decide))
theorem da0 (H : Heap) : den E0 7 [] H = some (.ret (.bool true), H) := dd5 (R := iA0) dx0 ci5 ci4 H
noncomputable instance iL0 : LawT E0 := iLawT (γ := fun _ => .undef) (Ψ := da1 knL) (noK _ (by decide))
theorem dw7 {t : RT} (ht : t.Ok) (s : List UInt8) : CallsA Try.prog (fun _ => .undef) 4 [t.E, .str s] [] fun er H' => er = .ret (.bool true) ∧ H' = [] :=
 ce1 ex6 (bz0 (R := iL0) da0 dx1 ci5 ci4 ht s [])
end Go.Proofs.Ytdcjkdgjlljodaa
