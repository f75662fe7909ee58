/- A part. -/
import Derived.Test.YtaifcggapmdhdaaTqE
import Derived.Test.YtaifcggapmdhdaaPaA
import Derived.Test.YtaifcggapmdhdaaAbsKn
import Derived.Test.YtaifcggapmdhdaaDenRow
set_option linter.all false
namespace Go.Proofs.Ytaifcggapmdhdaa
open Go Abs
theorem own : ownKnob Try.prog.godebug = none := by kernel_rfl
theorem laidOut : laidOutB Try.prog = true := by kernel_rfl
@[reducible] def iParR {γ : Nat → EV} {Ψ : FuncId → List EV → Heap → Option (ER × Heap)} (h : ∀ f ∈ [29, 56, 43, 96, 109, 94, 108, 95, 110, 71, 57, 42, 28, 93, 12, 60, 58, 44, 59, 74, 31, 32, 4, 47, 36, 61, 48, 37, 50, 19, 49, 62, 25, 26, 13, 22, 23, 24, 8], ∀ xs H, Ψ f xs H = none) : ParR (env γ Ψ) :=
 { n_rxparse_parser_more := 29, n_rxparse_fail := 30, n_rxparse_parser_is := 56, n_rxparse_parser_take := 43, n_rxparse_parser_must := 96, n_rxparse_parser_digit := 109, n_strings_IndexByte := 95, n_rxparse_parser_escape := 94, n_rxparse_kindOf := 108, n_internal_stringslite_IndexByte := 110, n_rxparse_parser_atom := 71, n_octs_Of := 64, n_octs_Range := 91, n_rx_Byte := 60, n_rxparse_parser_class := 93, n_rxparse_parser_fragment := 92, n_rxparse_parser_group := 90, n_rxparse_parser_item := 57, n_rx_Rep := 72, n_rxparse_parser_counts := 73, n_rxparse_parser_row := 42, n_rx_Cat := 58, n_rxparse_parser_alternatives := 28, n_rx_Alt := 44, n_octs_Any := 106, n_octs_Not := 107, n_rxparse_parser_member := 105, n_rxparse_Parse := 12, n_rx_Deep := 32, n_rx_Nodes := 31, n_rxparse_Parse_c1 := 27, t_rxparse_fault_rxparse_fault := 54, n_rx_several := 59, n_rx_copied := 74, n_hacklelaw06_RxparseTakes := 4, n_hacklelaw06_alive := 11, n_rx_walk_node := 47, n_rx_walked := 36, n_rx_bareOf := 61, n_rx_node := 48, n_rx_nodes := 37, n_rx_nodes_c1 := 50, n_slices_ContainsFunc_api_Re_api_Re := 49, n_rx_May := 19, n_slices_IndexFunc_api_Re_api_Re := 62, n_hackleref04_Ends := 25, n_hackleref01_Has := 41, n_hackleref04_At := 26, n_hackleref04_Takes := 13, d_rxparse_parser_more := d29 (h 29 (by simp)), d_rxparse_parser_is := d56 (h 56 (by simp)), d_rxparse_parser_take := d43 (h 43 (by simp)), d_rxparse_parser_must := d96 (h 96 (by simp)), d_rxparse_parser_digit := d109 (h 109 (by simp)), d_rxparse_parser_escape := d94 (h 94 (by simp)), d_rxparse_kindOf := d108 (h 108 (by simp)), d_strings_IndexByte := d95 (h 95 (by simp)), d_internal_stringslite_IndexByte := d110 (h 110 (by simp)), d_rxparse_parser_atom := d71 (h 71 (by simp)), d_rxparse_parser_item := d57 (h 57 (by simp)), d_rxparse_parser_row := d42 (h 42 (by simp)), d_rxparse_parser_alternatives := d28 (h 28 (by simp)), d_rxparse_parser_class := d93 (h 93 (by simp)), d_rxparse_Parse := d12 (h 12 (by simp)), d_rxparse_Parse_c1 := by kernel_rfl, d_rx_Byte := d60 (h 60 (by simp)), d_rx_Cat := d58 (h 58 (by simp)), d_rx_Alt := d44 (h 44 (by simp)), d_rx_several := d59 (h 59 (by simp)), d_rx_copied := d74 (h 74 (by simp)), d_rx_Nodes := d31 (h 31 (by simp)), d_rx_Deep := d32 (h 32 (by simp)), d_hacklelaw06_RxparseTakes := d4 (h 4 (by simp)), d_rx_walk_node := d47 (h 47 (by simp)), d_rx_walked := d36 (h 36 (by simp)), d_rx_bareOf := d61 (h 61 (by simp)), d_rx_node := d48 (h 48 (by simp)), d_rx_nodes := d37 (h 37 (by simp)), d_rx_nodes_c1 := d50 (h 50 (by simp)), d_rx_May := d19 (h 19 (by simp)), d_slices_ContainsFunc_api_Re_api_Re := d49 (h 49 (by simp)), d_slices_IndexFunc_api_Re_api_Re := d62 (h 62 (by simp)), d_hackleref04_Ends := d25 (h 25 (by simp)), d_hackleref04_At := d26 (h 26 (by simp)), d_hackleref04_Takes := d13 (h 13 (by simp)) }
def E1 : Env := env (fun _ => .undef) (fun _ _ _ => none)
theorem sound1 : E1.Sound Try.prog := env_sound fun f xs H r h => by simp at h
theorem alive06 : den E1 11 [] [] = some (.ret (.bool true), []) := den_iff.2 ⟨900, by kernel_rfl⟩
theorem alive_calls (H : Heap) : CallsA Try.prog (fun _ => .undef) 11 [] H fun er H' => er = .ret (.bool true) ∧ H' = H := CallsA.frame (den_sound sound1 alive06) rfl H
theorem range_run : den E1 91 [.int .u8 0, .int .u8 255] [] = some (.ret (eset fullW), []) := den_iff.2 ⟨900, by kernel_rfl⟩
theorem range_calls (H : Heap) : CallsA Try.prog (fun _ => .undef) 91 [.int .u8 0, .int .u8 255] H fun er H' => er = .ret (eset fullW) ∧ H' = H := CallsA.frame (den_sound sound1 range_run) rfl H
theorem not_run : den E1 107 [eset fun _ => 0] [] = some (.ret (eset fullW), []) := den_iff.2 ⟨900, by kernel_rfl⟩
theorem not_calls (H : Heap) : CallsA Try.prog (fun _ => .undef) 107 [eset fun _ => 0] H fun er H' => er = .ret (eset fullW) ∧ H' = H := CallsA.frame (den_sound sound1 not_run) rfl H
/-! ### What is known -/
def OfR (ar : List EV) (H : Heap) (r : ER × Heap) : Prop := ∃ b : Nat, b < 256 ∧ ar = [.imm 1 [.int .u8 b]] ∧ r = (.ret (eset (wordsOf [b])), H)
theorem OfR.one {ar : List EV} {H : Heap} {r r' : ER × Heap} (h : OfR ar H r) (h' : OfR ar H r') : r' = r := by
 obtain ⟨b, _, rfl, rfl⟩ := h
 obtain ⟨b', _, e, rfl⟩ := h'
 simp only [List.cons.injEq, EV.imm.injEq, EV.int.injEq, true_and, and_true] at e
 have : b = b' := by omega
 subst this
 rfl
def GivenR (a : List EV) (v : EV) (ar : List EV) (H : Heap) (r : ER × Heap) : Prop := ar = a ∧ r = (.ret v, H)
theorem GivenR.one {a : List EV} {v : EV} {ar : List EV} {H : Heap} {r r' : ER × Heap} (h : GivenR a v ar H r) (h' : GivenR a v ar H r') : r' = r := by rw [h.2, h'.2]
def knL : List KnE := [⟨11, ConstR true⟩, ⟨41, HasR .i64⟩, ⟨64, OfR⟩, ⟨91, GivenR [.int .u8 0, .int .u8 255] (eset fullW)⟩, ⟨107, GivenR [eset fun _ => 0] (eset fullW)⟩]
theorem kn_nd : (knL.map KnE.f).Nodup := by decide
noncomputable def E0 : Env := env (fun _ => .undef) (knPsi knL)
theorem sound0 : E0.Sound Try.prog := env_sound fun f xs H r h => kn_sound (fun p hp as' H r hr => by
 simp only [knL, List.mem_cons, List.not_mem_nil, or_false] at hp
 rcases hp with rfl | rfl | rfl | rfl | rfl
 ·obtain ⟨rfl, rfl⟩ := hr
  exact alive_calls H
 ·exact HasR.calls (refHas_ok b41) hr
 ·obtain ⟨b, hb, rfl, rfl⟩ := hr
  exact of_ok b64 [b] (by simpa using hb) (by simp) H
 ·obtain ⟨rfl, rfl⟩ := hr
  exact range_calls H
 ·obtain ⟨rfl, rfl⟩ := hr
  exact not_calls H) h
theorem known_alive (H : Heap) : den E0 11 [] H = some (.ret (.bool true), H) := den_known (kn_get kn_nd (p := ⟨11, ConstR true⟩) (by simp [knL]) ⟨rfl, rfl⟩ fun r' h => ConstR.one ⟨rfl, rfl⟩ h)
theorem known_has : HasDen E0 41 .i64 := fun w b H hw hb => den_known (kn_get kn_nd (p := ⟨41, HasR .i64⟩) (by simp [knL]) ⟨w, b, hw, hb, rfl, rfl⟩ fun r' h => HasR.one ⟨w, b, hw, hb, rfl, rfl⟩ h)
theorem known_of (b : Nat) (H : Heap) (hb : b < 256) : den E0 64 [.imm 1 [.int .u8 b]] H = some (.ret (eset (wordsOf [b])), H) := den_known (kn_get kn_nd (p := ⟨64, OfR⟩) (by simp [knL]) ⟨b, hb, rfl, rfl⟩ fun r' h => OfR.one ⟨b, hb, rfl, rfl⟩ h)
theorem known_range (H : Heap) : den E0 91 [.int .u8 0, .int .u8 255] H = some (.ret (eset fullW), H) := den_known (kn_get kn_nd (p := ⟨91, GivenR [.int .u8 0, .int .u8 255] (eset fullW)⟩) (by simp [knL]) ⟨rfl, rfl⟩ fun r' h => GivenR.one ⟨rfl, rfl⟩ h)
theorem known_not (H : Heap) : den E0 107 [eset fun _ => 0] H = some (.ret (eset fullW), H) := den_known (kn_get kn_nd (p := ⟨107, GivenR [eset fun _ => 0] (eset fullW)⟩) (by simp [knL]) ⟨rfl, rfl⟩ fun r' h => GivenR.one ⟨rfl, rfl⟩ h)
noncomputable instance iE0 : ParR E0 := iParR (γ := fun _ => .undef) (Ψ := knPsi knL) fun f hf xs H => kn_none (by
 have : ∀ f ∈ [29, 56, 43, 96, 109, 94, 108, 95, 110, 71, 57, 42, 28, 93, 12, 60, 58, 44, 59, 74, 31, 32, 4, 47, 36, 61, 48, 37, 50, 19, 49, 62, 25, 26, 13, 22, 23, 24, 8], f ∉ knL.map KnE.f := by decide
 exact this f hf) xs H
theorem takes_calls (s : List UInt8) (hs : s.length ≤ maxLen) : CallsA Try.prog (fun _ => .undef) 4 [.str s] [] fun er H' => er = .ret (.bool true) ∧ H' = [] :=
 den_sound sound0 (rxparseTakes_den (R := iE0) ⟨known_of, known_range, known_not⟩ known_has known_alive s (by simpa [maxLen] using hs))
end Go.Proofs.Ytaifcggapmdhdaa
