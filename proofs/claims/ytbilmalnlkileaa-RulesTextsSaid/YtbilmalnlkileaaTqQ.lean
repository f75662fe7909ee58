/- What the row RulesTexts needs: the document's example, run; the texts. -/
import Derived.Test.YtbilmalnlkileaaTqE
import Derived.Test.YtbilmalnlkileaaDyJ
import Derived.Test.YtbilmalnlkileaaDenRow
set_option linter.all false

namespace Go.Proofs.Ytbilmalnlkileaa
open Go Abs

theorem own : ownKnob Try.prog.godebug = none := by kernel_rfl
theorem laidOut : laidOutB Try.prog = true := by kernel_rfl

@[reducible] def iRulQ {γ : Nat → EV} {Ψ : FuncId → List EV → Heap → Option (ER × Heap)} (h : ∀ f ∈ [22, 56, 96, 94, 95, 98, 97, 128, 157, 158, 126, 127, 155, 156, 4, 23, 57, 99, 100, 101, 102], ∀ xs H, Ψ f xs H = none) : RulQ (env γ Ψ) :=
  { n_rules_Text := 22, n_rules_quoted := 56, n_rules_caught := 93, n_rules_fail := 97, n_rules_reader_escape := 98, n_rules_reader_must := 94, n_rules_reader_next := 96, n_rules_reader_take := 95, t_rules_fault_rules_fault := 160, n_strings_HasPrefix := 126, n_digits_Digit := 128, n_strings_IndexByte := 127, n_digits_based := 158, n_digits_value := 157, n_internal_stringslite_HasPrefix := 155, n_internal_stringslite_IndexByte := 156, n_hacklelaw13_RulesTexts := 4, n_hacklelaw13_alive := 21, n_hackleref13_Text := 23, n_hackleref13_Reader_Quoted := 57, n_hackleref03_Digit := 102, n_hackleref13_Reader_Fail := 101, n_hackleref13_Reader_byte := 100, n_hackleref13_Reader_must := 99, d_rules_Text := d22 (h 22 (by simp)), d_rules_quoted := d56 (h 56 (by simp)), d_rules_caught := by kernel_rfl, d_rules_reader_next := d96 (h 96 (by simp)), d_rules_reader_must := d94 (h 94 (by simp)), d_rules_reader_take := d95 (h 95 (by simp)), d_rules_reader_escape := d98 (h 98 (by simp)), d_rules_fail := d97 (h 97 (by simp)), d_digits_Digit := d128 (h 128 (by simp)), d_digits_value := d157 (h 157 (by simp)), d_digits_based := d158 (h 158 (by simp)), d_strings_HasPrefix := d126 (h 126 (by simp)), d_strings_IndexByte := d127 (h 127 (by simp)), d_internal_stringslite_HasPrefix := d155 (h 155 (by simp)), d_internal_stringslite_IndexByte := d156 (h 156 (by simp)), d_hacklelaw13_RulesTexts := d4 (h 4 (by simp)), d_hackleref13_Text := d23 (h 23 (by simp)), d_hackleref13_Reader_Quoted := d57 (h 57 (by simp)), d_hackleref13_Reader_must := d99 (h 99 (by simp)), d_hackleref13_Reader_byte := d100 (h 100 (by simp)), d_hackleref13_Reader_Fail := d101 (h 101 (by simp)), d_hackleref03_Digit := d102 (h 102 (by simp)) }
def E0 : Env := env (fun _ => .undef) (fun _ _ _ => none)
theorem sound0 : E0.Sound Try.prog := env_sound fun f xs H r h => by simp at h
instance iE0 : RulQ E0 := iRulQ (γ := fun _ => .undef) (Ψ := fun _ _ _ => none) fun _ _ _ _ => rfl

theorem alive13 : den E0 21 [] [] = some (.ret (.bool true), []) := den_iff.2 ⟨600, by kernel_rfl⟩
theorem texts_run (s : List UInt8) (hs : s.length ≤ maxLen) : den E0 4 [.str s] [] = some (.ret (.bool true), []) := rulesTexts_den (R := iE0) alive13 s hs
theorem texts_calls (s : List UInt8) (hs : s.length ≤ maxLen) : CallsA Try.prog (fun _ => .undef) 4 [.str s] [] fun er H' => er = .ret (.bool true) ∧ H' = [] := den_sound sound0 (texts_run s hs)

end Go.Proofs.Ytbilmalnlkileaa
