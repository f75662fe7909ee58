/- What the row RxparseNames needs: the document's example, run; the names. -/
import Derived.Test.YtihgbhkpjehhcaaE
import Derived.Test.YtihgbhkpjehhcaaDxA
import Derived.Test.YtihgbhkpjehhcaaDenRow
namespace Go.Proofs.Ytihgbhkpjehhcaa
open Go Abs

theorem own : ownKnob Try.prog.godebug = none := by kernel_rfl
theorem laidOut : laidOutB Try.prog = true := by kernel_rfl

def E0 : Env := env (fun _ => .undef) (fun _ _ => none)
theorem sound0 : E0.Sound Try.prog := env_sound fun f xs v H h => by simp at h

theorem alive06 : den E0 10 [] [] = some (.ret (.bool true), []) := den_iff.2 ⟨300, by kernel_rfl⟩
theorem names_run (s : List UInt8) (hs : s.length ≤ maxLen) : den E0 3 [.str s] [] = some (.ret (.bool true), []) :=
  rxparseNames_den (d3 fun _ => rfl) alive06 (fun s H h => mayName_den (d11 fun _ => rfl) s h H) (fun s H h => refMayName_den (d12 fun _ => rfl) s h H) s hs
theorem names_calls (s : List UInt8) (hs : s.length ≤ maxLen) : CallsA Try.prog (fun _ => .undef) 3 [.str s] [] fun er H' => er = .ret (.bool true) ∧ H' = [] := den_sound sound0 (names_run s hs)

end Go.Proofs.Ytihgbhkpjehhcaa
