/- A part. -/
import Derived.Test.YtdcjkdgjlljodaaOctsA
set_option linter.all false
namespace Abs
open Go Gn
set_option linter.unusedSimpArgs false
set_option maxRecDepth 20000
def bx0 (of : Nat → Nat) (n : Int) : EV := .agg (tab 256 (fun i => .int .u8 ((of i : Nat) : Int)) ++ [.int .i64 n])
open Gn
section
variable {P : Program} {γ : Nat → EV}
def mayN (of : Nat → Nat) : Nat → Option Nat
 | 0 => some 0
 | b + 1 =>
  match mayN of b with
  | none => none
  | some n => if n < of b then none else if of b = n then some (n + 1) else some n
def mayC (of : Nat → Nat) (n : Int) : Bool :=
 match mayN of 256 with
 | none => false
 | some m => n == (m : Int)
end
open Gn
section
variable {P : Program} {γ : Nat → EV}
def dn6 (lo hi : Nat) (i : Nat) : Bool := decide (lo ≤ i) && decide (i ≤ hi)
end
open Gn
def g1 (b : Nat) : Nat × Nat := (0, if dn6 97 99 b then 1 else 0)
def g2 (b : Nat) : Nat × Nat := (if dn6 97 99 b then 1 else 0, if dn6 98 98 b then 1 else 0)
end Abs
