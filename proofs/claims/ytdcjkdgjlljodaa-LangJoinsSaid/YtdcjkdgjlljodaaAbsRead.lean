/- A part. -/
import Derived.Test.YtdcjkdgjlljodaaAbs14
import Derived.ProofKit
import Derived.Deep.Slices
import Derived.OpenShut
import Derived.ChangeArms
set_option linter.all false
namespace Abs
open Go Go.ChangeShapes Go.WideShapes
def aggT (P : Program) (t : TypeId) : Bool :=
 match P.underlying t with
 | some d => aggD d
 | none => false
def bc0 (P : Program) (t : TypeId) (cs : List EV) : EV := if aggT P t then .agg cs else cs.headD .undef
def ar7 (P : Program) : Nat → TypeId → List EV → Prop
 | 0, _, _ => False
 | D + 1, t, es =>
  match P.underlying t with
  | some .bool => ∃ b, es = [.bool b]
  | some (.int k) => ∃ n, es = [.int k n] ∧ (Lit.int k n).wf = true
  | some .string => ∃ s, es = [.str s] ∧ s.length ≤ maxLen
  | some (.slice e) => es = [.nilsl] ∨ ∃ l : List EV, es = [.imm (P.cellsOf e) l] ∧ l.length ≤ maxLen ∧ ∀ x ∈ l, ∃ cs, ar7 P D e cs ∧ x = bc0 P e cs
  | some (.array n e) => ∃ l : List (List EV), l.length = n ∧ es = l.flatten ∧ ∀ c ∈ l, ar7 P D e c ∧ c.length = P.cellsOf e
  | some (.struct fs) => ∃ l : List (List EV), l.length = fs.size ∧ es = l.flatten ∧ ∀ (i : Nat) (f : Field) (c : List EV), fs[i]? = some f → l[i]? = some c → ar7 P D f.type c ∧ c.length = P.cellsOf f.type
  | _ => False
def bg1 (P : Program) : Nat → List Field → Option Nat
 | o, [] => some o
 | o, f :: fs => if f.offset = o then bg1 P (o + P.cellsOf f.type) fs else none
section
variable {H : Type} {enc : TypeId × Value → H} {P : Program} {w : World} {base : Nat} {spare : Nat → Bool} {held : Bool} {φ : Nat → Nat} {N : Nat}
def oldI (w : World) (B : Nat) : Prop := B < w.heap.size
theorem bl0 {x : EV} {v : Value} (h : RV φ N (oldI w) w x v) : RCs φ N (oldI w) w [x] [v] := ⟨rfl, fun k y u hy hu => by
 cases k with
 | zero => simp at hy hu; subst hy hu; exact h
 | succ k => simp at hy⟩
theorem RCs.app {I : Nat → Prop} {a b : List EV} {c d : List Value} (h : RCs φ N I w a c) (g : RCs φ N I w b d) : RCs φ N I w (a ++ b) (c ++ d) := by
 refine ⟨by simp [h.1, g.1], fun k x v hx hv => ?_⟩
 by_cases hk : k < a.length
 ·rw [List.getElem?_append_left hk] at hx
  rw [List.getElem?_append_left (by rw [← h.1]; exact hk)] at hv
  exact h.2 k x v hx hv
 ·rw [List.getElem?_append_right (by omega)] at hx
  rw [List.getElem?_append_right (by rw [← h.1]; omega)] at hv
  rw [← h.1] at hv
  exact g.2 _ x v hx hv
theorem chop {α : Type} (sz : Nat) : ∀ (n : Nat) (cs : List α), cs.length = n * sz → cs = ((List.range n).map fun i => (cs.drop (i * sz)).take sz).flatten := by
 intro n
 induction n with
 | zero => intro cs h; simp at h; simp [h]
 | succ n ih =>
  intro cs h
  have h1 : (cs.take (n * sz)).length = n * sz := by simp [h, Nat.add_mul]
  have := ih (cs.take (n * sz)) h1
  rw [List.range_succ, List.map_append, List.flatten_append]
  have e1 : ((List.range n).map fun i => (cs.drop (i * sz)).take sz) = (List.range n).map fun i => ((cs.take (n * sz)).drop (i * sz)).take sz := by
   refine List.map_congr_left fun i hi => ?_
   have hi' : i < n := by simpa using hi
   have : (i + 1) * sz ≤ n * sz := Nat.mul_le_mul_right _ hi'
   rw [Nat.add_mul] at this
   rw [List.drop_take, List.take_take, Nat.min_eq_left (by omega)]
  rw [e1, ← this]
  have e2 : (cs.drop (n * sz)).take sz = cs.drop (n * sz) := List.take_of_length_le (by simp [h, Nat.add_mul])
  simp only [List.map_cons, List.map_nil, List.flatten_cons, List.flatten_nil, List.append_nil, e2, List.take_append_drop]
theorem bn9 {I : Nat → Prop} : ∀ {ls : List (List EV)} {vs : List (List Value)}, ls.length = vs.length → (∀ (i : Nat) (a : List EV) (b : List Value), ls[i]? = some a → vs[i]? = some b → RCs φ N I w a b) → RCs φ N I w ls.flatten vs.flatten
 | [], [], _, _ => ⟨rfl, by simp⟩
 | [], _ :: _, h, _ => by simp at h
 | _ :: _, [], h, _ => by simp at h
 | a :: ls, b :: vs, h, g => by
  simp only [List.flatten_cons]
  exact (g 0 a b rfl rfl).app (bn9 (by simpa using h) fun i x y hx hy => g (i + 1) x y (by simpa using hx) (by simpa using hy))
theorem cl2 {D : Nat} {t : TypeId} {es : List EV} (h : ar7 P D t es) (ha : aggT P t = false) : ∃ x, es = [x] ∧ x.cells = [x] := by
 cases D with
 | zero => simp [ar7] at h
 | succ D =>
  unfold ar7 at h
  unfold aggT at ha
  split at h <;> rename_i hu <;> (try rw [hu] at ha)
  ·obtain ⟨b, rfl⟩ := h; exact ⟨_, rfl, rfl⟩
  ·obtain ⟨n, rfl, _⟩ := h; exact ⟨_, rfl, rfl⟩
  ·obtain ⟨s, rfl, _⟩ := h; exact ⟨_, rfl, rfl⟩
  ·rcases h with rfl | ⟨l, rfl, _⟩
   ·exact ⟨_, rfl, rfl⟩
   ·exact ⟨_, rfl, rfl⟩
  ·simp [aggD] at ha
  ·simp [aggD] at ha
  ·exact h.elim
theorem by7 {D : Nat} {t : TypeId} {es : List EV} (h : ar7 P D t es) : (bc0 P t es).cells = es := by
 unfold bc0
 split
 ·rfl
 ·rename_i ha
  obtain ⟨x, rfl, hx⟩ := cl2 h (by simpa using ha)
  simpa using hx
end
end Abs
