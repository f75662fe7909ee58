/- The operations that touch no memory. -/
import Derived.Test.YtcjnpmaljfkpgaaDoorAbs5
namespace Abs
open Go

theorem guard_int (op : BinOp) (t : TypeId) (ox oy : Operand) (k k' : IntKind) (a b : Int) : eqGuard op t ox oy (.int k a) (.int k' b) = pure () := by
  cases op <;> rfl
theorem guard_str (op : BinOp) (t : TypeId) (ox oy : Operand) (a b : ByteArray) : eqGuard op t ox oy (.string a) (.string b) = pure () := by
  cases op <;> rfl
theorem guard_bool (op : BinOp) (t : TypeId) (ox oy : Operand) (a b : Bool) : eqGuard op t ox oy (.bool a) (.bool b) = pure () := by
  cases op <;> rfl

theorem bytes_toList (s : List UInt8) : (⟨s.toArray⟩ : ByteArray).toList = s := by rw [ByteArray.toList_eq]
theorem bytes_size (s : List UInt8) : (⟨s.toArray⟩ : ByteArray).size = s.length := by simp [ByteArray.size]
theorem bytes_append (a b : List UInt8) : (⟨a.toArray⟩ : ByteArray) ++ ⟨b.toArray⟩ = ⟨(a ++ b).toArray⟩ := by
  apply ByteArray.ext
  simp

theorem bin_sound {P : Program} {φ : Nat → Nat} {N : Nat} {I : Nat → Prop} {w : World} {op : BinOp} (t : TypeId) (ox oy : Operand) {x y r : EV} {vx vy : Value}
    (hx : RV φ N I w x vx) (hy : RV φ N I w y vy) (hev : evBin op x y = some r) :
    ∃ val, (do eqGuard op t ox oy vx vy; binOp op t vx vy : Sem Value).run P w = .ok val w ∧ RV φ N I w r val := by
  unfold evBin at hev
  split at hev
  · rename_i k a k' b
    cases hx; cases hy
    simp only [guard_int, Sem.run_bind, Sem.run_pure, Result.andThen_ok]
    split at hev
    · split at hev
      · rename_i h0
        simp only [Option.some.injEq] at hev; subst hev
        exact ⟨_, by simp only [binOp, Go.Op.shift]; rw [if_neg (by omega)]; rfl, .int _ _⟩
      · simp at hev
    · split at hev
      · rename_i h0
        simp only [Option.some.injEq] at hev; subst hev
        exact ⟨_, by simp only [binOp, Go.Op.shift]; rw [if_neg (by omega)]; rfl, .int _ _⟩
      · simp at hev
    · split at hev
      · rename_i hk
        subst hk
        split at hev
        · simp only [Option.some.injEq] at hev; subst hev
          exact ⟨_, by simp [binOp, Go.Op.intArith], .int _ _⟩
        · simp only [Option.some.injEq] at hev; subst hev
          exact ⟨_, by simp [binOp, Go.Op.intArith], .int _ _⟩
        · simp only [Option.some.injEq] at hev; subst hev
          exact ⟨_, by simp [binOp, Go.Op.intArith], .int _ _⟩
        · split at hev
          · simp at hev
          · rename_i hb
            simp only [Option.some.injEq] at hev; subst hev
            exact ⟨_, by simp [binOp, Go.Op.intDiv, hb], .int _ _⟩
        · split at hev
          · simp at hev
          · rename_i hb
            simp only [Option.some.injEq] at hev; subst hev
            exact ⟨_, by simp [binOp, Go.Op.intDiv, hb], .int _ _⟩
        · simp only [Option.some.injEq] at hev; subst hev
          exact ⟨_, by simp [binOp, Go.Op.intCmp], .bool _⟩
        · simp only [Option.some.injEq] at hev; subst hev
          exact ⟨_, by simp [binOp, Go.Op.intCmp], .bool _⟩
        · simp only [Option.some.injEq] at hev; subst hev
          exact ⟨_, by simp [binOp, Go.Op.intCmp], .bool _⟩
        · simp only [Option.some.injEq] at hev; subst hev
          exact ⟨_, by simp [binOp, Go.Op.intCmp], .bool _⟩
        · simp only [Option.some.injEq] at hev; subst hev
          exact ⟨_, by simp [binOp, Go.Op.intCmp], .bool _⟩
        · simp only [Option.some.injEq] at hev; subst hev
          exact ⟨_, by simp [binOp, Go.Op.intCmp], .bool _⟩
        · simp only [Option.some.injEq] at hev; subst hev
          refine ⟨_, ?_, .int _ _⟩
          cases op <;> simp_all [binOp, Go.Op.intBits, bitsOp]
      · simp at hev
  · rename_i a b
    cases hx; cases hy
    simp only [guard_str, Sem.run_bind, Sem.run_pure, Result.andThen_ok]
    split at hev
    · simp only [Option.some.injEq] at hev; subst hev
      exact ⟨_, by simp [binOp, Go.Op.stringOp], .bool _⟩
    · simp only [Option.some.injEq] at hev; subst hev
      exact ⟨_, by simp [binOp, Go.Op.stringOp], .bool _⟩
    · split at hev
      · rename_i hl
        simp only [Option.some.injEq] at hev; subst hev
        refine ⟨_, ?_, .str _⟩
        simp only [binOp, Go.Op.stringOp, bytes_size, bytes_append]
        rw [if_neg (by simp; omega)]
        rfl
      · simp at hev
    · simp only [Option.some.injEq] at hev; subst hev
      exact ⟨_, by simp [binOp, Go.Op.stringOp], .bool _⟩
    · simp only [Option.some.injEq] at hev; subst hev
      exact ⟨_, by simp [binOp, Go.Op.stringOp], .bool _⟩
    · simp only [Option.some.injEq] at hev; subst hev
      exact ⟨_, by simp [binOp, Go.Op.stringOp], .bool _⟩
    · simp only [Option.some.injEq] at hev; subst hev
      exact ⟨_, by simp [binOp, Go.Op.stringOp], .bool _⟩
    · simp at hev
  · simp at hev

theorem un_sound {P : Program} {φ : Nat → Nat} {N : Nat} {I : Nat → Prop} {w : World} {op : UnOp} {x r : EV} {vx : Value}
    (hx : RV φ N I w x vx) (hev : evUn op x = some r) : ∃ val, (Go.Op.unary op vx).run P w = .ok val w ∧ RV φ N I w r val := by
  unfold evUn at hev
  split at hev
  · cases hx
    simp only [Option.some.injEq] at hev; subst hev
    exact ⟨_, by simp [Go.Op.unary, Go.Op.intArith], .int _ _⟩
  · cases hx
    simp only [Option.some.injEq] at hev; subst hev
    exact ⟨_, by simp [Go.Op.unary], .bool _⟩
  · cases hx
    simp only [Option.some.injEq] at hev; subst hev
    exact ⟨_, by simp [Go.Op.unary, Go.Op.intBits, bitsOp], .int _ _⟩
  · simp at hev

theorem valT_agg {P : Program} {t : TypeId} {vs : List Value} (h : ∃ d, P.underlying t = some d ∧ aggD d = true) : valT P t vs = .agg vs.toArray := by
  obtain ⟨d, hu, hd⟩ := h
  unfold valT
  rw [hu]
  cases d <;> first | rfl | (simp [aggD] at hd)

theorem rv_fits {φ : Nat → Nat} {N : Nat} {I : Nat → Prop} {w : World} : ∀ {ks : List SK} {cs : List EV} {vs : List Value}, fits ks cs = true → cs.length = vs.length →
    (∀ (k : Nat) (x : EV) (v : Value), cs[k]? = some x → vs[k]? = some v → RV φ N I w x v) → vs = cs.map toVal
  | [], [], vs, _, hl, _ => by simpa using hl.symm
  | k :: ks, x :: cs, [], _, hl, _ => by simp at hl
  | k :: ks, x :: cs, v :: vs, hf, hl, h => by
    simp only [fits, Bool.and_eq_true] at hf
    have h0 := h 0 x v rfl rfl
    have := rv_fits hf.2 (by simpa using hl) (fun k x v hx hv => h (k + 1) x v (by simpa using hx) (by simpa using hv))
    subst this
    rcases rv_scalar h0 hf.1 with ⟨b, _, rfl, rfl⟩ | ⟨q, n, _, rfl, rfl⟩ | ⟨s, _, rfl, rfl⟩ <;> rfl
  | [], _ :: _, _, h, _, _ => by simp [fits] at h
  | _ :: _, [], _, h, _, _ => by simp [fits] at h

theorem guard_agg {P : Program} {op : BinOp} {t : TypeId} {ox oy : Operand} {xs ys : Array Value} {w : World} (h : P.eqGuardType P.depth t = false) :
    (eqGuard op t ox oy (.agg xs) (.agg ys)).run P w = .ok () w := by
  unfold eqGuard
  cases op <;> simp [h]

theorem cmpAgg_sound {P : Program} {φ : Nat → Nat} {N : Nat} {I : Nat → Prop} {w : World} {op : BinOp} (hop : op = .eql ∨ op = .neq) {t : TypeId} (ox oy : Operand) {ks : List SK} {a b : List EV} {vx vy : Value}
    (hk : flatK P 16 t = some ks) (hd : ∃ d, P.underlying t = some d ∧ aggD d = true) (hg : P.eqGuardType P.depth t = false)
    (hx : RV φ N I w (.agg a) vx) (hy : RV φ N I w (.agg b) vy) (fa : fits ks a = true) (fb : fits ks b = true) :
    (do eqGuard op t ox oy vx vy; binOp op t vx vy : Sem Value).run P w = .ok (.bool (if op == .neq then !eqL a b else eqL a b)) w := by
  cases hx with
  | agg _ xs hl hxs =>
  cases hy with
  | agg _ ys hl' hys =>
  have e1 := rv_fits (vs := xs.toList) fa (by simpa using hl) (fun k x v h1 h2 => hxs k x v h1 (by simpa using h2))
  have e2 := rv_fits (vs := ys.toList) fb (by simpa using hl') (fun k x v h1 h2 => hys k x v h1 (by simpa using h2))
  have := eqTy (P := P) 9984 16 t ks hk a b w fa fb
  rw [valT_agg hd, valT_agg hd, ← e1, ← e2] at this
  simp only [Array.toArray_toList] at this
  simp only [Sem.run_bind, guard_agg hg, Result.andThen_ok]
  rcases hop with rfl | rfl
  · rw [run_eql_struct, this]; rfl
  · rw [run_neq_struct, this]; rfl

theorem cmpBool_sound {P : Program} {w : World} {op : BinOp} (hop : op = .eql ∨ op = .neq) {t : TypeId} (ox oy : Operand) {a b : Bool} (hu : P.underlying t = some .bool) :
    (do eqGuard op t ox oy (.bool a) (.bool b); binOp op t (.bool a) (.bool b) : Sem Value).run P w = .ok (.bool (if op == .neq then !(a == b) else a == b)) w := by
  simp only [guard_bool, Sem.run_bind, Sem.run_pure, Result.andThen_ok]
  rcases hop with rfl | rfl
  · simp only [binOp, Sem.run_bind, run_equal_bool w t a b hu]; rfl
  · simp only [binOp, Sem.run_bind, run_equal_bool w t a b hu]; rfl

end Abs
