/- Quoted texts: what is written, what is read of it. -/
import Derived.Test.YtbilmalnlkileaaAbs1
set_option linter.all false

namespace Abs
set_option linter.all false

inductive QR where
  | ok (out : List UInt8) (p : Nat)
  | er (p : Nat)

def escB (e : UInt8) : Option UInt8 :=
  if e.toNat = 34 then some 34 else if e.toNat = 92 then some 92 else if e.toNat = 110 then some 10 else if e.toNat = 114 then some 13 else if e.toNat = 116 then some 9 else none
def hexV (b : UInt8) : Option Nat :=
  if 48 ≤ b.toNat ∧ b.toNat ≤ 57 then some (b.toNat - 48) else if 97 ≤ b.toNat ∧ b.toNat ≤ 102 then some (b.toNat - 87) else if 65 ≤ b.toNat ∧ b.toNat ≤ 70 then some (b.toNat - 55) else none

/-- What stands between quotes, from a place on. -/
def qGo : List UInt8 → Nat → List UInt8 → QR
  | [], p, _ => .er p
  | b :: r, p, out =>
    if b.toNat = 34 then .ok out (p + 1)
    else if b.toNat = 92 then
      match r with
      | [] => .er (p + 1)
      | e :: r1 =>
        match escB e with
        | some v => qGo r1 (p + 2) (out ++ [v])
        | none =>
          if e.toNat = 120 then
            match r1 with
            | [] => .er (p + 2)
            | h :: r2 =>
              match hexV h with
              | none => .er (p + 2)
              | some hv =>
                match r2 with
                | [] => .er (p + 3)
                | l :: r3 =>
                  match hexV l with
                  | none => .er (p + 3)
                  | some lv => qGo r3 (p + 4) (out ++ [UInt8.ofNat (16 * hv + lv)])
          else .er (p + 1)
    else if 32 ≤ b.toNat ∧ b.toNat ≤ 126 then qGo r (p + 1) (out ++ [b]) else .er p

theorem qGo_nil (p : Nat) (out : List UInt8) : qGo [] p out = .er p := by rw [qGo.eq_def]
theorem qGo_cons (b : UInt8) (r : List UInt8) (p : Nat) (out : List UInt8) : qGo (b :: r) p out =
    (if b.toNat = 34 then .ok out (p + 1)
    else if b.toNat = 92 then
      match r with
      | [] => .er (p + 1)
      | e :: r1 =>
        match escB e with
        | some v => qGo r1 (p + 2) (out ++ [v])
        | none =>
          if e.toNat = 120 then
            match r1 with
            | [] => .er (p + 2)
            | h :: r2 =>
              match hexV h with
              | none => .er (p + 2)
              | some hv =>
                match r2 with
                | [] => .er (p + 3)
                | l :: r3 =>
                  match hexV l with
                  | none => .er (p + 3)
                  | some lv => qGo r3 (p + 4) (out ++ [UInt8.ofNat (16 * hv + lv)])
          else .er (p + 1)
    else if 32 ≤ b.toNat ∧ b.toNat ≤ 126 then qGo r (p + 1) (out ++ [b]) else .er p) := by rw [qGo.eq_def]

def qAt (s : List UInt8) (p : Nat) (out : List UInt8) : QR := qGo (s.drop p) p out
/-- A quoted text. -/
def qText (s : List UInt8) : QR :=
  match s with
  | [] => .er 0
  | b :: _ => if b.toNat = 34 then qAt s 1 [] else .er 0

section
variable {s out : List UInt8} {p : Nat} {b e h l : UInt8}
theorem drop_at (hb : s[p]? = some b) : s.drop p = b :: s.drop (p + 1) := by
  obtain ⟨hp, e⟩ := List.getElem?_eq_some_iff.1 hb
  rw [← e]; exact List.drop_eq_getElem_cons hp
theorem drop_none (hb : s[p]? = none) : s.drop p = [] := List.drop_eq_nil_of_le (List.getElem?_eq_none_iff.1 hb)
theorem qAt_none (hb : s[p]? = none) : qAt s p out = .er p := by unfold qAt; rw [drop_none hb, qGo_nil]
theorem qAt_quote (hb : s[p]? = some b) (h1 : b.toNat = 34) : qAt s p out = .ok out (p + 1) := by unfold qAt; rw [drop_at hb, qGo_cons, if_pos h1]
theorem qAt_plain (hb : s[p]? = some b) (h1 : b.toNat ≠ 34) (h2 : b.toNat ≠ 92) (h3 : 32 ≤ b.toNat) (h4 : b.toNat ≤ 126) : qAt s p out = qAt s (p + 1) (out ++ [b]) := by
  unfold qAt; rw [drop_at hb, qGo_cons, if_neg h1, if_neg h2, if_pos ⟨h3, h4⟩]
theorem qAt_bad (hb : s[p]? = some b) (h3 : ¬ (32 ≤ b.toNat ∧ b.toNat ≤ 126)) : qAt s p out = .er p := by
  unfold qAt; rw [drop_at hb, qGo_cons, if_neg (by omega), if_neg (by omega), if_neg h3]
theorem qAt_esc0 (hb : s[p]? = some b) (h1 : b.toNat = 92) (he : s[p + 1]? = none) : qAt s p out = .er (p + 1) := by
  unfold qAt; rw [drop_at hb, drop_none he, qGo_cons, if_neg (by omega), if_pos h1]
theorem qAt_esc {v : UInt8} (hb : s[p]? = some b) (h1 : b.toNat = 92) (he : s[p + 1]? = some e) (hv : escB e = some v) : qAt s p out = qAt s (p + 2) (out ++ [v]) := by
  unfold qAt; rw [drop_at hb, drop_at he, qGo_cons, if_neg (by omega), if_pos h1]; simp only [hv]
theorem qAt_escbad (hb : s[p]? = some b) (h1 : b.toNat = 92) (he : s[p + 1]? = some e) (hv : escB e = none) (h2 : e.toNat ≠ 120) : qAt s p out = .er (p + 1) := by
  unfold qAt; rw [drop_at hb, drop_at he, qGo_cons, if_neg (by omega), if_pos h1]; simp only [hv, if_neg h2]
theorem escB_x (h2 : e.toNat = 120) : escB e = none := by unfold escB; simp [h2]
theorem qAt_x0 (hb : s[p]? = some b) (h1 : b.toNat = 92) (he : s[p + 1]? = some e) (h2 : e.toNat = 120) (hh : s[p + 2]? = none) : qAt s p out = .er (p + 2) := by
  unfold qAt; rw [drop_at hb, drop_at he, drop_none hh, qGo_cons, if_neg (by omega), if_pos h1]; simp only [escB_x h2, if_pos h2]
theorem qAt_x0bad (hb : s[p]? = some b) (h1 : b.toNat = 92) (he : s[p + 1]? = some e) (h2 : e.toNat = 120) (hh : s[p + 2]? = some h) (hx : hexV h = none) : qAt s p out = .er (p + 2) := by
  unfold qAt; rw [drop_at hb, drop_at he, drop_at hh, qGo_cons, if_neg (by omega), if_pos h1]; simp only [escB_x h2, if_pos h2, hx]
theorem qAt_x1 {n : Nat} (hb : s[p]? = some b) (h1 : b.toNat = 92) (he : s[p + 1]? = some e) (h2 : e.toNat = 120) (hh : s[p + 2]? = some h) (hx : hexV h = some n) (hl : s[p + 3]? = none) : qAt s p out = .er (p + 3) := by
  unfold qAt; rw [drop_at hb, drop_at he, drop_at hh, drop_none hl, qGo_cons, if_neg (by omega), if_pos h1]; simp only [escB_x h2, if_pos h2, hx]
theorem qAt_x1bad {n : Nat} (hb : s[p]? = some b) (h1 : b.toNat = 92) (he : s[p + 1]? = some e) (h2 : e.toNat = 120) (hh : s[p + 2]? = some h) (hx : hexV h = some n) (hl : s[p + 3]? = some l) (hy : hexV l = none) : qAt s p out = .er (p + 3) := by
  unfold qAt; rw [drop_at hb, drop_at he, drop_at hh, drop_at hl, qGo_cons, if_neg (by omega), if_pos h1]; simp only [escB_x h2, if_pos h2, hx, hy]
theorem qAt_x {n m : Nat} (hb : s[p]? = some b) (h1 : b.toNat = 92) (he : s[p + 1]? = some e) (h2 : e.toNat = 120) (hh : s[p + 2]? = some h) (hx : hexV h = some n) (hl : s[p + 3]? = some l) (hy : hexV l = some m) :
    qAt s p out = qAt s (p + 4) (out ++ [UInt8.ofNat (16 * n + m)]) := by
  unfold qAt; rw [drop_at hb, drop_at he, drop_at hh, drop_at hl, qGo_cons, if_neg (by omega), if_pos h1]; simp only [escB_x h2, if_pos h2, hx, hy]
end

/-! ### What is written -/
def hexD (n : Nat) : UInt8 := if n < 10 then UInt8.ofNat (48 + n) else UInt8.ofNat (87 + n)
def quoteB (b : UInt8) : List UInt8 :=
  if b.toNat = 34 ∨ b.toNat = 92 then [92, b] else if b.toNat = 10 then [92, 110] else if b.toNat = 13 then [92, 114] else if b.toNat = 9 then [92, 116]
  else if b.toNat < 32 ∨ 126 < b.toNat then [92, 120, hexD (b.toNat / 16), hexD (b.toNat % 16)] else [b]
def quoteT (s : List UInt8) : List UInt8 := 34 :: (s.flatMap quoteB ++ [34])

theorem hexV_hexD : ∀ n, n < 16 → hexV (hexD n) = some n := by decide
theorem qGo_quoteB (b : UInt8) (r : List UInt8) (p : Nat) (out : List UInt8) : qGo (quoteB b ++ r) p out = qGo r (p + (quoteB b).length) (out ++ [b]) := by
  have hb : b.toNat < 256 := b.toNat_lt
  have e92 : (92 : UInt8).toNat = 92 := rfl
  unfold quoteB
  split
  · rename_i h
    have he : escB b = some b := by
      unfold escB
      rcases h with h | h <;> (simp only [h]; simp; exact UInt8.toNat_inj.1 (by rw [h]; rfl))
    simp only [List.cons_append, List.nil_append, qGo_cons, e92, he, List.length_cons, List.length_nil]
    simp
  · split
    · rename_i h
      have : b = 10 := UInt8.toNat_inj.1 (by rw [h]; rfl)
      subst this; simp [qGo_cons, escB]
    · split
      · rename_i h
        have : b = 13 := UInt8.toNat_inj.1 (by rw [h]; rfl)
        subst this; simp [qGo_cons, escB]
      · split
        · rename_i h
          have : b = 9 := UInt8.toNat_inj.1 (by rw [h]; rfl)
          subst this; simp [qGo_cons, escB]
        · split
          · have h1 := hexV_hexD (b.toNat / 16) (by omega)
            have h2 := hexV_hexD (b.toNat % 16) (by omega)
            have h3 : escB 120 = none := by decide
            have h4 : UInt8.ofNat (16 * (b.toNat / 16) + b.toNat % 16) = b := UInt8.toNat_inj.1 (by rw [Nat.div_add_mod]; simp)
            simp only [List.cons_append, List.nil_append, qGo_cons, e92, h1, h2, h3, h4, List.length_cons, List.length_nil]
            simp
          · simp only [List.cons_append, List.nil_append, qGo_cons, List.length_cons, List.length_nil]
            rw [if_neg (by omega), if_neg (by omega), if_pos (by omega)]
theorem qGo_quotes (r : List UInt8) : ∀ (s : List UInt8) (p : Nat) (out : List UInt8), qGo (s.flatMap quoteB ++ r) p out = qGo r (p + (s.flatMap quoteB).length) (out ++ s)
  | [], p, out => by simp
  | b :: s, p, out => by
    rw [List.flatMap_cons, List.append_assoc, qGo_quoteB, qGo_quotes r s]
    simp [Nat.add_assoc]
theorem qText_quoteT (s : List UInt8) : qText (quoteT s) = .ok s (quoteT s).length := by
  unfold qText quoteT
  simp only [show (34 : UInt8).toNat = 34 from rfl, if_true]
  unfold qAt
  rw [List.drop_succ_cons, List.drop_zero, qGo_quotes, qGo_cons, if_pos (show (34 : UInt8).toNat = 34 from rfl)]
  simp [Nat.add_comm]
end Abs
