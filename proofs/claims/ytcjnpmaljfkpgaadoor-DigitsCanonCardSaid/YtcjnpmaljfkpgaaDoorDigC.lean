/- The number of digits: what it is, and the document's Parse. -/
import Derived.Test.YtcjnpmaljfkpgaaDoorDigB
namespace Abs
open Go
set_option linter.all false
set_option maxRecDepth 20000

def parseN (B : Nat) : List Nat → Nat → Option Nat
  | [], n => some n
  | d :: ds, n => if n * B + d ≤ 9223372036854775807 then parseN B ds (n * B + d) else none

theorem parseN_app (B : Nat) : ∀ (l1 l2 : List Nat) (n : Nat), parseN B (l1 ++ l2) n = (parseN B l1 n).bind (parseN B l2)
  | [], l2, n => rfl
  | d :: l1, l2, n => by
    simp only [List.cons_append, parseN]
    split
    · exact parseN_app B l1 l2 _
    · rfl

def digsN (s : List UInt8) (base : Int) : List Nat := s.map fun b => (digV b.toNat base).toNat
def allDig (s : List UInt8) (base : Int) : Bool := s.all fun b => decide (0 ≤ digV b.toNat base)

/-- What Parse hands back: the number, the error. -/
def parseR (s : List UInt8) (base : Int) : Nat × Nat :=
  if basedB base = false then (0, 1) else if s.length = 0 then (0, 9) else if allDig s base = false then (0, 9) else
    match parseN base.toNat (digsN s base) 0 with
    | some n => (n, 0)
    | none => (0, 10)

def numE (p : Nat × Nat) : EV := .tup [.int .u64 ((p.1 : Nat) : Int), .int .i64 ((p.2 : Nat) : Int)]

theorem digV_lt {b : Nat} {base : Int} (hb : base = 10 ∨ base = 16) : digV b base < base := by
  unfold digV
  split
  · rename_i h
    simp only [Bool.and_eq_true, decide_eq_true_eq] at h
    exact h.2
  · omega

theorem take_succ {α : Type} {l : List α} {i : Nat} {x : α} (h : l[i]? = some x) : l.take (i + 1) = l.take i ++ [x] := by
  rw [List.take_add_one, h]; rfl

theorem split_at {α : Type} {l : List α} {i : Nat} {x : α} (h : l[i]? = some x) : l = l.take i ++ x :: l.drop (i + 1) := by
  have hi := (List.getElem?_eq_some_iff.1 h)
  obtain ⟨hlt, rfl⟩ := hi
  rw [← List.drop_eq_getElem_cons hlt, List.take_append_drop]

/-- One more digit. -/
theorem parse_step {s : List UInt8} {base : Int} {i n d : Nat} {b : UInt8} (hb : s[i]? = some b) (hd : digV b.toNat base = (d : Int)) (hn : parseN base.toNat (digsN (s.take i) base) 0 = some n) :
    (n * base.toNat + d ≤ 9223372036854775807 → parseN base.toNat (digsN (s.take (i + 1)) base) 0 = some (n * base.toNat + d)) ∧
    (¬ n * base.toNat + d ≤ 9223372036854775807 → parseN base.toNat (digsN s base) 0 = none) := by
  have e : (digV b.toNat base).toNat = d := by rw [hd]; rfl
  constructor
  · intro h
    rw [take_succ hb]
    simp only [digsN, List.map_append, List.map_cons, List.map_nil] at hn ⊢
    rw [parseN_app, hn, e]
    show (if _ then _ else _) = _
    rw [if_pos h]
    rfl
  · intro h
    have hs : digsN s base = digsN (s.take i) base ++ d :: digsN (s.drop (i + 1)) base := by
      conv => lhs; rw [split_at hb]
      simp [digsN, e]
    rw [hs, parseN_app, hn]
    show (if _ then _ else _) = _
    rw [if_neg h]

theorem allDig_at {s : List UInt8} {base : Int} {i : Nat} {b : UInt8} (hb : s[i]? = some b) (h : allDig s base = true) : 0 ≤ digV b.toNat base := by
  have := List.all_eq_true.1 h b (List.mem_of_getElem? hb)
  exact of_decide_eq_true this

theorem allDig_no {s : List UInt8} {base : Int} {i : Nat} {b : UInt8} (hb : s[i]? = some b) (h : digV b.toNat base < 0) : allDig s base = false := by
  cases hx : allDig s base with
  | false => rfl
  | true => have := allDig_at hb hx; omega

theorem allDig_succ {s : List UInt8} {base : Int} {i : Nat} {b : UInt8} (hb : s[i]? = some b) (h : allDig (s.take i) base = true) (hd : ¬ digV b.toNat base < 0) : allDig (s.take (i + 1)) base = true := by
  rw [take_succ hb]
  unfold allDig at h ⊢
  rw [List.all_append, h]
  simp
  omega

attribute [local irreducible] parseN digsN allDig digV

section
variable {P : Program} {γ : Nat → EV}

def ParseOk (P : Program) (γ : Nat → EV) (f : FuncId) : Prop :=
  ∀ (s : List UInt8) (base : Int) (H : Heap), s.length ≤ 100000 → CallsA P γ f [.str s, .int .i64 base] H fun er H' => er = .ret (numE (parseR s base)) ∧ H' = H

set_option maxHeartbeats 16000000 in
theorem refParse_ok {f fd : FuncId} (hb : Body P f (hackleref03_Parse fd) hackleref03_Parse_r 60) (hd : DigitOk P γ fd) : ParseOk P γ f := by
  intro s base H hlen
  refine hb.calls (by simp) fun hok => ?_
  unfold hackleref03_Parse
  by_cases hbs : base = 10 ∨ base = 16
  case neg =>
    have d1 : (base == 10) = false := by rw [beq_eq_false_iff_ne]; exact fun e => hbs (.inl e)
    have d2 : (base == 16) = false := by rw [beq_eq_false_iff_ne]; exact fun e => hbs (.inr e)
    have d3 : (base != 10) = true := by rw [bne, d1]; rfl
    have d4 : (base != 16) = true := by rw [bne, d2]; rfl
    have e : parseR s base = (0, 1) := by unfold parseR basedB; rw [d1, d2]; rfl
    rw [e]
    repeat' first
      | with_reducible first | refine wpc_seq ?_ | refine wpc_ops ?_ | refine wops_nil ?_ | refine then_normal ?_ | refine wpc_block ?_ | refine block_normal ?_ | refine wpc_skip ?_ | refine wpc_exit ?_ | refine then_exit ?_ | refine block_exit_same ?_ | refine wpc_ret ?_ | refine then_ret ?_ | refine block_ret ?_ | refine wpc_draw ?_ | refine wdr_nil ?_ | refine gate_t ?_ | refine gate_f ?_ | refine gate_tt ?_ | refine gate_ff ?_ | refine gate_tf ?_ | refine gate_ft ?_ | exact keep_same | exact keep_true
      | (with_reducible refine block_exit_other ?_ ?_; decide)
      | ((with_reducible refine keep_rfl ?_); exact rfl)
      | ((with_reducible first | apply wops_guard | apply wdr_guard | apply wpc_test); focus (simp (disch := omega) only [go_sem, ↓reduceIte, simprocAttr, reduceCtorEq, d3, d4]; with_reducible first | exact lit_t | exact lit_f))
      | ((with_reducible first | apply wops_gone | apply wdr_gone); focus (simp (disch := omega) only [go_sem, ↓reduceIte, simprocAttr, reduceCtorEq, d3, d4]; done))
      | ((with_reducible first | apply wops_step | apply wops_do | apply wdr_step); focus (simp (disch := omega) only [go_sem, ↓reduceIte, simprocAttr, reduceCtorEq, d3, d4]; first | with_reducible exact rfl | (rw [if_pos (by first | omega | (constructor <;> omega) | (simp; done) | assumption)]; first | with_reducible exact rfl | (try simp (disch := omega) only [go_sem, ↓reduceIte, simprocAttr, reduceCtorEq, d3, d4]; with_reducible exact rfl))))
    refine end_same hok (r := .tup [.int .u64 0, .int .i64 1]) ?_ ?_ ⟨rfl, rfl⟩
    · first | (simp (disch := omega) only [go_sem, ↓reduceIte, simprocAttr, reduceCtorEq, evResults, evResL, evRes, hackleref03_Parse_r]; done) | (simp (disch := omega) only [go_sem, ↓reduceIte, simprocAttr, reduceCtorEq, evResults, evResL, evRes, hackleref03_Parse_r]; with_reducible exact rfl) | exact rfl
    · first | (simp [EV.ok, okL, okL_tab_int, okL_tab_bool, okL_app]; done)
  case pos =>
  obtain ⟨B, hBB⟩ : ∃ B : Nat, base = (B : Int) := ⟨base.toNat, by omega⟩
  have hB : B = 10 ∨ B = 16 := by omega
  have htn : base.toNat = B := by omega
  have hz : ¬ base = 0 := by omega
  obtain ⟨p, hp⟩ : ∃ p, (base != 10) = p := ⟨_, rfl⟩
  obtain ⟨q, hq⟩ : ∃ q, (base != 16) = q := ⟨_, rfl⟩
  have hbd : basedB base = true := by rcases hbs with rfl | rfl <;> rfl
  have hpq : p = false ∨ (p = true ∧ q = false) := by rcases hbs with rfl | rfl <;> simp at hp hq <;> simp [← hp, ← hq]
  obtain ⟨Q, hQ, hQ2⟩ : ∃ Q : Nat, (9223372036854775807 : Int).tdiv base = (Q : Int) ∧ (∀ n : Nat, n ≤ Q ↔ n * B ≤ 9223372036854775807) := by
    rcases hbs with rfl | rfl
    · obtain rfl : B = 10 := by omega
      exact ⟨922337203685477580, by decide, fun n => by omega⟩
    · obtain rfl : B = 16 := by omega
      exact ⟨576460752303423487, by decide, fun n => by omega⟩
  have hQ3 : Q ≤ 9223372036854775807 := by
    have := (hQ2 Q).1 (Nat.le_refl _)
    rcases hB with rfl | rfl <;> omega
  cases hl0 : decide (((s.length : Nat) : Int) = 0)
  case true =>
    have h0 : s.length = 0 := by have := of_decide_eq_true hl0; omega
    have e : parseR s base = (0, 9) := by unfold parseR; rw [hbd, if_neg (by simp), if_pos h0]
    have h0' : (((s.length : Nat) : Int) == 0) = true := by rw [h0]; rfl
    rw [e]
    rcases hpq with rfl | ⟨rfl, rfl⟩
    all_goals
      repeat' first
        | with_reducible first | refine wpc_seq ?_ | refine wpc_ops ?_ | refine wops_nil ?_ | refine then_normal ?_ | refine wpc_block ?_ | refine block_normal ?_ | refine wpc_skip ?_ | refine wpc_exit ?_ | refine then_exit ?_ | refine block_exit_same ?_ | refine wpc_ret ?_ | refine then_ret ?_ | refine block_ret ?_ | refine wpc_draw ?_ | refine wdr_nil ?_ | refine gate_t ?_ | refine gate_f ?_ | refine gate_tt ?_ | refine gate_ff ?_ | refine gate_tf ?_ | refine gate_ft ?_ | exact keep_same | exact keep_true
        | (with_reducible refine block_exit_other ?_ ?_; decide)
        | ((with_reducible refine keep_rfl ?_); exact rfl)
        | ((with_reducible first | apply wops_guard | apply wdr_guard | apply wpc_test); focus (simp (disch := omega) only [go_sem, ↓reduceIte, simprocAttr, reduceCtorEq, hp, hq, h0']; with_reducible first | exact lit_t | exact lit_f))
        | ((with_reducible first | apply wops_gone | apply wdr_gone); focus (simp (disch := omega) only [go_sem, ↓reduceIte, simprocAttr, reduceCtorEq, hp, hq, h0']; done))
        | ((with_reducible first | apply wops_step | apply wops_do | apply wdr_step); focus (simp (disch := omega) only [go_sem, ↓reduceIte, simprocAttr, reduceCtorEq, hp, hq, h0']; first | with_reducible exact rfl | (rw [if_pos (by first | omega | (constructor <;> omega) | (simp; done) | assumption)]; first | with_reducible exact rfl | (try simp (disch := omega) only [go_sem, ↓reduceIte, simprocAttr, reduceCtorEq, hp, hq, h0']; with_reducible exact rfl))))
      refine end_same hok (r := .tup [.int .u64 0, .int .i64 9]) ?_ ?_ ⟨rfl, rfl⟩
      · first | (simp (disch := omega) only [go_sem, ↓reduceIte, simprocAttr, reduceCtorEq, evResults, evResL, evRes, hackleref03_Parse_r]; done) | (simp (disch := omega) only [go_sem, ↓reduceIte, simprocAttr, reduceCtorEq, evResults, evResL, evRes, hackleref03_Parse_r]; with_reducible exact rfl) | exact rfl
      · first | (simp [EV.ok, okL, okL_tab_int, okL_tab_bool, okL_app]; done)
  case false =>
  have h0 : ¬ s.length = 0 := by have := of_decide_eq_false hl0; omega
  have h0' : (((s.length : Nat) : Int) == 0) = false := by rw [beq_eq_false_iff_ne]; omega
  rcases hpq with rfl | ⟨rfl, rfl⟩
  all_goals
    repeat' first
      | with_reducible first | refine wpc_seq ?_ | refine wpc_ops ?_ | refine wops_nil ?_ | refine then_normal ?_ | refine wpc_block ?_ | refine block_normal ?_ | refine wpc_skip ?_ | refine wpc_exit ?_ | refine then_exit ?_ | refine block_exit_same ?_ | refine wpc_ret ?_ | refine then_ret ?_ | refine block_ret ?_ | refine wpc_draw ?_ | refine wdr_nil ?_ | refine gate_t ?_ | refine gate_f ?_ | refine gate_tt ?_ | refine gate_ff ?_ | refine gate_tf ?_ | refine gate_ft ?_ | exact keep_same | exact keep_true
      | (with_reducible refine block_exit_other ?_ ?_; decide)
      | ((with_reducible refine keep_rfl ?_); exact rfl)
      | ((with_reducible first | apply wops_guard | apply wdr_guard | apply wpc_test); focus (simp (disch := omega) only [go_sem, ↓reduceIte, simprocAttr, reduceCtorEq, hp, hq, h0']; with_reducible first | exact lit_t | exact lit_f))
      | ((with_reducible first | apply wops_gone | apply wdr_gone); focus (simp (disch := omega) only [go_sem, ↓reduceIte, simprocAttr, reduceCtorEq, hp, hq, h0']; done))
      | ((with_reducible first | apply wops_step | apply wops_do | apply wdr_step); focus (simp (disch := omega) only [go_sem, ↓reduceIte, simprocAttr, reduceCtorEq, hp, hq, h0']; first | with_reducible exact rfl | (rw [if_pos (by first | omega | (constructor <;> omega) | (simp; done) | assumption)]; first | with_reducible exact rfl | (try simp (disch := omega) only [go_sem, ↓reduceIte, simprocAttr, reduceCtorEq, hp, hq, h0']; with_reducible exact rfl))))
    refine wpc_while (ι := Nat) (fun i => i ≤ s.length ∧ allDig (s.take i) base = true) (fun i => s.length - i) (fun i => [(0, .str s), (1, .int .i64 base), (6, .int .i64 (i : Int))]) (fun _ => H) 0 (by exact ⟨by omega, by unfold allDig; rfl⟩) ?_ ?_ ?_ ?_ ?_
    · (repeat' (first | exact trivial | refine And.intro (And.intro ?_ ?_) ?_)) <;> first | exact rfl | (simp (disch := omega) only [go_sem, ↓reduceIte, simprocAttr, reduceCtorEq, EV.ok, okL_tab_int, okL_tab_bool, okL_app, okL, decide_eq_true_eq, EV.int.injEq]; done) | (simp (disch := omega) only [go_sem, ↓reduceIte, simprocAttr, reduceCtorEq, EV.ok, okL_tab_int, okL_tab_bool, okL_app, okL, decide_eq_true_eq, EV.int.injEq] <;> first | exact rfl | omega)
    · simp
    · exact fun i _ => hok
    · simp
    · rintro i ⟨hi, hai⟩ K Q' hK hQ'
      repeat' first
        | with_reducible first | refine wpc_seq ?_ | refine wpc_ops ?_ | refine wops_nil ?_ | refine then_normal ?_ | refine wpc_block ?_ | refine block_normal ?_ | refine wpc_skip ?_ | refine wpc_exit ?_ | refine then_exit ?_ | refine block_exit_same ?_ | refine wpc_ret ?_ | refine then_ret ?_ | refine block_ret ?_ | refine wpc_draw ?_ | refine wdr_nil ?_ | refine gate_t ?_ | refine gate_f ?_ | refine gate_tt ?_ | refine gate_ff ?_ | refine gate_tf ?_ | refine gate_ft ?_ | exact keep_same | exact keep_true
        | (with_reducible refine block_exit_other ?_ ?_; decide)
        | ((with_reducible refine keep_rfl ?_); exact rfl)
        | ((with_reducible first | apply wops_guard | apply wdr_guard | apply wpc_test); focus (simp (disch := omega) only [go_sem, ↓reduceIte, simprocAttr, reduceCtorEq]; with_reducible first | exact lit_t | exact lit_f))
        | ((with_reducible first | apply wops_gone | apply wdr_gone); focus (simp (disch := omega) only [go_sem, ↓reduceIte, simprocAttr, reduceCtorEq]; done))
        | ((with_reducible first | apply wops_step | apply wops_do | apply wdr_step); focus (simp (disch := omega) only [go_sem, ↓reduceIte, simprocAttr, reduceCtorEq]; first | with_reducible exact rfl | (rw [if_pos (by first | omega | (constructor <;> omega) | (simp; done) | assumption)]; first | with_reducible exact rfl | (try simp (disch := omega) only [go_sem, ↓reduceIte, simprocAttr, reduceCtorEq]; with_reducible exact rfl))))
      refine wpc_cond (t := decide ((i : Int) < s.length)) (by simp (disch := omega) only [go_sem, ↓reduceIte, simprocAttr, reduceCtorEq]) (fun ht => ?_) (fun ht => ?_)
      · have hil : i < s.length := by have := of_decide_eq_true ht; omega
        obtain ⟨b, hbi⟩ : ∃ b, s[i]? = some b := ⟨s[i], by simp [hil]⟩
        have hb8 : b.toNat < 256 := b.toNat_lt
        repeat' first
          | with_reducible first | refine wpc_seq ?_ | refine wpc_ops ?_ | refine wops_nil ?_ | refine then_normal ?_ | refine wpc_block ?_ | refine block_normal ?_ | refine wpc_skip ?_ | refine wpc_exit ?_ | refine then_exit ?_ | refine block_exit_same ?_ | refine wpc_ret ?_ | refine then_ret ?_ | refine block_ret ?_ | refine wpc_draw ?_ | refine wdr_nil ?_ | refine gate_t ?_ | refine gate_f ?_ | refine gate_tt ?_ | refine gate_ff ?_ | refine gate_tf ?_ | refine gate_ft ?_ | exact keep_same | exact keep_true
          | (with_reducible refine block_exit_other ?_ ?_; decide)
          | ((with_reducible refine keep_rfl ?_); exact rfl)
          | ((with_reducible first | apply wops_guard | apply wdr_guard | apply wpc_test); focus (simp (disch := omega) only [go_sem, ↓reduceIte, simprocAttr, reduceCtorEq, hbi, Option.map_some]; with_reducible first | exact lit_t | exact lit_f))
          | ((with_reducible first | apply wops_gone | apply wdr_gone); focus (simp (disch := omega) only [go_sem, ↓reduceIte, simprocAttr, reduceCtorEq, hbi, Option.map_some]; done))
          | ((with_reducible first | apply wops_step | apply wops_do | apply wdr_step); focus (simp (disch := omega) only [go_sem, ↓reduceIte, simprocAttr, reduceCtorEq, hbi, Option.map_some]; first | with_reducible exact rfl | (rw [if_pos (by first | omega | (constructor <;> omega) | (simp; done) | assumption)]; first | with_reducible exact rfl | (try simp (disch := omega) only [go_sem, ↓reduceIte, simprocAttr, reduceCtorEq, hbi, Option.map_some]; with_reducible exact rfl))))
        with_reducible apply wops_call1
        · first | exact rfl | (simp (disch := omega) only [go_sem, ↓reduceIte, simprocAttr, reduceCtorEq]; exact rfl)
        · (simp (disch := omega) only [go_sem, ↓reduceIte, simprocAttr, reduceCtorEq]; exact rfl)
        · exact hd b.toNat base _ hb8
        repeat' first
          | with_reducible first | refine wpc_seq ?_ | refine wpc_ops ?_ | refine wops_nil ?_ | refine then_normal ?_ | refine wpc_block ?_ | refine block_normal ?_ | refine wpc_skip ?_ | refine wpc_exit ?_ | refine then_exit ?_ | refine block_exit_same ?_ | refine wpc_ret ?_ | refine then_ret ?_ | refine block_ret ?_ | refine wpc_draw ?_ | refine wdr_nil ?_ | refine gate_t ?_ | refine gate_f ?_ | refine gate_tt ?_ | refine gate_ff ?_ | refine gate_tf ?_ | refine gate_ft ?_ | exact keep_same | exact keep_true
          | (with_reducible refine block_exit_other ?_ ?_; decide)
          | ((with_reducible refine keep_rfl ?_); exact rfl)
          | ((with_reducible first | apply wops_guard | apply wdr_guard | apply wpc_test); focus (simp (disch := omega) only [go_sem, ↓reduceIte, simprocAttr, reduceCtorEq]; with_reducible first | exact lit_t | exact lit_f))
          | ((with_reducible first | apply wops_gone | apply wdr_gone); focus (simp (disch := omega) only [go_sem, ↓reduceIte, simprocAttr, reduceCtorEq]; done))
          | ((with_reducible first | apply wops_step | apply wops_do | apply wdr_step); focus (simp (disch := omega) only [go_sem, ↓reduceIte, simprocAttr, reduceCtorEq]; first | with_reducible exact rfl | (rw [if_pos (by first | omega | (constructor <;> omega) | (simp; done) | assumption)]; first | with_reducible exact rfl | (try simp (disch := omega) only [go_sem, ↓reduceIte, simprocAttr, reduceCtorEq]; with_reducible exact rfl))))
        refine wpc_cond (t := decide (digV b.toNat base < 0)) (by simp (disch := omega) only [go_sem, ↓reduceIte, simprocAttr, reduceCtorEq]) (fun hc => ?_) (fun hc => ?_)
        · have e : parseR s base = (0, 9) := by unfold parseR; rw [hbd, if_neg (by simp), if_neg h0, if_pos (allDig_no hbi (of_decide_eq_true hc))]
          rw [e] at hQ'
          repeat' first
            | with_reducible first | refine wpc_seq ?_ | refine wpc_ops ?_ | refine wops_nil ?_ | refine then_normal ?_ | refine wpc_block ?_ | refine block_normal ?_ | refine wpc_skip ?_ | refine wpc_exit ?_ | refine then_exit ?_ | refine block_exit_same ?_ | refine wpc_ret ?_ | refine then_ret ?_ | refine block_ret ?_ | refine wpc_draw ?_ | refine wdr_nil ?_ | refine gate_t ?_ | refine gate_f ?_ | refine gate_tt ?_ | refine gate_ff ?_ | refine gate_tf ?_ | refine gate_ft ?_ | exact keep_same | exact keep_true
            | (with_reducible refine block_exit_other ?_ ?_; decide)
            | ((with_reducible refine keep_rfl ?_); exact rfl)
            | ((with_reducible first | apply wops_guard | apply wdr_guard | apply wpc_test); focus (simp (disch := omega) only [go_sem, ↓reduceIte, simprocAttr, reduceCtorEq]; with_reducible first | exact lit_t | exact lit_f))
            | ((with_reducible first | apply wops_gone | apply wdr_gone); focus (simp (disch := omega) only [go_sem, ↓reduceIte, simprocAttr, reduceCtorEq]; done))
            | ((with_reducible first | apply wops_step | apply wops_do | apply wdr_step); focus (simp (disch := omega) only [go_sem, ↓reduceIte, simprocAttr, reduceCtorEq]; first | with_reducible exact rfl | (rw [if_pos (by first | omega | (constructor <;> omega) | (simp; done) | assumption)]; first | with_reducible exact rfl | (try simp (disch := omega) only [go_sem, ↓reduceIte, simprocAttr, reduceCtorEq]; with_reducible exact rfl))))
          refine hQ' _ _ _ ?_
          repeat' first
            | with_reducible first | refine wpc_seq ?_ | refine wpc_ops ?_ | refine wops_nil ?_ | refine then_normal ?_ | refine wpc_block ?_ | refine block_normal ?_ | refine wpc_skip ?_ | refine wpc_exit ?_ | refine then_exit ?_ | refine block_exit_same ?_ | refine wpc_ret ?_ | refine then_ret ?_ | refine block_ret ?_ | refine wpc_draw ?_ | refine wdr_nil ?_ | refine gate_t ?_ | refine gate_f ?_ | refine gate_tt ?_ | refine gate_ff ?_ | refine gate_tf ?_ | refine gate_ft ?_ | exact keep_same | exact keep_true
            | (with_reducible refine block_exit_other ?_ ?_; decide)
            | ((with_reducible refine keep_rfl ?_); exact rfl)
            | ((with_reducible first | apply wops_guard | apply wdr_guard | apply wpc_test); focus (simp (disch := omega) only [go_sem, ↓reduceIte, simprocAttr, reduceCtorEq]; with_reducible first | exact lit_t | exact lit_f))
            | ((with_reducible first | apply wops_gone | apply wdr_gone); focus (simp (disch := omega) only [go_sem, ↓reduceIte, simprocAttr, reduceCtorEq]; done))
            | ((with_reducible first | apply wops_step | apply wops_do | apply wdr_step); focus (simp (disch := omega) only [go_sem, ↓reduceIte, simprocAttr, reduceCtorEq]; first | with_reducible exact rfl | (rw [if_pos (by first | omega | (constructor <;> omega) | (simp; done) | assumption)]; first | with_reducible exact rfl | (try simp (disch := omega) only [go_sem, ↓reduceIte, simprocAttr, reduceCtorEq]; with_reducible exact rfl))))
          refine end_same hok (r := .tup [.int .u64 0, .int .i64 9]) ?_ ?_ ⟨rfl, rfl⟩
          · first | (simp (disch := omega) only [go_sem, ↓reduceIte, simprocAttr, reduceCtorEq, evResults, evResL, evRes, hackleref03_Parse_r]; done) | (simp (disch := omega) only [go_sem, ↓reduceIte, simprocAttr, reduceCtorEq, evResults, evResL, evRes, hackleref03_Parse_r]; with_reducible exact rfl) | exact rfl
          · first | (simp [EV.ok, okL, okL_tab_int, okL_tab_bool, okL_app]; done)
        · repeat' first
            | with_reducible first | refine wpc_seq ?_ | refine wpc_ops ?_ | refine wops_nil ?_ | refine then_normal ?_ | refine wpc_block ?_ | refine block_normal ?_ | refine wpc_skip ?_ | refine wpc_exit ?_ | refine then_exit ?_ | refine block_exit_same ?_ | refine wpc_ret ?_ | refine then_ret ?_ | refine block_ret ?_ | refine wpc_draw ?_ | refine wdr_nil ?_ | refine gate_t ?_ | refine gate_f ?_ | refine gate_tt ?_ | refine gate_ff ?_ | refine gate_tf ?_ | refine gate_ft ?_ | exact keep_same | exact keep_true
            | (with_reducible refine block_exit_other ?_ ?_; decide)
            | ((with_reducible refine keep_rfl ?_); exact rfl)
            | ((with_reducible first | apply wops_guard | apply wdr_guard | apply wpc_test); focus (simp (disch := omega) only [go_sem, ↓reduceIte, simprocAttr, reduceCtorEq]; with_reducible first | exact lit_t | exact lit_f))
            | ((with_reducible first | apply wops_gone | apply wdr_gone); focus (simp (disch := omega) only [go_sem, ↓reduceIte, simprocAttr, reduceCtorEq]; done))
            | ((with_reducible first | apply wops_step | apply wops_do | apply wdr_step); focus (simp (disch := omega) only [go_sem, ↓reduceIte, simprocAttr, reduceCtorEq]; first | with_reducible exact rfl | (rw [if_pos (by first | omega | (constructor <;> omega) | (simp; done) | assumption)]; first | with_reducible exact rfl | (try simp (disch := omega) only [go_sem, ↓reduceIte, simprocAttr, reduceCtorEq]; with_reducible exact rfl))))
          refine hK (i + 1) _ _ [] (by exact ⟨by omega, allDig_succ hbi hai (of_decide_eq_false hc)⟩) (by omega) (by simp) ?_
          (repeat' (first | exact trivial | refine And.intro (And.intro ?_ ?_) ?_)) <;> first | exact rfl | (simp (disch := omega) only [go_sem, ↓reduceIte, simprocAttr, reduceCtorEq, EV.ok, okL_tab_int, okL_tab_bool, okL_app, okL, decide_eq_true_eq, EV.int.injEq]; done) | (simp (disch := omega) only [go_sem, ↓reduceIte, simprocAttr, reduceCtorEq, EV.ok, okL_tab_int, okL_tab_bool, okL_app, okL, decide_eq_true_eq, EV.int.injEq] <;> first | exact rfl | omega)
      · have hi4 : i = s.length := by have := of_decide_eq_false ht; omega
        subst hi4
        rw [List.take_length] at hai
        repeat' first
          | with_reducible first | refine wpc_seq ?_ | refine wpc_ops ?_ | refine wops_nil ?_ | refine then_normal ?_ | refine wpc_block ?_ | refine block_normal ?_ | refine wpc_skip ?_ | refine wpc_exit ?_ | refine then_exit ?_ | refine block_exit_same ?_ | refine wpc_ret ?_ | refine then_ret ?_ | refine block_ret ?_ | refine wpc_draw ?_ | refine wdr_nil ?_ | refine gate_t ?_ | refine gate_f ?_ | refine gate_tt ?_ | refine gate_ff ?_ | refine gate_tf ?_ | refine gate_ft ?_ | exact keep_same | exact keep_true
          | (with_reducible refine block_exit_other ?_ ?_; decide)
          | ((with_reducible refine keep_rfl ?_); exact rfl)
          | ((with_reducible first | apply wops_guard | apply wdr_guard | apply wpc_test); focus (simp (disch := omega) only [go_sem, ↓reduceIte, simprocAttr, reduceCtorEq]; with_reducible first | exact lit_t | exact lit_f))
          | ((with_reducible first | apply wops_gone | apply wdr_gone); focus (simp (disch := omega) only [go_sem, ↓reduceIte, simprocAttr, reduceCtorEq]; done))
          | ((with_reducible first | apply wops_step | apply wops_do | apply wdr_step); focus (simp (disch := omega) only [go_sem, ↓reduceIte, simprocAttr, reduceCtorEq]; first | with_reducible exact rfl | (rw [if_pos (by first | omega | (constructor <;> omega) | (simp; done) | assumption)]; first | with_reducible exact rfl | (try simp (disch := omega) only [go_sem, ↓reduceIte, simprocAttr, reduceCtorEq]; with_reducible exact rfl))))
        refine hQ' _ _ _ ?_
        repeat' first
          | with_reducible first | refine wpc_seq ?_ | refine wpc_ops ?_ | refine wops_nil ?_ | refine then_normal ?_ | refine wpc_block ?_ | refine block_normal ?_ | refine wpc_skip ?_ | refine wpc_exit ?_ | refine then_exit ?_ | refine block_exit_same ?_ | refine wpc_ret ?_ | refine then_ret ?_ | refine block_ret ?_ | refine wpc_draw ?_ | refine wdr_nil ?_ | refine gate_t ?_ | refine gate_f ?_ | refine gate_tt ?_ | refine gate_ff ?_ | refine gate_tf ?_ | refine gate_ft ?_ | exact keep_same | exact keep_true
          | (with_reducible refine block_exit_other ?_ ?_; decide)
          | ((with_reducible refine keep_rfl ?_); exact rfl)
          | ((with_reducible first | apply wops_guard | apply wdr_guard | apply wpc_test); focus (simp (disch := omega) only [go_sem, ↓reduceIte, simprocAttr, reduceCtorEq]; with_reducible first | exact lit_t | exact lit_f))
          | ((with_reducible first | apply wops_gone | apply wdr_gone); focus (simp (disch := omega) only [go_sem, ↓reduceIte, simprocAttr, reduceCtorEq]; done))
          | ((with_reducible first | apply wops_step | apply wops_do | apply wdr_step); focus (simp (disch := omega) only [go_sem, ↓reduceIte, simprocAttr, reduceCtorEq]; first | with_reducible exact rfl | (rw [if_pos (by first | omega | (constructor <;> omega) | (simp; done) | assumption)]; first | with_reducible exact rfl | (try simp (disch := omega) only [go_sem, ↓reduceIte, simprocAttr, reduceCtorEq]; with_reducible exact rfl))))
        refine wpc_while (ι := Nat × Nat) (fun i => i.1 ≤ s.length ∧ parseN base.toNat (digsN (s.take i.1) base) 0 = some i.2 ∧ i.2 ≤ 9223372036854775807) (fun i => s.length - i.1)
          (fun i => [(0, .str s), (1, .int .i64 base), (7, .int .u64 (i.2 : Int)), (8, .int .i64 (i.1 : Int))]) (fun _ => H) (0, 0) (by exact ⟨by simp, by unfold digsN parseN; rfl, by simp⟩) ?_ ?_ ?_ ?_ ?_
        · (repeat' (first | exact trivial | refine And.intro (And.intro ?_ ?_) ?_)) <;> first | exact rfl | (simp (disch := omega) only [go_sem, ↓reduceIte, simprocAttr, reduceCtorEq, EV.ok, okL_tab_int, okL_tab_bool, okL_app, okL, decide_eq_true_eq, EV.int.injEq]; done) | (simp (disch := omega) only [go_sem, ↓reduceIte, simprocAttr, reduceCtorEq, EV.ok, okL_tab_int, okL_tab_bool, okL_app, okL, decide_eq_true_eq, EV.int.injEq] <;> first | exact rfl | omega)
        · simp
        · exact fun i _ => hok
        · simp
        · rintro ⟨i, n⟩ ⟨hi, hn, hnM⟩ K2 Q2 hK2 hQ2'
          simp only at hi hn hnM
          repeat' first
            | with_reducible first | refine wpc_seq ?_ | refine wpc_ops ?_ | refine wops_nil ?_ | refine then_normal ?_ | refine wpc_block ?_ | refine block_normal ?_ | refine wpc_skip ?_ | refine wpc_exit ?_ | refine then_exit ?_ | refine block_exit_same ?_ | refine wpc_ret ?_ | refine then_ret ?_ | refine block_ret ?_ | refine wpc_draw ?_ | refine wdr_nil ?_ | refine gate_t ?_ | refine gate_f ?_ | refine gate_tt ?_ | refine gate_ff ?_ | refine gate_tf ?_ | refine gate_ft ?_ | exact keep_same | exact keep_true
            | (with_reducible refine block_exit_other ?_ ?_; decide)
            | ((with_reducible refine keep_rfl ?_); exact rfl)
            | ((with_reducible first | apply wops_guard | apply wdr_guard | apply wpc_test); focus (simp (disch := omega) only [go_sem, ↓reduceIte, simprocAttr, reduceCtorEq]; with_reducible first | exact lit_t | exact lit_f))
            | ((with_reducible first | apply wops_gone | apply wdr_gone); focus (simp (disch := omega) only [go_sem, ↓reduceIte, simprocAttr, reduceCtorEq]; done))
            | ((with_reducible first | apply wops_step | apply wops_do | apply wdr_step); focus (simp (disch := omega) only [go_sem, ↓reduceIte, simprocAttr, reduceCtorEq]; first | with_reducible exact rfl | (rw [if_pos (by first | omega | (constructor <;> omega) | (simp; done) | assumption)]; first | with_reducible exact rfl | (try simp (disch := omega) only [go_sem, ↓reduceIte, simprocAttr, reduceCtorEq]; with_reducible exact rfl))))
          refine wpc_cond (t := decide ((i : Int) < s.length)) (by simp (disch := omega) only [go_sem, ↓reduceIte, simprocAttr, reduceCtorEq]) (fun ht => ?_) (fun ht => ?_)
          · have hil : i < s.length := by have := of_decide_eq_true ht; omega
            obtain ⟨b, hbi⟩ : ∃ b, s[i]? = some b := ⟨s[i], by simp [hil]⟩
            have hb8 : b.toNat < 256 := b.toNat_lt
            have hge := allDig_at hbi hai
            have hlt := digV_lt (b := b.toNat) hbs
            obtain ⟨d, hdd⟩ : ∃ d : Nat, digV b.toNat base = (d : Int) := ⟨(digV b.toNat base).toNat, by omega⟩
            have hst := parse_step hbi hdd hn
            rw [htn] at hst
            obtain ⟨m, hm⟩ : ∃ m : Nat, m = n * B := ⟨_, rfl⟩
            have hm' : (n : Int) * base = (m : Int) := by rw [hBB, hm]; simp
            rw [← hm] at hst
            repeat' first
              | with_reducible first | refine wpc_seq ?_ | refine wpc_ops ?_ | refine wops_nil ?_ | refine then_normal ?_ | refine wpc_block ?_ | refine block_normal ?_ | refine wpc_skip ?_ | refine wpc_exit ?_ | refine then_exit ?_ | refine block_exit_same ?_ | refine wpc_ret ?_ | refine then_ret ?_ | refine block_ret ?_ | refine wpc_draw ?_ | refine wdr_nil ?_ | refine gate_t ?_ | refine gate_f ?_ | refine gate_tt ?_ | refine gate_ff ?_ | refine gate_tf ?_ | refine gate_ft ?_ | exact keep_same | exact keep_true
              | (with_reducible refine block_exit_other ?_ ?_; decide)
              | ((with_reducible refine keep_rfl ?_); exact rfl)
              | ((with_reducible first | apply wops_guard | apply wdr_guard | apply wpc_test); focus (simp (disch := omega) only [go_sem, ↓reduceIte, simprocAttr, reduceCtorEq, hbi, Option.map_some]; with_reducible first | exact lit_t | exact lit_f))
              | ((with_reducible first | apply wops_gone | apply wdr_gone); focus (simp (disch := omega) only [go_sem, ↓reduceIte, simprocAttr, reduceCtorEq, hbi, Option.map_some]; done))
              | ((with_reducible first | apply wops_step | apply wops_do | apply wdr_step); focus (simp (disch := omega) only [go_sem, ↓reduceIte, simprocAttr, reduceCtorEq, hbi, Option.map_some]; first | with_reducible exact rfl | (rw [if_pos (by first | omega | (constructor <;> omega) | (simp; done) | assumption)]; first | with_reducible exact rfl | (try simp (disch := omega) only [go_sem, ↓reduceIte, simprocAttr, reduceCtorEq, hbi, Option.map_some]; with_reducible exact rfl))))
            with_reducible apply wops_call1
            · first | exact rfl | (simp (disch := omega) only [go_sem, ↓reduceIte, simprocAttr, reduceCtorEq]; exact rfl)
            · (simp (disch := omega) only [go_sem, ↓reduceIte, simprocAttr, reduceCtorEq]; exact rfl)
            · exact hd b.toNat base _ hb8
            repeat' first
              | with_reducible first | refine wpc_seq ?_ | refine wpc_ops ?_ | refine wops_nil ?_ | refine then_normal ?_ | refine wpc_block ?_ | refine block_normal ?_ | refine wpc_skip ?_ | refine wpc_exit ?_ | refine then_exit ?_ | refine block_exit_same ?_ | refine wpc_ret ?_ | refine then_ret ?_ | refine block_ret ?_ | refine wpc_draw ?_ | refine wdr_nil ?_ | refine gate_t ?_ | refine gate_f ?_ | refine gate_tt ?_ | refine gate_ff ?_ | refine gate_tf ?_ | refine gate_ft ?_ | exact keep_same | exact keep_true
              | (with_reducible refine block_exit_other ?_ ?_; decide)
              | ((with_reducible refine keep_rfl ?_); exact rfl)
              | ((with_reducible first | apply wops_guard | apply wdr_guard | apply wpc_test); focus (simp (disch := omega) only [go_sem, ↓reduceIte, simprocAttr, reduceCtorEq, hdd, hQ, hz]; with_reducible first | exact lit_t | exact lit_f))
              | ((with_reducible first | apply wops_gone | apply wdr_gone); focus (simp (disch := omega) only [go_sem, ↓reduceIte, simprocAttr, reduceCtorEq, hdd, hQ, hz]; done))
              | ((with_reducible first | apply wops_step | apply wops_do | apply wdr_step); focus (simp (disch := omega) only [go_sem, ↓reduceIte, simprocAttr, reduceCtorEq, hdd, hQ, hz]; first | with_reducible exact rfl | (rw [if_pos (by first | omega | (constructor <;> omega) | (simp; done) | assumption)]; first | with_reducible exact rfl | (try simp (disch := omega) only [go_sem, ↓reduceIte, simprocAttr, reduceCtorEq, hdd, hQ, hz]; with_reducible exact rfl))))
            refine wpc_cond (t := decide ((n : Int) > (Q : Int))) (by simp (disch := omega) only [go_sem, ↓reduceIte, simprocAttr, reduceCtorEq]) (fun hc => ?_) (fun hc => ?_)
            · have hc' : ¬ n ≤ Q := by have := of_decide_eq_true hc; omega
              rw [hQ2, ← hm] at hc'
              have e : parseR s base = (0, 10) := by unfold parseR; rw [hbd, if_neg (by simp), if_neg h0, if_neg (by rw [hai]; simp), htn, hst.2 (by omega)]
              rw [e] at hQ2'
              repeat' first
                | with_reducible first | refine wpc_seq ?_ | refine wpc_ops ?_ | refine wops_nil ?_ | refine then_normal ?_ | refine wpc_block ?_ | refine block_normal ?_ | refine wpc_skip ?_ | refine wpc_exit ?_ | refine then_exit ?_ | refine block_exit_same ?_ | refine wpc_ret ?_ | refine then_ret ?_ | refine block_ret ?_ | refine wpc_draw ?_ | refine wdr_nil ?_ | refine gate_t ?_ | refine gate_f ?_ | refine gate_tt ?_ | refine gate_ff ?_ | refine gate_tf ?_ | refine gate_ft ?_ | exact keep_same | exact keep_true
                | (with_reducible refine block_exit_other ?_ ?_; decide)
                | ((with_reducible refine keep_rfl ?_); exact rfl)
                | ((with_reducible first | apply wops_guard | apply wdr_guard | apply wpc_test); focus (simp (disch := omega) only [go_sem, ↓reduceIte, simprocAttr, reduceCtorEq]; with_reducible first | exact lit_t | exact lit_f))
                | ((with_reducible first | apply wops_gone | apply wdr_gone); focus (simp (disch := omega) only [go_sem, ↓reduceIte, simprocAttr, reduceCtorEq]; done))
                | ((with_reducible first | apply wops_step | apply wops_do | apply wdr_step); focus (simp (disch := omega) only [go_sem, ↓reduceIte, simprocAttr, reduceCtorEq]; first | with_reducible exact rfl | (rw [if_pos (by first | omega | (constructor <;> omega) | (simp; done) | assumption)]; first | with_reducible exact rfl | (try simp (disch := omega) only [go_sem, ↓reduceIte, simprocAttr, reduceCtorEq]; with_reducible exact rfl))))
              refine hQ2' _ _ _ ?_
              repeat' first
                | with_reducible first | refine wpc_seq ?_ | refine wpc_ops ?_ | refine wops_nil ?_ | refine then_normal ?_ | refine wpc_block ?_ | refine block_normal ?_ | refine wpc_skip ?_ | refine wpc_exit ?_ | refine then_exit ?_ | refine block_exit_same ?_ | refine wpc_ret ?_ | refine then_ret ?_ | refine block_ret ?_ | refine wpc_draw ?_ | refine wdr_nil ?_ | refine gate_t ?_ | refine gate_f ?_ | refine gate_tt ?_ | refine gate_ff ?_ | refine gate_tf ?_ | refine gate_ft ?_ | exact keep_same | exact keep_true
                | (with_reducible refine block_exit_other ?_ ?_; decide)
                | ((with_reducible refine keep_rfl ?_); exact rfl)
                | ((with_reducible first | apply wops_guard | apply wdr_guard | apply wpc_test); focus (simp (disch := omega) only [go_sem, ↓reduceIte, simprocAttr, reduceCtorEq]; with_reducible first | exact lit_t | exact lit_f))
                | ((with_reducible first | apply wops_gone | apply wdr_gone); focus (simp (disch := omega) only [go_sem, ↓reduceIte, simprocAttr, reduceCtorEq]; done))
                | ((with_reducible first | apply wops_step | apply wops_do | apply wdr_step); focus (simp (disch := omega) only [go_sem, ↓reduceIte, simprocAttr, reduceCtorEq]; first | with_reducible exact rfl | (rw [if_pos (by first | omega | (constructor <;> omega) | (simp; done) | assumption)]; first | with_reducible exact rfl | (try simp (disch := omega) only [go_sem, ↓reduceIte, simprocAttr, reduceCtorEq]; with_reducible exact rfl))))
              refine end_same hok (r := .tup [.int .u64 0, .int .i64 10]) ?_ ?_ ⟨rfl, rfl⟩
              · first | (simp (disch := omega) only [go_sem, ↓reduceIte, simprocAttr, reduceCtorEq, evResults, evResL, evRes, hackleref03_Parse_r]; done) | (simp (disch := omega) only [go_sem, ↓reduceIte, simprocAttr, reduceCtorEq, evResults, evResL, evRes, hackleref03_Parse_r]; with_reducible exact rfl) | exact rfl
              · first | (simp [EV.ok, okL, okL_tab_int, okL_tab_bool, okL_app]; done)
            · have hc' : n ≤ Q := by have := of_decide_eq_false hc; omega
              rw [hQ2, ← hm] at hc'
              repeat' first
                | with_reducible first | refine wpc_seq ?_ | refine wpc_ops ?_ | refine wops_nil ?_ | refine then_normal ?_ | refine wpc_block ?_ | refine block_normal ?_ | refine wpc_skip ?_ | refine wpc_exit ?_ | refine then_exit ?_ | refine block_exit_same ?_ | refine wpc_ret ?_ | refine then_ret ?_ | refine block_ret ?_ | refine wpc_draw ?_ | refine wdr_nil ?_ | refine gate_t ?_ | refine gate_f ?_ | refine gate_tt ?_ | refine gate_ff ?_ | refine gate_tf ?_ | refine gate_ft ?_ | exact keep_same | exact keep_true
                | (with_reducible refine block_exit_other ?_ ?_; decide)
                | ((with_reducible refine keep_rfl ?_); exact rfl)
                | ((with_reducible first | apply wops_guard | apply wdr_guard | apply wpc_test); focus (simp (disch := omega) only [go_sem, ↓reduceIte, simprocAttr, reduceCtorEq, hm']; with_reducible first | exact lit_t | exact lit_f))
                | ((with_reducible first | apply wops_gone | apply wdr_gone); focus (simp (disch := omega) only [go_sem, ↓reduceIte, simprocAttr, reduceCtorEq, hm']; done))
                | ((with_reducible first | apply wops_step | apply wops_do | apply wdr_step); focus (simp (disch := omega) only [go_sem, ↓reduceIte, simprocAttr, reduceCtorEq, hm']; first | with_reducible exact rfl | (rw [if_pos (by first | omega | (constructor <;> omega) | (simp; done) | assumption)]; first | with_reducible exact rfl | (try simp (disch := omega) only [go_sem, ↓reduceIte, simprocAttr, reduceCtorEq, hm']; with_reducible exact rfl))))
              refine wpc_cond (t := decide ((d : Int) > 9223372036854775807 - (m : Int))) (by simp (disch := omega) only [go_sem, ↓reduceIte, simprocAttr, reduceCtorEq]) (fun hc2 => ?_) (fun hc2 => ?_)
              · have hc3 : ¬ m + d ≤ 9223372036854775807 := by have := of_decide_eq_true hc2; omega
                have e : parseR s base = (0, 10) := by unfold parseR; rw [hbd, if_neg (by simp), if_neg h0, if_neg (by rw [hai]; simp), htn, hst.2 hc3]
                rw [e] at hQ2'
                repeat' first
                  | with_reducible first | refine wpc_seq ?_ | refine wpc_ops ?_ | refine wops_nil ?_ | refine then_normal ?_ | refine wpc_block ?_ | refine block_normal ?_ | refine wpc_skip ?_ | refine wpc_exit ?_ | refine then_exit ?_ | refine block_exit_same ?_ | refine wpc_ret ?_ | refine then_ret ?_ | refine block_ret ?_ | refine wpc_draw ?_ | refine wdr_nil ?_ | refine gate_t ?_ | refine gate_f ?_ | refine gate_tt ?_ | refine gate_ff ?_ | refine gate_tf ?_ | refine gate_ft ?_ | exact keep_same | exact keep_true
                  | (with_reducible refine block_exit_other ?_ ?_; decide)
                  | ((with_reducible refine keep_rfl ?_); exact rfl)
                  | ((with_reducible first | apply wops_guard | apply wdr_guard | apply wpc_test); focus (simp (disch := omega) only [go_sem, ↓reduceIte, simprocAttr, reduceCtorEq]; with_reducible first | exact lit_t | exact lit_f))
                  | ((with_reducible first | apply wops_gone | apply wdr_gone); focus (simp (disch := omega) only [go_sem, ↓reduceIte, simprocAttr, reduceCtorEq]; done))
                  | ((with_reducible first | apply wops_step | apply wops_do | apply wdr_step); focus (simp (disch := omega) only [go_sem, ↓reduceIte, simprocAttr, reduceCtorEq]; first | with_reducible exact rfl | (rw [if_pos (by first | omega | (constructor <;> omega) | (simp; done) | assumption)]; first | with_reducible exact rfl | (try simp (disch := omega) only [go_sem, ↓reduceIte, simprocAttr, reduceCtorEq]; with_reducible exact rfl))))
                refine hQ2' _ _ _ ?_
                repeat' first
                  | with_reducible first | refine wpc_seq ?_ | refine wpc_ops ?_ | refine wops_nil ?_ | refine then_normal ?_ | refine wpc_block ?_ | refine block_normal ?_ | refine wpc_skip ?_ | refine wpc_exit ?_ | refine then_exit ?_ | refine block_exit_same ?_ | refine wpc_ret ?_ | refine then_ret ?_ | refine block_ret ?_ | refine wpc_draw ?_ | refine wdr_nil ?_ | refine gate_t ?_ | refine gate_f ?_ | refine gate_tt ?_ | refine gate_ff ?_ | refine gate_tf ?_ | refine gate_ft ?_ | exact keep_same | exact keep_true
                  | (with_reducible refine block_exit_other ?_ ?_; decide)
                  | ((with_reducible refine keep_rfl ?_); exact rfl)
                  | ((with_reducible first | apply wops_guard | apply wdr_guard | apply wpc_test); focus (simp (disch := omega) only [go_sem, ↓reduceIte, simprocAttr, reduceCtorEq]; with_reducible first | exact lit_t | exact lit_f))
                  | ((with_reducible first | apply wops_gone | apply wdr_gone); focus (simp (disch := omega) only [go_sem, ↓reduceIte, simprocAttr, reduceCtorEq]; done))
                  | ((with_reducible first | apply wops_step | apply wops_do | apply wdr_step); focus (simp (disch := omega) only [go_sem, ↓reduceIte, simprocAttr, reduceCtorEq]; first | with_reducible exact rfl | (rw [if_pos (by first | omega | (constructor <;> omega) | (simp; done) | assumption)]; first | with_reducible exact rfl | (try simp (disch := omega) only [go_sem, ↓reduceIte, simprocAttr, reduceCtorEq]; with_reducible exact rfl))))
                refine end_same hok (r := .tup [.int .u64 0, .int .i64 10]) ?_ ?_ ⟨rfl, rfl⟩
                · first | (simp (disch := omega) only [go_sem, ↓reduceIte, simprocAttr, reduceCtorEq, evResults, evResL, evRes, hackleref03_Parse_r]; done) | (simp (disch := omega) only [go_sem, ↓reduceIte, simprocAttr, reduceCtorEq, evResults, evResL, evRes, hackleref03_Parse_r]; with_reducible exact rfl) | exact rfl
                · first | (simp [EV.ok, okL, okL_tab_int, okL_tab_bool, okL_app]; done)
              · have hc3 : m + d ≤ 9223372036854775807 := by have := of_decide_eq_false hc2; omega
                repeat' first
                  | with_reducible first | refine wpc_seq ?_ | refine wpc_ops ?_ | refine wops_nil ?_ | refine then_normal ?_ | refine wpc_block ?_ | refine block_normal ?_ | refine wpc_skip ?_ | refine wpc_exit ?_ | refine then_exit ?_ | refine block_exit_same ?_ | refine wpc_ret ?_ | refine then_ret ?_ | refine block_ret ?_ | refine wpc_draw ?_ | refine wdr_nil ?_ | refine gate_t ?_ | refine gate_f ?_ | refine gate_tt ?_ | refine gate_ff ?_ | refine gate_tf ?_ | refine gate_ft ?_ | exact keep_same | exact keep_true
                  | (with_reducible refine block_exit_other ?_ ?_; decide)
                  | ((with_reducible refine keep_rfl ?_); exact rfl)
                  | ((with_reducible first | apply wops_guard | apply wdr_guard | apply wpc_test); focus (simp (disch := omega) only [go_sem, ↓reduceIte, simprocAttr, reduceCtorEq]; with_reducible first | exact lit_t | exact lit_f))
                  | ((with_reducible first | apply wops_gone | apply wdr_gone); focus (simp (disch := omega) only [go_sem, ↓reduceIte, simprocAttr, reduceCtorEq]; done))
                  | ((with_reducible first | apply wops_step | apply wops_do | apply wdr_step); focus (simp (disch := omega) only [go_sem, ↓reduceIte, simprocAttr, reduceCtorEq]; first | with_reducible exact rfl | (rw [if_pos (by first | omega | (constructor <;> omega) | (simp; done) | assumption)]; first | with_reducible exact rfl | (try simp (disch := omega) only [go_sem, ↓reduceIte, simprocAttr, reduceCtorEq]; with_reducible exact rfl))))
                refine hK2 (i + 1, m + d) _ _ [] (by exact ⟨by simp only; omega, by simp only [htn]; exact hst.1 hc3, hc3⟩) (by simp only; omega) (by simp) ?_
                (repeat' (first | exact trivial | refine And.intro (And.intro ?_ ?_) ?_)) <;> first | exact rfl | (simp (disch := omega) only [go_sem, ↓reduceIte, simprocAttr, reduceCtorEq, EV.ok, okL_tab_int, okL_tab_bool, okL_app, okL, decide_eq_true_eq, EV.int.injEq]; done) | (simp (disch := omega) only [go_sem, ↓reduceIte, simprocAttr, reduceCtorEq, EV.ok, okL_tab_int, okL_tab_bool, okL_app, okL, decide_eq_true_eq, EV.int.injEq] <;> first | exact rfl | omega)
          · have hi4 : i = s.length := by have := of_decide_eq_false ht; omega
            subst hi4
            rw [List.take_length] at hn
            have e : parseR s base = (n, 0) := by unfold parseR; rw [hbd, if_neg (by simp), if_neg h0, if_neg (by rw [hai]; simp), hn]
            rw [e] at hQ2'
            repeat' first
              | with_reducible first | refine wpc_seq ?_ | refine wpc_ops ?_ | refine wops_nil ?_ | refine then_normal ?_ | refine wpc_block ?_ | refine block_normal ?_ | refine wpc_skip ?_ | refine wpc_exit ?_ | refine then_exit ?_ | refine block_exit_same ?_ | refine wpc_ret ?_ | refine then_ret ?_ | refine block_ret ?_ | refine wpc_draw ?_ | refine wdr_nil ?_ | refine gate_t ?_ | refine gate_f ?_ | refine gate_tt ?_ | refine gate_ff ?_ | refine gate_tf ?_ | refine gate_ft ?_ | exact keep_same | exact keep_true
              | (with_reducible refine block_exit_other ?_ ?_; decide)
              | ((with_reducible refine keep_rfl ?_); exact rfl)
              | ((with_reducible first | apply wops_guard | apply wdr_guard | apply wpc_test); focus (simp (disch := omega) only [go_sem, ↓reduceIte, simprocAttr, reduceCtorEq]; with_reducible first | exact lit_t | exact lit_f))
              | ((with_reducible first | apply wops_gone | apply wdr_gone); focus (simp (disch := omega) only [go_sem, ↓reduceIte, simprocAttr, reduceCtorEq]; done))
              | ((with_reducible first | apply wops_step | apply wops_do | apply wdr_step); focus (simp (disch := omega) only [go_sem, ↓reduceIte, simprocAttr, reduceCtorEq]; first | with_reducible exact rfl | (rw [if_pos (by first | omega | (constructor <;> omega) | (simp; done) | assumption)]; first | with_reducible exact rfl | (try simp (disch := omega) only [go_sem, ↓reduceIte, simprocAttr, reduceCtorEq]; with_reducible exact rfl))))
            refine hQ2' _ _ _ ?_
            repeat' first
              | with_reducible first | refine wpc_seq ?_ | refine wpc_ops ?_ | refine wops_nil ?_ | refine then_normal ?_ | refine wpc_block ?_ | refine block_normal ?_ | refine wpc_skip ?_ | refine wpc_exit ?_ | refine then_exit ?_ | refine block_exit_same ?_ | refine wpc_ret ?_ | refine then_ret ?_ | refine block_ret ?_ | refine wpc_draw ?_ | refine wdr_nil ?_ | refine gate_t ?_ | refine gate_f ?_ | refine gate_tt ?_ | refine gate_ff ?_ | refine gate_tf ?_ | refine gate_ft ?_ | exact keep_same | exact keep_true
              | (with_reducible refine block_exit_other ?_ ?_; decide)
              | ((with_reducible refine keep_rfl ?_); exact rfl)
              | ((with_reducible first | apply wops_guard | apply wdr_guard | apply wpc_test); focus (simp (disch := omega) only [go_sem, ↓reduceIte, simprocAttr, reduceCtorEq]; with_reducible first | exact lit_t | exact lit_f))
              | ((with_reducible first | apply wops_gone | apply wdr_gone); focus (simp (disch := omega) only [go_sem, ↓reduceIte, simprocAttr, reduceCtorEq]; done))
              | ((with_reducible first | apply wops_step | apply wops_do | apply wdr_step); focus (simp (disch := omega) only [go_sem, ↓reduceIte, simprocAttr, reduceCtorEq]; first | with_reducible exact rfl | (rw [if_pos (by first | omega | (constructor <;> omega) | (simp; done) | assumption)]; first | with_reducible exact rfl | (try simp (disch := omega) only [go_sem, ↓reduceIte, simprocAttr, reduceCtorEq]; with_reducible exact rfl))))
            refine end_same hok (r := .tup [.int .u64 ((n : Nat) : Int), .int .i64 0]) ?_ ?_ ⟨rfl, rfl⟩
            · first | (simp (disch := omega) only [go_sem, ↓reduceIte, simprocAttr, reduceCtorEq, evResults, evResL, evRes, hackleref03_Parse_r]; done) | (simp (disch := omega) only [go_sem, ↓reduceIte, simprocAttr, reduceCtorEq, evResults, evResL, evRes, hackleref03_Parse_r]; with_reducible exact rfl) | exact rfl
            · first | (simp [EV.ok, okL, okL_tab_int, okL_tab_bool, okL_app]; done)

end
end Abs
