/- The program's Parse. -/
import Derived.Test.YtcjnpmaljfkpgaaDoorDigC
namespace Abs
open Go
set_option linter.all false
set_option maxRecDepth 20000

theorem get_at {s : List UInt8} {p : Nat} {b : UInt8} (h : s[p]? = some b) : (⟨s.toArray⟩ : ByteArray).get! p = b := by
  obtain ⟨hlt, rfl⟩ := List.getElem?_eq_some_iff.1 h
  simp [ByteArray.get!, hlt]

theorem dec_lo {s : List UInt8} {p : Nat} {b : UInt8} (h : s[p]? = some b) (hb : b.toNat < 128) : Utf8.decode ⟨s.toArray⟩ p = (b.toNat, 1) := by
  unfold Utf8.decode
  have e : ((⟨s.toArray⟩ : ByteArray).get! (p + 0)).toNat = b.toNat := by rw [Nat.add_zero, get_at h]
  simp only [e]
  rw [if_pos (by omega)]

theorem dec_hi {s : List UInt8} {p : Nat} {b : UInt8} (h : s[p]? = some b) (hb : 128 ≤ b.toNat) : 127 < (Utf8.decode ⟨s.toArray⟩ p).1 := by
  unfold Utf8.decode
  have e : ((⟨s.toArray⟩ : ByteArray).get! (p + 0)).toNat = b.toNat := by rw [Nat.add_zero, get_at h]
  simp only [e]
  rw [if_neg (by omega)]
  have hr : 127 < Utf8.runeError := by decide
  repeat' split
  all_goals first
    | exact hr
    | (simp only; omega)
    | (rename_i hc; simp only [Bool.and_eq_true, decide_eq_true_eq] at hc; simp only; omega)

theorem digV_hi {b : Nat} {base : Int} (hb : base = 10 ∨ base = 16) (h : 128 ≤ b) : digV b base < 0 := by
  have e : hexV b = 16 := by unfold hexV; rw [if_neg (by omega), if_neg (by omega), if_neg (by omega)]
  unfold digV
  rw [e]
  have : decide (((16 : Nat) : Int) < base) = false := by simp; omega
  rw [this, Bool.and_false]
  simp

section
variable {P : Program} {γ : Nat → EV}

theorem next_lo {H : Heap} {N : Nat} {s : List UInt8} {p : Nat} {b : UInt8} (hH : H[N]? = some (some (.it s p))) (h : s[p]? = some b) (hb : b.toNat < 128) :
    evNext (.ptr N 0 0 0) H = some (.tup [.bool true, .int .i64 (p : Int), .int .i32 (b.toNat : Int)], H.set N (some (.it s (p + 1)))) := by
  simp only [evNext, hH]
  rw [if_pos (List.getElem?_eq_some_iff.1 h).1, dec_lo h hb]

theorem next_hi {H : Heap} {N : Nat} {s : List UInt8} {p : Nat} {b : UInt8} (hH : H[N]? = some (some (.it s p))) (h : s[p]? = some b) (hb : 128 ≤ b.toNat) :
    ∃ c w, 127 < c ∧ evNext (.ptr N 0 0 0) H = some (.tup [.bool true, .int .i64 (p : Int), .int .i32 ((c : Nat) : Int)], H.set N (some (.it s w))) := by
  refine ⟨(Utf8.decode ⟨s.toArray⟩ p).1, p + (Utf8.decode ⟨s.toArray⟩ p).2, dec_hi h hb, ?_⟩
  simp only [evNext, hH]
  rw [if_pos (List.getElem?_eq_some_iff.1 h).1]

theorem next_end {H : Heap} {N : Nat} {s : List UInt8} (hH : H[N]? = some (some (.it s s.length))) : evNext (.ptr N 0 0 0) H = some (.tup [.bool false], H) := by
  simp only [evNext, hH]
  rw [if_neg (by omega)]

attribute [local irreducible] parseN digsN allDig digV

set_option maxHeartbeats 16000000 in
theorem parse_ok {f fd fb : FuncId} (hb : Body P f (digits_Parse fd fb) digits_Parse_r 55) (hd : DigitOk P γ fd) (hB' : BasedOk P γ fb) : ParseOk P γ f := by
  intro s base H hlen
  refine hb.calls (by simp) fun hok => ?_
  unfold digits_Parse
  repeat' first
    | with_reducible first | refine wpc_seq ?_ | refine wpc_ops ?_ | refine wops_nil ?_ | refine then_normal ?_ | refine wpc_block ?_ | refine block_normal ?_ | refine wpc_skip ?_ | refine wpc_exit ?_ | refine then_exit ?_ | refine block_exit_same ?_ | refine wpc_ret ?_ | refine then_ret ?_ | refine block_ret ?_ | refine wpc_draw ?_ | refine wdr_nil ?_ | refine gate_t ?_ | refine gate_f ?_ | refine gate_tt ?_ | refine gate_ff ?_ | refine gate_tf ?_ | refine gate_ft ?_ | exact keep_same | exact keep_true
    | (with_reducible refine block_exit_other ?_ ?_; decide)
    | ((with_reducible refine keep_rfl ?_); exact rfl)
    | ((with_reducible first | apply wops_guard | apply wdr_guard | apply wpc_test); focus (simp (disch := omega) only [go_sem, ↓reduceIte, simprocAttr, reduceCtorEq]; with_reducible first | exact lit_t | exact lit_f))
    | ((with_reducible first | apply wops_gone | apply wdr_gone); focus (simp (disch := omega) only [go_sem, ↓reduceIte, simprocAttr, reduceCtorEq]; done))
    | ((with_reducible first | apply wops_step | apply wops_do | apply wdr_step); focus (simp (disch := omega) only [go_sem, ↓reduceIte, simprocAttr, reduceCtorEq]; first | with_reducible exact rfl | (rw [if_pos (by first | omega | (constructor <;> omega) | (simp; done) | assumption)]; first | with_reducible exact rfl | (try simp (disch := omega) only [go_sem, ↓reduceIte, simprocAttr, reduceCtorEq]; with_reducible exact rfl))))
  with_reducible apply wops_call1
  · first | exact rfl | (simp (disch := omega) only [go_sem, ↓reduceIte, simprocAttr, reduceCtorEq]; exact rfl)
  · (simp (disch := omega) only [go_sem, ↓reduceIte, simprocAttr, reduceCtorEq]; exact rfl)
  · exact hB' base _
  by_cases hbs : base = 10 ∨ base = 16
  case neg =>
    have d1 : (base == 10) = false := by rw [beq_eq_false_iff_ne]; exact fun e => hbs (.inl e)
    have d2 : (base == 16) = false := by rw [beq_eq_false_iff_ne]; exact fun e => hbs (.inr e)
    have d3 : basedB base = false := by unfold basedB; rw [d1, d2]; rfl
    have e : parseR s base = (0, 1) := by unfold parseR; rw [d3]; rfl
    rw [e]
    repeat' first
      | with_reducible first | refine wpc_seq ?_ | refine wpc_ops ?_ | refine wops_nil ?_ | refine then_normal ?_ | refine wpc_block ?_ | refine block_normal ?_ | refine wpc_skip ?_ | refine wpc_exit ?_ | refine then_exit ?_ | refine block_exit_same ?_ | refine wpc_ret ?_ | refine then_ret ?_ | refine block_ret ?_ | refine wpc_draw ?_ | refine wdr_nil ?_ | refine gate_t ?_ | refine gate_f ?_ | refine gate_tt ?_ | refine gate_ff ?_ | refine gate_tf ?_ | refine gate_ft ?_ | exact keep_same | exact keep_true
      | (with_reducible refine block_exit_other ?_ ?_; decide)
      | ((with_reducible refine keep_rfl ?_); exact rfl)
      | ((with_reducible first | apply wops_guard | apply wdr_guard | apply wpc_test); focus (simp (disch := omega) only [go_sem, ↓reduceIte, simprocAttr, reduceCtorEq, d3]; with_reducible first | exact lit_t | exact lit_f))
      | ((with_reducible first | apply wops_gone | apply wdr_gone); focus (simp (disch := omega) only [go_sem, ↓reduceIte, simprocAttr, reduceCtorEq, d3]; done))
      | ((with_reducible first | apply wops_step | apply wops_do | apply wdr_step); focus (simp (disch := omega) only [go_sem, ↓reduceIte, simprocAttr, reduceCtorEq, d3]; first | with_reducible exact rfl | (rw [if_pos (by first | omega | (constructor <;> omega) | (simp; done) | assumption)]; first | with_reducible exact rfl | (try simp (disch := omega) only [go_sem, ↓reduceIte, simprocAttr, reduceCtorEq, d3]; with_reducible exact rfl))))
    refine end_same hok (r := .tup [.int .u64 0, .int .i64 1]) ?_ ?_ ⟨rfl, rfl⟩
    · first | (simp (disch := omega) only [go_sem, ↓reduceIte, simprocAttr, reduceCtorEq, evResults, evResL, evRes, digits_Parse_r]; done) | (simp (disch := omega) only [go_sem, ↓reduceIte, simprocAttr, reduceCtorEq, evResults, evResL, evRes, digits_Parse_r]; with_reducible exact rfl) | exact rfl
    · first | (simp [EV.ok, okL, okL_tab_int, okL_tab_bool, okL_app]; done)
  case pos =>
  obtain ⟨B, hBB⟩ : ∃ B : Nat, base = (B : Int) := ⟨base.toNat, by omega⟩
  have hB : B = 10 ∨ B = 16 := by omega
  have htn : base.toNat = B := by omega
  have hz : ¬ base = 0 := by omega
  have hbd : basedB base = true := by rcases hbs with rfl | rfl <;> rfl
  cases hl0 : (s == ([] : List UInt8))
  case true =>
    have h0 : s.length = 0 := by have : s = [] := by simpa using hl0
                                 rw [this]; rfl
    have e : parseR s base = (0, 9) := by unfold parseR; rw [hbd, if_neg (by simp), if_pos h0]
    rw [e]
    repeat' first
      | with_reducible first | refine wpc_seq ?_ | refine wpc_ops ?_ | refine wops_nil ?_ | refine then_normal ?_ | refine wpc_block ?_ | refine block_normal ?_ | refine wpc_skip ?_ | refine wpc_exit ?_ | refine then_exit ?_ | refine block_exit_same ?_ | refine wpc_ret ?_ | refine then_ret ?_ | refine block_ret ?_ | refine wpc_draw ?_ | refine wdr_nil ?_ | refine gate_t ?_ | refine gate_f ?_ | refine gate_tt ?_ | refine gate_ff ?_ | refine gate_tf ?_ | refine gate_ft ?_ | exact keep_same | exact keep_true
      | (with_reducible refine block_exit_other ?_ ?_; decide)
      | ((with_reducible refine keep_rfl ?_); exact rfl)
      | ((with_reducible first | apply wops_guard | apply wdr_guard | apply wpc_test); focus (simp (disch := omega) only [go_sem, ↓reduceIte, simprocAttr, reduceCtorEq, hbd, hl0]; with_reducible first | exact lit_t | exact lit_f))
      | ((with_reducible first | apply wops_gone | apply wdr_gone); focus (simp (disch := omega) only [go_sem, ↓reduceIte, simprocAttr, reduceCtorEq, hbd, hl0]; done))
      | ((with_reducible first | apply wops_step | apply wops_do | apply wdr_step); focus (simp (disch := omega) only [go_sem, ↓reduceIte, simprocAttr, reduceCtorEq, hbd, hl0]; first | with_reducible exact rfl | (rw [if_pos (by first | omega | (constructor <;> omega) | (simp; done) | assumption)]; first | with_reducible exact rfl | (try simp (disch := omega) only [go_sem, ↓reduceIte, simprocAttr, reduceCtorEq, hbd, hl0]; with_reducible exact rfl))))
    refine end_same hok (r := .tup [.int .u64 0, .int .i64 9]) ?_ ?_ ⟨rfl, rfl⟩
    · first | (simp (disch := omega) only [go_sem, ↓reduceIte, simprocAttr, reduceCtorEq, evResults, evResL, evRes, digits_Parse_r]; done) | (simp (disch := omega) only [go_sem, ↓reduceIte, simprocAttr, reduceCtorEq, evResults, evResL, evRes, digits_Parse_r]; with_reducible exact rfl) | exact rfl
    · first | (simp [EV.ok, okL, okL_tab_int, okL_tab_bool, okL_app]; done)
  case false =>
  have h0 : ¬ s.length = 0 := by
    intro h
    have : s = [] := List.eq_nil_of_length_eq_zero h
    rw [this] at hl0
    simp at hl0
  repeat' first
    | with_reducible first | refine wpc_seq ?_ | refine wpc_ops ?_ | refine wops_nil ?_ | refine then_normal ?_ | refine wpc_block ?_ | refine block_normal ?_ | refine wpc_skip ?_ | refine wpc_exit ?_ | refine then_exit ?_ | refine block_exit_same ?_ | refine wpc_ret ?_ | refine then_ret ?_ | refine block_ret ?_ | refine wpc_draw ?_ | refine wdr_nil ?_ | refine gate_t ?_ | refine gate_f ?_ | refine gate_tt ?_ | refine gate_ff ?_ | refine gate_tf ?_ | refine gate_ft ?_ | exact keep_same | exact keep_true
    | (with_reducible refine block_exit_other ?_ ?_; decide)
    | ((with_reducible refine keep_rfl ?_); exact rfl)
    | ((with_reducible first | apply wops_guard | apply wdr_guard | apply wpc_test); focus (simp (disch := omega) only [go_sem, ↓reduceIte, simprocAttr, reduceCtorEq, hbd, hl0]; with_reducible first | exact lit_t | exact lit_f))
    | ((with_reducible first | apply wops_gone | apply wdr_gone); focus (simp (disch := omega) only [go_sem, ↓reduceIte, simprocAttr, reduceCtorEq, hbd, hl0]; done))
    | ((with_reducible first | apply wops_step | apply wops_do | apply wdr_step); focus (simp (disch := omega) only [go_sem, ↓reduceIte, simprocAttr, reduceCtorEq, hbd, hl0]; first | with_reducible exact rfl | (rw [if_pos (by first | omega | (constructor <;> omega) | (simp; done) | assumption)]; first | with_reducible exact rfl | (try simp (disch := omega) only [go_sem, ↓reduceIte, simprocAttr, reduceCtorEq, hbd, hl0]; with_reducible exact rfl))))
  refine wpc_while (ι := Nat) (fun i => i ≤ s.length ∧ allDig (s.take i) base = true) (fun i => s.length - i) (fun i => [(0, .str s), (1, .int .i64 base), (18, .ptr H.length 0 0 0)]) (fun i => H ++ [some (.it s i)]) 0 (by exact ⟨by omega, by unfold allDig; rfl⟩) ?_ ?_ ?_ ?_ ?_
  · (repeat' (first | exact trivial | refine And.intro (And.intro ?_ ?_) ?_)) <;> first | exact rfl | (simp (disch := omega) only [go_sem, ↓reduceIte, simprocAttr, reduceCtorEq, EV.ok, okL_tab_int, okL_tab_bool, okL_app, okL, decide_eq_true_eq, EV.int.injEq]; done) | (simp (disch := omega) only [go_sem, ↓reduceIte, simprocAttr, reduceCtorEq, EV.ok, okL_tab_int, okL_tab_bool, okL_app, okL, decide_eq_true_eq, EV.int.injEq] <;> first | exact rfl | omega)
  · rfl
  · exact fun i _ => okH_app hok (by simp [EB.ok, okG])
  · simp
  · rintro i ⟨hi, hai⟩ K Q' hK hQ'
    have hit : (H ++ [some (EB.it s i)])[H.length]? = some (some (.it s i)) := by simp
    by_cases hil : i < s.length
    · obtain ⟨b, hbi⟩ : ∃ b, s[i]? = some b := ⟨s[i], by simp [hil]⟩
      have hb8 : b.toNat < 256 := b.toNat_lt
      by_cases hlo : b.toNat < 128
      · have hnx := next_lo hit hbi hlo
        have hset : (H ++ [some (EB.it s i)]).set H.length (some (.it s (i + 1))) = H ++ [some (.it s (i + 1))] := by simp
        rw [hset] at hnx
        have dg : decide (((b.toNat : Nat) : Int) > 127) = false := by simp; omega
        repeat' first
          | with_reducible first | refine wpc_seq ?_ | refine wpc_ops ?_ | refine wops_nil ?_ | refine then_normal ?_ | refine wpc_block ?_ | refine block_normal ?_ | refine wpc_skip ?_ | refine wpc_exit ?_ | refine then_exit ?_ | refine block_exit_same ?_ | refine wpc_ret ?_ | refine then_ret ?_ | refine block_ret ?_ | refine wpc_draw ?_ | refine wdr_nil ?_ | refine gate_t ?_ | refine gate_f ?_ | refine gate_tt ?_ | refine gate_ff ?_ | refine gate_tf ?_ | refine gate_ft ?_ | exact keep_same | exact keep_true
          | (with_reducible refine block_exit_other ?_ ?_; decide)
          | ((with_reducible refine keep_rfl ?_); exact rfl)
          | ((with_reducible first | apply wops_guard | apply wdr_guard | apply wpc_test); focus (simp (disch := omega) only [go_sem, ↓reduceIte, simprocAttr, reduceCtorEq, hnx, dg]; with_reducible first | exact lit_t | exact lit_f))
          | ((with_reducible first | apply wops_gone | apply wdr_gone); focus (simp (disch := omega) only [go_sem, ↓reduceIte, simprocAttr, reduceCtorEq, hnx, dg]; done))
          | ((with_reducible first | apply wops_step | apply wops_do | apply wdr_step); focus (simp (disch := omega) only [go_sem, ↓reduceIte, simprocAttr, reduceCtorEq, hnx, dg]; first | with_reducible exact rfl | (rw [if_pos (by first | omega | (constructor <;> omega) | (simp; done) | assumption)]; first | with_reducible exact rfl | (try simp (disch := omega) only [go_sem, ↓reduceIte, simprocAttr, reduceCtorEq, hnx, dg]; with_reducible exact rfl))))
        with_reducible apply wops_call1
        · first | exact rfl | (simp (disch := omega) only [go_sem, ↓reduceIte, simprocAttr, reduceCtorEq]; exact rfl)
        · (simp (disch := omega) only [go_sem, ↓reduceIte, simprocAttr, reduceCtorEq]; exact rfl)
        · exact hd b.toNat base _ hb8
        repeat' first
          | with_reducible first | refine wpc_seq ?_ | refine wpc_ops ?_ | refine wops_nil ?_ | refine then_normal ?_ | refine wpc_block ?_ | refine block_normal ?_ | refine wpc_skip ?_ | refine wpc_exit ?_ | refine then_exit ?_ | refine block_exit_same ?_ | refine wpc_ret ?_ | refine then_ret ?_ | refine block_ret ?_ | refine wpc_draw ?_ | refine wdr_nil ?_ | refine gate_t ?_ | refine gate_f ?_ | refine gate_tt ?_ | refine gate_ff ?_ | refine gate_tf ?_ | refine gate_ft ?_ | exact keep_same | exact keep_true
          | (with_reducible refine block_exit_other ?_ ?_; decide)
          | ((with_reducible refine keep_rfl ?_); exact rfl)
          | ((with_reducible first | apply wops_guard | apply wdr_guard | apply wpc_test); focus (simp (disch := omega) only [go_sem, ↓reduceIte, simprocAttr, reduceCtorEq]; with_reducible first | exact lit_t | exact lit_f))
          | ((with_reducible first | apply wops_gone | apply wdr_gone); focus (simp (disch := omega) only [go_sem, ↓reduceIte, simprocAttr, reduceCtorEq]; done))
          | ((with_reducible first | apply wops_step | apply wops_do | apply wdr_step); focus (simp (disch := omega) only [go_sem, ↓reduceIte, simprocAttr, reduceCtorEq]; first | with_reducible exact rfl | (rw [if_pos (by first | omega | (constructor <;> omega) | (simp; done) | assumption)]; first | with_reducible exact rfl | (try simp (disch := omega) only [go_sem, ↓reduceIte, simprocAttr, reduceCtorEq]; with_reducible exact rfl))))
        refine wpc_cond (t := decide (digV b.toNat base < 0)) (by simp (disch := omega) only [go_sem, ↓reduceIte, simprocAttr, reduceCtorEq]) (fun hc => ?_) (fun hc => ?_)
        · have e : parseR s base = (0, 9) := by unfold parseR; rw [hbd, if_neg (by simp), if_neg h0, if_pos (allDig_no hbi (of_decide_eq_true hc))]
          rw [e] at hQ'
          repeat' first
            | with_reducible first | refine wpc_seq ?_ | refine wpc_ops ?_ | refine wops_nil ?_ | refine then_normal ?_ | refine wpc_block ?_ | refine block_normal ?_ | refine wpc_skip ?_ | refine wpc_exit ?_ | refine then_exit ?_ | refine block_exit_same ?_ | refine wpc_ret ?_ | refine then_ret ?_ | refine block_ret ?_ | refine wpc_draw ?_ | refine wdr_nil ?_ | refine gate_t ?_ | refine gate_f ?_ | refine gate_tt ?_ | refine gate_ff ?_ | refine gate_tf ?_ | refine gate_ft ?_ | exact keep_same | exact keep_true
            | (with_reducible refine block_exit_other ?_ ?_; decide)
            | ((with_reducible refine keep_rfl ?_); exact rfl)
            | ((with_reducible first | apply wops_guard | apply wdr_guard | apply wpc_test); focus (simp (disch := omega) only [go_sem, ↓reduceIte, simprocAttr, reduceCtorEq]; with_reducible first | exact lit_t | exact lit_f))
            | ((with_reducible first | apply wops_gone | apply wdr_gone); focus (simp (disch := omega) only [go_sem, ↓reduceIte, simprocAttr, reduceCtorEq]; done))
            | ((with_reducible first | apply wops_step | apply wops_do | apply wdr_step); focus (simp (disch := omega) only [go_sem, ↓reduceIte, simprocAttr, reduceCtorEq]; first | with_reducible exact rfl | (rw [if_pos (by first | omega | (constructor <;> omega) | (simp; done) | assumption)]; first | with_reducible exact rfl | (try simp (disch := omega) only [go_sem, ↓reduceIte, simprocAttr, reduceCtorEq]; with_reducible exact rfl))))
          refine hQ' _ _ _ ?_
          repeat' first
            | with_reducible first | refine wpc_seq ?_ | refine wpc_ops ?_ | refine wops_nil ?_ | refine then_normal ?_ | refine wpc_block ?_ | refine block_normal ?_ | refine wpc_skip ?_ | refine wpc_exit ?_ | refine then_exit ?_ | refine block_exit_same ?_ | refine wpc_ret ?_ | refine then_ret ?_ | refine block_ret ?_ | refine wpc_draw ?_ | refine wdr_nil ?_ | refine gate_t ?_ | refine gate_f ?_ | refine gate_tt ?_ | refine gate_ff ?_ | refine gate_tf ?_ | refine gate_ft ?_ | exact keep_same | exact keep_true
            | (with_reducible refine block_exit_other ?_ ?_; decide)
            | ((with_reducible refine keep_rfl ?_); exact rfl)
            | ((with_reducible first | apply wops_guard | apply wdr_guard | apply wpc_test); focus (simp (disch := omega) only [go_sem, ↓reduceIte, simprocAttr, reduceCtorEq]; with_reducible first | exact lit_t | exact lit_f))
            | ((with_reducible first | apply wops_gone | apply wdr_gone); focus (simp (disch := omega) only [go_sem, ↓reduceIte, simprocAttr, reduceCtorEq]; done))
            | ((with_reducible first | apply wops_step | apply wops_do | apply wdr_step); focus (simp (disch := omega) only [go_sem, ↓reduceIte, simprocAttr, reduceCtorEq]; first | with_reducible exact rfl | (rw [if_pos (by first | omega | (constructor <;> omega) | (simp; done) | assumption)]; first | with_reducible exact rfl | (try simp (disch := omega) only [go_sem, ↓reduceIte, simprocAttr, reduceCtorEq]; with_reducible exact rfl))))
          refine end_drop hok (r := .tup [.int .u64 0, .int .i64 9]) ?_ ?_ ⟨rfl, rfl⟩
          · first | (simp (disch := omega) only [go_sem, ↓reduceIte, simprocAttr, reduceCtorEq, evResults, evResL, evRes, digits_Parse_r]; done) | (simp (disch := omega) only [go_sem, ↓reduceIte, simprocAttr, reduceCtorEq, evResults, evResL, evRes, digits_Parse_r]; with_reducible exact rfl) | exact rfl
          · first | (simp [EV.ok, okL, okL_tab_int, okL_tab_bool, okL_app]; done)
        · repeat' first
            | with_reducible first | refine wpc_seq ?_ | refine wpc_ops ?_ | refine wops_nil ?_ | refine then_normal ?_ | refine wpc_block ?_ | refine block_normal ?_ | refine wpc_skip ?_ | refine wpc_exit ?_ | refine then_exit ?_ | refine block_exit_same ?_ | refine wpc_ret ?_ | refine then_ret ?_ | refine block_ret ?_ | refine wpc_draw ?_ | refine wdr_nil ?_ | refine gate_t ?_ | refine gate_f ?_ | refine gate_tt ?_ | refine gate_ff ?_ | refine gate_tf ?_ | refine gate_ft ?_ | exact keep_same | exact keep_true
            | (with_reducible refine block_exit_other ?_ ?_; decide)
            | ((with_reducible refine keep_rfl ?_); exact rfl)
            | ((with_reducible first | apply wops_guard | apply wdr_guard | apply wpc_test); focus (simp (disch := omega) only [go_sem, ↓reduceIte, simprocAttr, reduceCtorEq]; with_reducible first | exact lit_t | exact lit_f))
            | ((with_reducible first | apply wops_gone | apply wdr_gone); focus (simp (disch := omega) only [go_sem, ↓reduceIte, simprocAttr, reduceCtorEq]; done))
            | ((with_reducible first | apply wops_step | apply wops_do | apply wdr_step); focus (simp (disch := omega) only [go_sem, ↓reduceIte, simprocAttr, reduceCtorEq]; first | with_reducible exact rfl | (rw [if_pos (by first | omega | (constructor <;> omega) | (simp; done) | assumption)]; first | with_reducible exact rfl | (try simp (disch := omega) only [go_sem, ↓reduceIte, simprocAttr, reduceCtorEq]; with_reducible exact rfl))))
          refine hK (i + 1) _ _ [] (by exact ⟨by omega, allDig_succ hbi hai (of_decide_eq_false hc)⟩) (by omega) (by simp) ?_
          (repeat' (first | exact trivial | refine And.intro (And.intro ?_ ?_) ?_)) <;> first | exact rfl | (simp (disch := omega) only [go_sem, ↓reduceIte, simprocAttr, reduceCtorEq, EV.ok, okL_tab_int, okL_tab_bool, okL_app, okL, decide_eq_true_eq, EV.int.injEq]; done) | (simp (disch := omega) only [go_sem, ↓reduceIte, simprocAttr, reduceCtorEq, EV.ok, okL_tab_int, okL_tab_bool, okL_app, okL, decide_eq_true_eq, EV.int.injEq] <;> first | exact rfl | omega)
      · obtain ⟨c, w, hc, hnx⟩ := next_hi hit hbi (by omega)
        have hset : (H ++ [some (EB.it s i)]).set H.length (some (.it s w)) = H ++ [some (.it s w)] := by simp
        rw [hset] at hnx
        have dg : decide (((c : Nat) : Int) > 127) = true := by simp; omega
        have e : parseR s base = (0, 9) := by unfold parseR; rw [hbd, if_neg (by simp), if_neg h0, if_pos (allDig_no hbi (digV_hi hbs (by omega)))]
        rw [e] at hQ'
        repeat' first
          | with_reducible first | refine wpc_seq ?_ | refine wpc_ops ?_ | refine wops_nil ?_ | refine then_normal ?_ | refine wpc_block ?_ | refine block_normal ?_ | refine wpc_skip ?_ | refine wpc_exit ?_ | refine then_exit ?_ | refine block_exit_same ?_ | refine wpc_ret ?_ | refine then_ret ?_ | refine block_ret ?_ | refine wpc_draw ?_ | refine wdr_nil ?_ | refine gate_t ?_ | refine gate_f ?_ | refine gate_tt ?_ | refine gate_ff ?_ | refine gate_tf ?_ | refine gate_ft ?_ | exact keep_same | exact keep_true
          | (with_reducible refine block_exit_other ?_ ?_; decide)
          | ((with_reducible refine keep_rfl ?_); exact rfl)
          | ((with_reducible first | apply wops_guard | apply wdr_guard | apply wpc_test); focus (simp (disch := omega) only [go_sem, ↓reduceIte, simprocAttr, reduceCtorEq, hnx, dg]; with_reducible first | exact lit_t | exact lit_f))
          | ((with_reducible first | apply wops_gone | apply wdr_gone); focus (simp (disch := omega) only [go_sem, ↓reduceIte, simprocAttr, reduceCtorEq, hnx, dg]; done))
          | ((with_reducible first | apply wops_step | apply wops_do | apply wdr_step); focus (simp (disch := omega) only [go_sem, ↓reduceIte, simprocAttr, reduceCtorEq, hnx, dg]; first | with_reducible exact rfl | (rw [if_pos (by first | omega | (constructor <;> omega) | (simp; done) | assumption)]; first | with_reducible exact rfl | (try simp (disch := omega) only [go_sem, ↓reduceIte, simprocAttr, reduceCtorEq, hnx, dg]; with_reducible exact rfl))))
        refine hQ' _ _ _ ?_
        repeat' first
          | with_reducible first | refine wpc_seq ?_ | refine wpc_ops ?_ | refine wops_nil ?_ | refine then_normal ?_ | refine wpc_block ?_ | refine block_normal ?_ | refine wpc_skip ?_ | refine wpc_exit ?_ | refine then_exit ?_ | refine block_exit_same ?_ | refine wpc_ret ?_ | refine then_ret ?_ | refine block_ret ?_ | refine wpc_draw ?_ | refine wdr_nil ?_ | refine gate_t ?_ | refine gate_f ?_ | refine gate_tt ?_ | refine gate_ff ?_ | refine gate_tf ?_ | refine gate_ft ?_ | exact keep_same | exact keep_true
          | (with_reducible refine block_exit_other ?_ ?_; decide)
          | ((with_reducible refine keep_rfl ?_); exact rfl)
          | ((with_reducible first | apply wops_guard | apply wdr_guard | apply wpc_test); focus (simp (disch := omega) only [go_sem, ↓reduceIte, simprocAttr, reduceCtorEq]; with_reducible first | exact lit_t | exact lit_f))
          | ((with_reducible first | apply wops_gone | apply wdr_gone); focus (simp (disch := omega) only [go_sem, ↓reduceIte, simprocAttr, reduceCtorEq]; done))
          | ((with_reducible first | apply wops_step | apply wops_do | apply wdr_step); focus (simp (disch := omega) only [go_sem, ↓reduceIte, simprocAttr, reduceCtorEq]; first | with_reducible exact rfl | (rw [if_pos (by first | omega | (constructor <;> omega) | (simp; done) | assumption)]; first | with_reducible exact rfl | (try simp (disch := omega) only [go_sem, ↓reduceIte, simprocAttr, reduceCtorEq]; with_reducible exact rfl))))
        refine end_drop hok (r := .tup [.int .u64 0, .int .i64 9]) ?_ ?_ ⟨rfl, rfl⟩
        · first | (simp (disch := omega) only [go_sem, ↓reduceIte, simprocAttr, reduceCtorEq, evResults, evResL, evRes, digits_Parse_r]; done) | (simp (disch := omega) only [go_sem, ↓reduceIte, simprocAttr, reduceCtorEq, evResults, evResL, evRes, digits_Parse_r]; with_reducible exact rfl) | exact rfl
        · first | (simp [EV.ok, okL, okL_tab_int, okL_tab_bool, okL_app]; done)
    · have hi4 : i = s.length := by omega
      subst hi4
      rw [List.take_length] at hai
      have hnx := next_end hit
      repeat' first
        | with_reducible first | refine wpc_seq ?_ | refine wpc_ops ?_ | refine wops_nil ?_ | refine then_normal ?_ | refine wpc_block ?_ | refine block_normal ?_ | refine wpc_skip ?_ | refine wpc_exit ?_ | refine then_exit ?_ | refine block_exit_same ?_ | refine wpc_ret ?_ | refine then_ret ?_ | refine block_ret ?_ | refine wpc_draw ?_ | refine wdr_nil ?_ | refine gate_t ?_ | refine gate_f ?_ | refine gate_tt ?_ | refine gate_ff ?_ | refine gate_tf ?_ | refine gate_ft ?_ | exact keep_same | exact keep_true
        | (with_reducible refine block_exit_other ?_ ?_; decide)
        | ((with_reducible refine keep_rfl ?_); exact rfl)
        | ((with_reducible first | apply wops_guard | apply wdr_guard | apply wpc_test); focus (simp (disch := omega) only [go_sem, ↓reduceIte, simprocAttr, reduceCtorEq, hnx]; with_reducible first | exact lit_t | exact lit_f))
        | ((with_reducible first | apply wops_gone | apply wdr_gone); focus (simp (disch := omega) only [go_sem, ↓reduceIte, simprocAttr, reduceCtorEq, hnx]; done))
        | ((with_reducible first | apply wops_step | apply wops_do | apply wdr_step); focus (simp (disch := omega) only [go_sem, ↓reduceIte, simprocAttr, reduceCtorEq, hnx]; first | with_reducible exact rfl | (rw [if_pos (by first | omega | (constructor <;> omega) | (simp; done) | assumption)]; first | with_reducible exact rfl | (try simp (disch := omega) only [go_sem, ↓reduceIte, simprocAttr, reduceCtorEq, hnx]; with_reducible exact rfl))))
      refine hQ' _ _ _ ?_
      obtain ⟨G, hG⟩ : ∃ G, G = H ++ [some (EB.it s s.length)] := ⟨_, rfl⟩
      have hGl : G.length = H.length + 1 := by rw [hG]; simp
      have hokG : OkH G := by rw [hG]; exact okH_app hok (by simp [EB.ok, okG])
      repeat' first
        | with_reducible first | refine wpc_seq ?_ | refine wpc_ops ?_ | refine wops_nil ?_ | refine then_normal ?_ | refine wpc_block ?_ | refine block_normal ?_ | refine wpc_skip ?_ | refine wpc_exit ?_ | refine then_exit ?_ | refine block_exit_same ?_ | refine wpc_ret ?_ | refine then_ret ?_ | refine block_ret ?_ | refine wpc_draw ?_ | refine wdr_nil ?_ | refine gate_t ?_ | refine gate_f ?_ | refine gate_tt ?_ | refine gate_ff ?_ | refine gate_tf ?_ | refine gate_ft ?_ | exact keep_same | exact keep_true
        | (with_reducible refine block_exit_other ?_ ?_; decide)
        | ((with_reducible refine keep_rfl ?_); exact rfl)
        | ((with_reducible first | apply wops_guard | apply wdr_guard | apply wpc_test); focus (simp (disch := omega) only [go_sem, ↓reduceIte, simprocAttr, reduceCtorEq]; with_reducible first | exact lit_t | exact lit_f))
        | ((with_reducible first | apply wops_gone | apply wdr_gone); focus (simp (disch := omega) only [go_sem, ↓reduceIte, simprocAttr, reduceCtorEq]; done))
        | ((with_reducible first | apply wops_step | apply wops_do | apply wdr_step); focus (simp (disch := omega) only [go_sem, ↓reduceIte, simprocAttr, reduceCtorEq]; first | with_reducible exact rfl | (rw [if_pos (by first | omega | (constructor <;> omega) | (simp; done) | assumption)]; first | with_reducible exact rfl | (try simp (disch := omega) only [go_sem, ↓reduceIte, simprocAttr, reduceCtorEq]; with_reducible exact rfl))))
      refine wpc_while (ι := Nat × Nat) (fun i => i.1 ≤ s.length ∧ parseN base.toNat (digsN (s.take i.1) base) 0 = some i.2 ∧ i.2 ≤ 9223372036854775807) (fun i => s.length - i.1)
        (fun i => [(1, .int .i64 base), (8, .int .u64 (i.2 : Int)), (32, .ptr (H.length + 1) 0 0 0)]) (fun i => H ++ [some (.it s s.length), some (.it s i.1)]) (0, 0) (by exact ⟨by simp, by unfold digsN parseN; rfl, by simp⟩) ?_ ?_ ?_ ?_ ?_
      · (repeat' (first | exact trivial | refine And.intro (And.intro ?_ ?_) ?_)) <;> first | exact rfl | (simp (disch := omega) only [go_sem, ↓reduceIte, simprocAttr, reduceCtorEq, EV.ok, okL_tab_int, okL_tab_bool, okL_app, okL, decide_eq_true_eq, EV.int.injEq]; done) | (simp (disch := omega) only [go_sem, ↓reduceIte, simprocAttr, reduceCtorEq, EV.ok, okL_tab_int, okL_tab_bool, okL_app, okL, decide_eq_true_eq, EV.int.injEq] <;> first | exact rfl | omega)
      · simp
      · exact fun i _ => okH_app hok (by simp [EB.ok, okG])
      · simp
      · rintro ⟨i, n⟩ ⟨hi, hn, hnM⟩ K2 Q2 hK2 hQ2'
        simp only at hi hn hnM
        have hit2 : (H ++ [some (EB.it s s.length), some (EB.it s i)])[H.length + 1]? = some (some (.it s i)) := by simp
        by_cases hil : i < s.length
        · obtain ⟨b, hbi⟩ : ∃ b, s[i]? = some b := ⟨s[i], by simp [hil]⟩
          have hb8 : b.toNat < 256 := b.toNat_lt
          have hge := allDig_at hbi hai
          have hlt := digV_lt (b := b.toNat) hbs
          have hlo : b.toNat < 128 := by
            rcases Nat.lt_or_ge b.toNat 128 with h | h
            · exact h
            · have := digV_hi hbs h; omega
          have hnx := next_lo hit2 hbi hlo
          have hset : (H ++ [some (EB.it s s.length), some (EB.it s i)]).set (H.length + 1) (some (.it s (i + 1))) = H ++ [some (.it s s.length), some (.it s (i + 1))] := by simp
          rw [hset] at hnx
          obtain ⟨d, hdd⟩ : ∃ d : Nat, digV b.toNat base = (d : Int) := ⟨(digV b.toNat base).toNat, by omega⟩
          have hst := parse_step hbi hdd hn
          rw [htn] at hst
          obtain ⟨m, hm⟩ : ∃ m : Nat, m = n * B := ⟨_, rfl⟩
          have hm' : (n : Int) * base = (m : Int) := by rw [hBB, hm]; simp
          rw [← hm] at hst
          obtain ⟨Q, hQ, hQ2, hQ3⟩ : ∃ Q : Nat, (9223372036854775807 - (d : Int)).tdiv base = (Q : Int) ∧ (n ≤ Q ↔ m + d ≤ 9223372036854775807) ∧ Q ≤ 9223372036854775807 := by
            have hd16 : d < 16 := by omega
            have e1 : (9223372036854775807 - (d : Int)) = ((9223372036854775807 - d : Nat) : Int) := by omega
            refine ⟨(9223372036854775807 - d) / B, ?_, ?_, ?_⟩
            · rw [e1, hBB]
              rfl
            · rw [hm]
              rcases hB with rfl | rfl <;> omega
            · exact Nat.le_trans (Nat.div_le_self _ _) (by omega)
          repeat' first
            | with_reducible first | refine wpc_seq ?_ | refine wpc_ops ?_ | refine wops_nil ?_ | refine then_normal ?_ | refine wpc_block ?_ | refine block_normal ?_ | refine wpc_skip ?_ | refine wpc_exit ?_ | refine then_exit ?_ | refine block_exit_same ?_ | refine wpc_ret ?_ | refine then_ret ?_ | refine block_ret ?_ | refine wpc_draw ?_ | refine wdr_nil ?_ | refine gate_t ?_ | refine gate_f ?_ | refine gate_tt ?_ | refine gate_ff ?_ | refine gate_tf ?_ | refine gate_ft ?_ | exact keep_same | exact keep_true
            | (with_reducible refine block_exit_other ?_ ?_; decide)
            | ((with_reducible refine keep_rfl ?_); exact rfl)
            | ((with_reducible first | apply wops_guard | apply wdr_guard | apply wpc_test); focus (simp (disch := omega) only [go_sem, ↓reduceIte, simprocAttr, reduceCtorEq, hnx]; with_reducible first | exact lit_t | exact lit_f))
            | ((with_reducible first | apply wops_gone | apply wdr_gone); focus (simp (disch := omega) only [go_sem, ↓reduceIte, simprocAttr, reduceCtorEq, hnx]; done))
            | ((with_reducible first | apply wops_step | apply wops_do | apply wdr_step); focus (simp (disch := omega) only [go_sem, ↓reduceIte, simprocAttr, reduceCtorEq, hnx]; first | with_reducible exact rfl | (rw [if_pos (by first | omega | (constructor <;> omega) | (simp; done) | assumption)]; first | with_reducible exact rfl | (try simp (disch := omega) only [go_sem, ↓reduceIte, simprocAttr, reduceCtorEq, hnx]; with_reducible exact rfl))))
          with_reducible apply wops_call1
          · first | exact rfl | (simp (disch := omega) only [go_sem, ↓reduceIte, simprocAttr, reduceCtorEq]; exact rfl)
          · (simp (disch := omega) only [go_sem, ↓reduceIte, simprocAttr, reduceCtorEq]; exact rfl)
          · exact hd b.toNat base _ hb8
          repeat' first
            | with_reducible first | refine wpc_seq ?_ | refine wpc_ops ?_ | refine wops_nil ?_ | refine then_normal ?_ | refine wpc_block ?_ | refine block_normal ?_ | refine wpc_skip ?_ | refine wpc_exit ?_ | refine then_exit ?_ | refine block_exit_same ?_ | refine wpc_ret ?_ | refine then_ret ?_ | refine block_ret ?_ | refine wpc_draw ?_ | refine wdr_nil ?_ | refine gate_t ?_ | refine gate_f ?_ | refine gate_tt ?_ | refine gate_ff ?_ | refine gate_tf ?_ | refine gate_ft ?_ | exact keep_same | exact keep_true
            | (with_reducible refine block_exit_other ?_ ?_; decide)
            | ((with_reducible refine keep_rfl ?_); exact rfl)
            | ((with_reducible first | apply wops_guard | apply wdr_guard | apply wpc_test); focus (simp (disch := omega) only [go_sem, ↓reduceIte, simprocAttr, reduceCtorEq, hdd, hQ, hz]; with_reducible first | exact lit_t | exact lit_f))
            | ((with_reducible first | apply wops_gone | apply wdr_gone); focus (simp (disch := omega) only [go_sem, ↓reduceIte, simprocAttr, reduceCtorEq, hdd, hQ, hz]; done))
            | ((with_reducible first | apply wops_step | apply wops_do | apply wdr_step); focus (simp (disch := omega) only [go_sem, ↓reduceIte, simprocAttr, reduceCtorEq, hdd, hQ, hz]; first | with_reducible exact rfl | (rw [if_pos (by first | omega | (constructor <;> omega) | (simp; done) | assumption)]; first | with_reducible exact rfl | (try simp (disch := omega) only [go_sem, ↓reduceIte, simprocAttr, reduceCtorEq, hdd, hQ, hz]; with_reducible exact rfl))))
          refine wpc_cond (t := decide ((n : Int) > (Q : Int))) (by simp (disch := omega) only [go_sem, ↓reduceIte, simprocAttr, reduceCtorEq]) (fun hc => ?_) (fun hc => ?_)
          · have hc' : ¬ n ≤ Q := by have := of_decide_eq_true hc; omega
            rw [hQ2] at hc'
            have e : parseR s base = (0, 10) := by unfold parseR; rw [hbd, if_neg (by simp), if_neg h0, if_neg (by rw [hai]; simp), htn, hst.2 (by omega)]
            rw [e] at hQ2'
            repeat' first
              | with_reducible first | refine wpc_seq ?_ | refine wpc_ops ?_ | refine wops_nil ?_ | refine then_normal ?_ | refine wpc_block ?_ | refine block_normal ?_ | refine wpc_skip ?_ | refine wpc_exit ?_ | refine then_exit ?_ | refine block_exit_same ?_ | refine wpc_ret ?_ | refine then_ret ?_ | refine block_ret ?_ | refine wpc_draw ?_ | refine wdr_nil ?_ | refine gate_t ?_ | refine gate_f ?_ | refine gate_tt ?_ | refine gate_ff ?_ | refine gate_tf ?_ | refine gate_ft ?_ | exact keep_same | exact keep_true
              | (with_reducible refine block_exit_other ?_ ?_; decide)
              | ((with_reducible refine keep_rfl ?_); exact rfl)
              | ((with_reducible first | apply wops_guard | apply wdr_guard | apply wpc_test); focus (simp (disch := omega) only [go_sem, ↓reduceIte, simprocAttr, reduceCtorEq]; with_reducible first | exact lit_t | exact lit_f))
              | ((with_reducible first | apply wops_gone | apply wdr_gone); focus (simp (disch := omega) only [go_sem, ↓reduceIte, simprocAttr, reduceCtorEq]; done))
              | ((with_reducible first | apply wops_step | apply wops_do | apply wdr_step); focus (simp (disch := omega) only [go_sem, ↓reduceIte, simprocAttr, reduceCtorEq]; first | with_reducible exact rfl | (rw [if_pos (by first | omega | (constructor <;> omega) | (simp; done) | assumption)]; first | with_reducible exact rfl | (try simp (disch := omega) only [go_sem, ↓reduceIte, simprocAttr, reduceCtorEq]; with_reducible exact rfl))))
            refine hQ2' _ _ _ ?_
            repeat' first
              | with_reducible first | refine wpc_seq ?_ | refine wpc_ops ?_ | refine wops_nil ?_ | refine then_normal ?_ | refine wpc_block ?_ | refine block_normal ?_ | refine wpc_skip ?_ | refine wpc_exit ?_ | refine then_exit ?_ | refine block_exit_same ?_ | refine wpc_ret ?_ | refine then_ret ?_ | refine block_ret ?_ | refine wpc_draw ?_ | refine wdr_nil ?_ | refine gate_t ?_ | refine gate_f ?_ | refine gate_tt ?_ | refine gate_ff ?_ | refine gate_tf ?_ | refine gate_ft ?_ | exact keep_same | exact keep_true
              | (with_reducible refine block_exit_other ?_ ?_; decide)
              | ((with_reducible refine keep_rfl ?_); exact rfl)
              | ((with_reducible first | apply wops_guard | apply wdr_guard | apply wpc_test); focus (simp (disch := omega) only [go_sem, ↓reduceIte, simprocAttr, reduceCtorEq]; with_reducible first | exact lit_t | exact lit_f))
              | ((with_reducible first | apply wops_gone | apply wdr_gone); focus (simp (disch := omega) only [go_sem, ↓reduceIte, simprocAttr, reduceCtorEq]; done))
              | ((with_reducible first | apply wops_step | apply wops_do | apply wdr_step); focus (simp (disch := omega) only [go_sem, ↓reduceIte, simprocAttr, reduceCtorEq]; first | with_reducible exact rfl | (rw [if_pos (by first | omega | (constructor <;> omega) | (simp; done) | assumption)]; first | with_reducible exact rfl | (try simp (disch := omega) only [go_sem, ↓reduceIte, simprocAttr, reduceCtorEq]; with_reducible exact rfl))))
            refine end_drop hok (r := .tup [.int .u64 0, .int .i64 10]) ?_ ?_ ⟨rfl, rfl⟩
            · first | (simp (disch := omega) only [go_sem, ↓reduceIte, simprocAttr, reduceCtorEq, evResults, evResL, evRes, digits_Parse_r]; done) | (simp (disch := omega) only [go_sem, ↓reduceIte, simprocAttr, reduceCtorEq, evResults, evResL, evRes, digits_Parse_r]; with_reducible exact rfl) | exact rfl
            · first | (simp [EV.ok, okL, okL_tab_int, okL_tab_bool, okL_app]; done)
          · have hc' : n ≤ Q := by have := of_decide_eq_false hc; omega
            rw [hQ2] at hc'
            repeat' first
              | with_reducible first | refine wpc_seq ?_ | refine wpc_ops ?_ | refine wops_nil ?_ | refine then_normal ?_ | refine wpc_block ?_ | refine block_normal ?_ | refine wpc_skip ?_ | refine wpc_exit ?_ | refine then_exit ?_ | refine block_exit_same ?_ | refine wpc_ret ?_ | refine then_ret ?_ | refine block_ret ?_ | refine wpc_draw ?_ | refine wdr_nil ?_ | refine gate_t ?_ | refine gate_f ?_ | refine gate_tt ?_ | refine gate_ff ?_ | refine gate_tf ?_ | refine gate_ft ?_ | exact keep_same | exact keep_true
              | (with_reducible refine block_exit_other ?_ ?_; decide)
              | ((with_reducible refine keep_rfl ?_); exact rfl)
              | ((with_reducible first | apply wops_guard | apply wdr_guard | apply wpc_test); focus (simp (disch := omega) only [go_sem, ↓reduceIte, simprocAttr, reduceCtorEq, hm']; with_reducible first | exact lit_t | exact lit_f))
              | ((with_reducible first | apply wops_gone | apply wdr_gone); focus (simp (disch := omega) only [go_sem, ↓reduceIte, simprocAttr, reduceCtorEq, hm']; done))
              | ((with_reducible first | apply wops_step | apply wops_do | apply wdr_step); focus (simp (disch := omega) only [go_sem, ↓reduceIte, simprocAttr, reduceCtorEq, hm']; first | with_reducible exact rfl | (rw [if_pos (by first | omega | (constructor <;> omega) | (simp; done) | assumption)]; first | with_reducible exact rfl | (try simp (disch := omega) only [go_sem, ↓reduceIte, simprocAttr, reduceCtorEq, hm']; with_reducible exact rfl))))
            refine hK2 (i + 1, m + d) _ _ [] (by exact ⟨by simp only; omega, by simp only [htn]; exact hst.1 hc', hc'⟩) (by simp only; omega) (by simp) ?_
            (repeat' (first | exact trivial | refine And.intro (And.intro ?_ ?_) ?_)) <;> first | exact rfl | (simp (disch := omega) only [go_sem, ↓reduceIte, simprocAttr, reduceCtorEq, EV.ok, okL_tab_int, okL_tab_bool, okL_app, okL, decide_eq_true_eq, EV.int.injEq]; done) | (simp (disch := omega) only [go_sem, ↓reduceIte, simprocAttr, reduceCtorEq, EV.ok, okL_tab_int, okL_tab_bool, okL_app, okL, decide_eq_true_eq, EV.int.injEq] <;> first | exact rfl | omega)
        · have hi4 : i = s.length := by omega
          subst hi4
          rw [List.take_length] at hn
          have e : parseR s base = (n, 0) := by unfold parseR; rw [hbd, if_neg (by simp), if_neg h0, if_neg (by rw [hai]; simp), hn]
          rw [e] at hQ2'
          have hnx := next_end hit2
          repeat' first
            | with_reducible first | refine wpc_seq ?_ | refine wpc_ops ?_ | refine wops_nil ?_ | refine then_normal ?_ | refine wpc_block ?_ | refine block_normal ?_ | refine wpc_skip ?_ | refine wpc_exit ?_ | refine then_exit ?_ | refine block_exit_same ?_ | refine wpc_ret ?_ | refine then_ret ?_ | refine block_ret ?_ | refine wpc_draw ?_ | refine wdr_nil ?_ | refine gate_t ?_ | refine gate_f ?_ | refine gate_tt ?_ | refine gate_ff ?_ | refine gate_tf ?_ | refine gate_ft ?_ | exact keep_same | exact keep_true
            | (with_reducible refine block_exit_other ?_ ?_; decide)
            | ((with_reducible refine keep_rfl ?_); exact rfl)
            | ((with_reducible first | apply wops_guard | apply wdr_guard | apply wpc_test); focus (simp (disch := omega) only [go_sem, ↓reduceIte, simprocAttr, reduceCtorEq, hnx]; with_reducible first | exact lit_t | exact lit_f))
            | ((with_reducible first | apply wops_gone | apply wdr_gone); focus (simp (disch := omega) only [go_sem, ↓reduceIte, simprocAttr, reduceCtorEq, hnx]; done))
            | ((with_reducible first | apply wops_step | apply wops_do | apply wdr_step); focus (simp (disch := omega) only [go_sem, ↓reduceIte, simprocAttr, reduceCtorEq, hnx]; first | with_reducible exact rfl | (rw [if_pos (by first | omega | (constructor <;> omega) | (simp; done) | assumption)]; first | with_reducible exact rfl | (try simp (disch := omega) only [go_sem, ↓reduceIte, simprocAttr, reduceCtorEq, hnx]; with_reducible exact rfl))))
          refine hQ2' _ _ _ ?_
          repeat' first
            | with_reducible first | refine wpc_seq ?_ | refine wpc_ops ?_ | refine wops_nil ?_ | refine then_normal ?_ | refine wpc_block ?_ | refine block_normal ?_ | refine wpc_skip ?_ | refine wpc_exit ?_ | refine then_exit ?_ | refine block_exit_same ?_ | refine wpc_ret ?_ | refine then_ret ?_ | refine block_ret ?_ | refine wpc_draw ?_ | refine wdr_nil ?_ | refine gate_t ?_ | refine gate_f ?_ | refine gate_tt ?_ | refine gate_ff ?_ | refine gate_tf ?_ | refine gate_ft ?_ | exact keep_same | exact keep_true
            | (with_reducible refine block_exit_other ?_ ?_; decide)
            | ((with_reducible refine keep_rfl ?_); exact rfl)
            | ((with_reducible first | apply wops_guard | apply wdr_guard | apply wpc_test); focus (simp (disch := omega) only [go_sem, ↓reduceIte, simprocAttr, reduceCtorEq]; with_reducible first | exact lit_t | exact lit_f))
            | ((with_reducible first | apply wops_gone | apply wdr_gone); focus (simp (disch := omega) only [go_sem, ↓reduceIte, simprocAttr, reduceCtorEq]; done))
            | ((with_reducible first | apply wops_step | apply wops_do | apply wdr_step); focus (simp (disch := omega) only [go_sem, ↓reduceIte, simprocAttr, reduceCtorEq]; first | with_reducible exact rfl | (rw [if_pos (by first | omega | (constructor <;> omega) | (simp; done) | assumption)]; first | with_reducible exact rfl | (try simp (disch := omega) only [go_sem, ↓reduceIte, simprocAttr, reduceCtorEq]; with_reducible exact rfl))))
          refine end_drop hok (r := .tup [.int .u64 ((n : Nat) : Int), .int .i64 0]) ?_ ?_ ⟨rfl, rfl⟩
          · first | (simp (disch := omega) only [go_sem, ↓reduceIte, simprocAttr, reduceCtorEq, evResults, evResL, evRes, digits_Parse_r]; done) | (simp (disch := omega) only [go_sem, ↓reduceIte, simprocAttr, reduceCtorEq, evResults, evResL, evRes, digits_Parse_r]; with_reducible exact rfl) | exact rfl
          · first | (simp [EV.ok, okL, okL_tab_int, okL_tab_bool, okL_app]; done)

end
end Abs
