/- Quoted texts, read by the document: contracts. -/
import Derived.Test.YtbilmalnlkileaaGnR
import Derived.Test.YtbilmalnlkileaaDen7
import Derived.Test.YtbilmalnlkileaaDyA
set_option linter.all false

namespace Abs
open Go
set_option linter.all false
set_option maxRecDepth 20000

/-- A reader of the document's. -/
def RD (S : List UInt8) (P A e : Int) : Option EB := some (.row 4 [.agg [.str S, .int .i64 P, .int .i64 A, .int .i64 e]])

theorem finV_cons {x y : Option EB} {G : Heap} {v : EV} {K : EV → ER} {r : ER} (hv : v.ok (G.length + 1) = true) (ho : okB (G.length + 1) (y :: G) = true) (e : K v = r) : finV (x :: G) v K (y :: G) = some (r, y :: G) := by
  unfold finV
  have hl : (x :: G).length = G.length + 1 := rfl
  rw [hl, newP_ok hv, fz_ok hv, ho, Bool.or_true, List.take_of_length_le (by simp), ← e]
  rfl

theorem Hd_loop {E : Env} {s : Slots} {H : Heap} {Q : QT} {c : EC} (h : @Hd E ⟨c⟩ ⟨s⟩ ⟨H⟩ ⟨thenA (fun s' H' => @Hd E ⟨.loop c⟩ ⟨s'⟩ ⟨H'⟩ ⟨Q⟩) Q⟩) : @Hd E ⟨.loop c⟩ ⟨s⟩ ⟨H⟩ ⟨Q⟩ := by
  obtain ⟨x, s', H', h1, h2⟩ := h
  simp only at h1 h2
  show ∃ x s' H', denC E (.loop c) s H = some (x, s', H') ∧ Q x s' H'
  rw [denC_loop, h1]
  cases x with
  | normal => exact h2
  | _ => exact ⟨_, _, _, rfl, h2⟩

section
variable {E : Env}
theorem fail13_den {f : FuncId} (hT : Def E f Gn.hackleref13_Reader_Fail Gn.hackleref13_Reader_Fail_r 19) (S : List UInt8) (P A p e : Int) (G : Heap) (hG : okB (G.length + 1) (RD S P p e :: G) = true) :
    den E f [.ptr 0 4 0 0, .int .i64 p, .int .i64 e] (RD S P A 0 :: G) = some (.ret (.tup []), RD S P p e :: G) := by
  refine den_of hT (by simp) ?_
  unfold Gn.hackleref13_Reader_Fail Gn.hackleref13_Reader_Fail_r RD
  repeat' first
    | (simp (disch := first | omega | assumption) only [go_sem, ↓reduceIte, simprocAttr, reduceCtorEq, *])
    | (refine HG_split (fun hb => ?_) (fun hb => ?_))
    | (refine HC_split (fun hb => ?_) (fun hb => ?_))
  exact finV_cons rfl hG rfl

theorem byte13_plain {f ff : FuncId} (hT : Def E f (Gn.hackleref13_Reader_byte ff) Gn.hackleref13_Reader_byte_r 69) (S : List UInt8) (P : Nat) (A : Int) (G : Heap) (b : UInt8) (hb : S[P]? = some b) (h1 : 32 ≤ b.toNat) (h2 : b.toNat ≤ 126) (hP : (S.length : Int) ≤ 9223372036854775807) :
    den E f [.ptr 0 4 0 0] (RD S P A 0 :: G) = some (.ret (.int .u8 b.toNat), RD S P A 0 :: G) := by
  have hlt : P < S.length := (List.getElem?_eq_some_iff.1 hb).1
  refine den_of hT (by simp) ?_
  unfold Gn.hackleref13_Reader_byte Gn.hackleref13_Reader_byte_r RD
  repeat' first
    | (simp (disch := first | omega | assumption) only [go_sem, ↓reduceIte, simprocAttr, reduceCtorEq, *])
    | (refine HG_split (fun hb => ?_) (fun hb => ?_))
    | (refine HC_split (fun hb => ?_) (fun hb => ?_))
  all_goals (try simp only [decide_eq_true_eq, decide_eq_false_iff_not, beq_iff_eq, beq_eq_false_iff_ne, bne_iff_ne, bne_eq_false_iff_eq, ne_eq, Bool.not_eq_true', Bool.not_eq_false', Bool.not_eq_true, Bool.not_eq_false, Decidable.not_not, Bool.and_eq_true, Bool.or_eq_true] at *)
  all_goals first | omega | exact finV_same rfl rfl

theorem byte13_err {f ff : FuncId} (hT : Def E f (Gn.hackleref13_Reader_byte ff) Gn.hackleref13_Reader_byte_r 69) (S : List UInt8) (P A e : Int) (G : Heap) (he : e ≠ 0) :
    den E f [.ptr 0 4 0 0] (RD S P A e :: G) = some (.ret (.int .u8 0), RD S P A e :: G) := by
  refine den_of hT (by simp) ?_
  unfold Gn.hackleref13_Reader_byte Gn.hackleref13_Reader_byte_r RD
  repeat' first
    | (simp (disch := first | omega | assumption) only [go_sem, ↓reduceIte, simprocAttr, reduceCtorEq, *])
    | (refine HG_split (fun hb => ?_) (fun hb => ?_))
    | (refine HC_split (fun hb => ?_) (fun hb => ?_))
  all_goals (try simp only [decide_eq_true_eq, decide_eq_false_iff_not, beq_iff_eq, beq_eq_false_iff_ne, bne_iff_ne, bne_eq_false_iff_eq, ne_eq, Bool.not_eq_true', Bool.not_eq_false', Bool.not_eq_true, Bool.not_eq_false, Decidable.not_not, Bool.and_eq_true, Bool.or_eq_true] at *)
  all_goals first | omega | exact finV_same rfl rfl

theorem byte13_none {f ff : FuncId} (hT : Def E f (Gn.hackleref13_Reader_byte ff) Gn.hackleref13_Reader_byte_r 69) (S : List UInt8) (P : Nat) (A : Int) (G : Heap) (hb : S.length ≤ P) :
    den E f [.ptr 0 4 0 0] (RD S P A 0 :: G) = some (.ret (.int .u8 0), RD S P A 0 :: G) := by
  refine den_of hT (by simp) ?_
  unfold Gn.hackleref13_Reader_byte Gn.hackleref13_Reader_byte_r RD
  repeat' first
    | (simp (disch := first | omega | assumption) only [go_sem, ↓reduceIte, simprocAttr, reduceCtorEq, *])
    | (refine HG_split (fun hb => ?_) (fun hb => ?_))
    | (refine HC_split (fun hb => ?_) (fun hb => ?_))
  all_goals (try simp only [decide_eq_true_eq, decide_eq_false_iff_not, beq_iff_eq, beq_eq_false_iff_ne, bne_iff_ne, bne_eq_false_iff_eq, ne_eq, Bool.not_eq_true', Bool.not_eq_false', Bool.not_eq_true, Bool.not_eq_false, Decidable.not_not, Bool.and_eq_true, Bool.or_eq_true] at *)
  all_goals first | omega | exact finV_same rfl rfl

theorem byte13_line {f ff : FuncId} (hT : Def E f (Gn.hackleref13_Reader_byte ff) Gn.hackleref13_Reader_byte_r 69) (S : List UInt8) (P : Nat) (A : Int) (G : Heap) (b : UInt8) (hb : S[P]? = some b) (h1 : b.toNat = 10) :
    den E f [.ptr 0 4 0 0] (RD S P A 0 :: G) = some (.ret (.int .u8 0), RD S P A 0 :: G) := by
  have hlt : P < S.length := (List.getElem?_eq_some_iff.1 hb).1
  refine den_of hT (by simp) ?_
  unfold Gn.hackleref13_Reader_byte Gn.hackleref13_Reader_byte_r RD
  repeat' first
    | (simp (disch := first | omega | assumption) only [go_sem, ↓reduceIte, simprocAttr, reduceCtorEq, *])
    | (refine HG_split (fun hb => ?_) (fun hb => ?_))
    | (refine HC_split (fun hb => ?_) (fun hb => ?_))
  all_goals (try simp only [decide_eq_true_eq, decide_eq_false_iff_not, beq_iff_eq, beq_eq_false_iff_ne, bne_iff_ne, bne_eq_false_iff_eq, ne_eq, Bool.not_eq_true', Bool.not_eq_false', Bool.not_eq_true, Bool.not_eq_false, Decidable.not_not, Bool.and_eq_true, Bool.or_eq_true] at *)
  all_goals first | omega | exact finV_same rfl rfl

theorem byte13_bad {f ff : FuncId} (hT : Def E f (Gn.hackleref13_Reader_byte ff) Gn.hackleref13_Reader_byte_r 69) (hF : Def E ff Gn.hackleref13_Reader_Fail Gn.hackleref13_Reader_Fail_r 19) (S : List UInt8) (P : Nat) (A : Int) (G : Heap) (b : UInt8) (hb : S[P]? = some b) (h1 : b.toNat ≠ 10) (h2 : ¬ (32 ≤ b.toNat ∧ b.toNat ≤ 126))
    (hG : okB (G.length + 1) (RD S P P 2 :: G) = true) : den E f [.ptr 0 4 0 0] (RD S P A 0 :: G) = some (.ret (.int .u8 0), RD S P P 2 :: G) := by
  have hlt : P < S.length := (List.getElem?_eq_some_iff.1 hb).1
  have hf := fail13_den hF S P A P 2 G hG
  refine den_of hT (by simp) ?_
  unfold Gn.hackleref13_Reader_byte Gn.hackleref13_Reader_byte_r
  unfold RD at hf hG ⊢
  clear hF
  repeat' first
    | (simp (disch := first | omega | assumption) only [go_sem, ↓reduceIte, simprocAttr, reduceCtorEq, *])
    | (refine HG_split (fun hb => ?_) (fun hb => ?_))
    | (refine HC_split (fun hb => ?_) (fun hb => ?_))
  all_goals (try simp only [decide_eq_true_eq, decide_eq_false_iff_not, beq_iff_eq, beq_eq_false_iff_ne, bne_iff_ne, bne_eq_false_iff_eq, ne_eq, Bool.not_eq_true', Bool.not_eq_false', Bool.not_eq_true, Bool.not_eq_false, Decidable.not_not, Bool.and_eq_true, Bool.or_eq_true] at *)
  all_goals first | omega | exact finV_cons rfl hG rfl

theorem must13_quote {f fF fB : FuncId} (hT : Def E f (Gn.hackleref13_Reader_must fF fB) Gn.hackleref13_Reader_must_r 37) (hB : Def E fB (Gn.hackleref13_Reader_byte fF) Gn.hackleref13_Reader_byte_r 69) (S : List UInt8) (P : Nat) (A : Int) (G : Heap) (b : UInt8) (hb : S[P]? = some b) (h1 : b.toNat = 34)
    (hS : (S.length : Int) ≤ 9223372036854775806) (hG : okB (G.length + 1) (RD S ((P + 1 : Nat) : Int) A 0 :: G) = true) : den E f [.ptr 0 4 0 0, .str [34]] (RD S P A 0 :: G) = some (.ret (.tup []), RD S ((P + 1 : Nat) : Int) A 0 :: G) := by
  have hlt : P < S.length := (List.getElem?_eq_some_iff.1 hb).1
  have hby := byte13_plain hB S P A G b hb (by omega) (by omega) (by omega)
  refine den_of hT (by simp) ?_
  unfold Gn.hackleref13_Reader_must Gn.hackleref13_Reader_must_r
  unfold RD at hby hG ⊢
  clear hB
  simp (disch := omega) only [go_sem, ↓reduceIte, simprocAttr, reduceCtorEq]
  refine Hd_loop ?_
  repeat' first
    | (simp (disch := first | omega | assumption) only [go_sem, ↓reduceIte, simprocAttr, reduceCtorEq, *])
    | (refine HG_split (fun hb => ?_) (fun hb => ?_))
    | (refine HC_split (fun hb => ?_) (fun hb => ?_))
  refine Hd_loop ?_
  repeat' first
    | (simp (disch := first | omega | assumption) only [go_sem, ↓reduceIte, simprocAttr, reduceCtorEq, *])
    | (refine HG_split (fun hb => ?_) (fun hb => ?_))
    | (refine HC_split (fun hb => ?_) (fun hb => ?_))
  exact finV_cons rfl hG rfl

/-- Nothing fails twice. -/
theorem must13_err {f fF fB : FuncId} (hT : Def E f (Gn.hackleref13_Reader_must fF fB) Gn.hackleref13_Reader_must_r 37) (S : List UInt8) (P A e : Int) (G : Heap) (he : e ≠ 0) :
    den E f [.ptr 0 4 0 0, .str [34]] (RD S P A e :: G) = some (.ret (.tup []), RD S P A e :: G) := by
  refine den_of hT (by simp) ?_
  unfold Gn.hackleref13_Reader_must Gn.hackleref13_Reader_must_r RD
  simp (disch := omega) only [go_sem, ↓reduceIte, simprocAttr, reduceCtorEq]
  refine Hd_loop ?_
  repeat' first
    | (simp (disch := first | omega | assumption) only [go_sem, ↓reduceIte, simprocAttr, reduceCtorEq, *])
    | (refine HG_split (fun hb => ?_) (fun hb => ?_))
    | (refine HC_split (fun hb => ?_) (fun hb => ?_))
  all_goals (try simp only [decide_eq_true_eq, decide_eq_false_iff_not, beq_iff_eq, beq_eq_false_iff_ne, bne_iff_ne, bne_eq_false_iff_eq, ne_eq, Bool.not_eq_true', Bool.not_eq_false', Bool.not_eq_true, Bool.not_eq_false, Decidable.not_not, Bool.and_eq_true, Bool.or_eq_true] at *)
  all_goals first | omega | exact finV_same rfl rfl

def hexI (b : UInt8) : Int := match hexV b with | some n => n | none => -1
theorem hexI_eq (b : UInt8) : hexI b = if 48 ≤ (b.toNat : Int) ∧ (b.toNat : Int) ≤ 57 then (b.toNat : Int) - 48 else if 97 ≤ (b.toNat : Int) ∧ (b.toNat : Int) ≤ 102 then (b.toNat : Int) - 87 else if 65 ≤ (b.toNat : Int) ∧ (b.toNat : Int) ≤ 70 then (b.toNat : Int) - 55 else -1 := by
  unfold hexI hexV
  by_cases h1 : 48 ≤ b.toNat ∧ b.toNat ≤ 57
  · simp only [if_pos h1]
    rw [if_pos (by omega)]; omega
  · simp only [if_neg h1]
    rw [if_neg (by omega : ¬ (48 ≤ (b.toNat : Int) ∧ (b.toNat : Int) ≤ 57))]
    by_cases h2 : 97 ≤ b.toNat ∧ b.toNat ≤ 102
    · simp only [if_pos h2]
      rw [if_pos (by omega)]; omega
    · simp only [if_neg h2]
      rw [if_neg (by omega : ¬ (97 ≤ (b.toNat : Int) ∧ (b.toNat : Int) ≤ 102))]
      by_cases h3 : 65 ≤ b.toNat ∧ b.toNat ≤ 70
      · simp only [if_pos h3]
        rw [if_pos (by omega)]; omega
      · simp only [if_neg h3]
        rw [if_neg (by omega : ¬ (65 ≤ (b.toNat : Int) ∧ (b.toNat : Int) ≤ 70))]

theorem digit03_den {f : FuncId} (hT : Def E f Gn.hackleref03_Digit Gn.hackleref03_Digit_r 45) (b : UInt8) (H : Heap) : den E f [.int .u8 b.toNat, .int .i64 16] H = some (.ret (.int .i64 (hexI b)), H) := by
  have hb : b.toNat < 256 := b.toNat_lt
  rw [hexI_eq]
  refine den_of hT (by simp) ?_
  unfold Gn.hackleref03_Digit Gn.hackleref03_Digit_r
  repeat' first
    | (simp (disch := first | omega | assumption) only [go_sem, ↓reduceIte, simprocAttr, reduceCtorEq, *])
    | (refine HG_split (fun hb => ?_) (fun hb => ?_))
    | (refine HC_split (fun hb => ?_) (fun hb => ?_))
  all_goals (try simp only [decide_eq_true_eq, decide_eq_false_iff_not, beq_iff_eq, beq_eq_false_iff_ne, bne_iff_ne, bne_eq_false_iff_eq, ne_eq, Bool.not_eq_true', Bool.not_eq_false', Bool.not_eq_true, Bool.not_eq_false, Decidable.not_not, Bool.and_eq_true, Bool.or_eq_true] at *)
  all_goals first
    | omega
    | (refine finV_same rfl ?_; simp only [ER.ret.injEq, EV.int.injEq, true_and]; split <;> (try split) <;> (try split) <;> omega)

/-- The bytes so far. -/
def u8s (l : List UInt8) : List EV := l.map fun b => .int .u8 b.toNat
def OutIs (x : EV) (out : List UInt8) (G : Heap) : Prop := (x = .nilsl ∧ out = [] ∧ G = []) ∨ ∃ k, G = List.replicate k none ++ [some (.row 1 (u8s out))] ∧ x = .own (k + 1) 1 0 out.length
theorem append_out {x : EV} {out : List UInt8} {G : Heap} (h : OutIs x out G) (b : UInt8) (R : Option EB) (hl : out.length ≤ 1000000) :
    ∃ x' G', evAppend 1 1 x (.imm 1 [.int .u8 b.toNat]) (R :: G) = some (x', R :: G') ∧ OutIs x' (out ++ [b]) G' := by
  rcases h with ⟨rfl, rfl, rfl⟩ | ⟨k, rfl, rfl⟩
  · refine ⟨.own 1 1 0 1, [some (.row 1 [.int .u8 b.toNat])], ?_, .inr ⟨0, rfl, rfl⟩⟩
    simp [evAppend, elems, EV.cells, EV.one]
  · refine ⟨.own (k + 1 + 1) 1 0 (out.length + 1), List.replicate (k + 1) none ++ [some (.row 1 (u8s (out ++ [b])))], ?_, .inr ⟨k + 1, rfl, by simp⟩⟩
    have hu : (u8s out).length = out.length := by simp [u8s]
    have hg : (List.replicate k (none : Option EB) ++ [some (EB.row 1 (u8s out))])[k]? = some (some (.row 1 (u8s out))) := by simp
    have hs : (List.replicate k (none : Option EB) ++ [some (EB.row 1 (u8s out))]).set k none = List.replicate (k + 1) none := by
      rw [List.set_append_right _ _ (by simp)]
      simp [List.replicate_succ']
    simp only [evAppend, elems, List.getElem?_cons_succ, hg, List.set_cons_succ, hs]
    simp [EV.cells, EV.one, hu]
    constructor
    · omega
    · simp [u8s, List.take_of_length_le]
theorem bytesV_u8s : ∀ l : List UInt8, bytesV (u8s l) = some l
  | [] => rfl
  | b :: l => by
    have := bytesV_u8s l
    unfold u8s at this ⊢
    have hb : b.toNat < 256 := b.toNat_lt
    simp [bytesV, byteV, this]
theorem toStr_out {x : EV} {out : List UInt8} {G : Heap} (h : OutIs x out G) (R : Option EB) : evToStr x (R :: G) = some (.str out) := by
  rcases h with ⟨rfl, rfl, rfl⟩ | ⟨k, rfl, rfl⟩
  · rfl
  · have hg : (List.replicate k (none : Option EB) ++ [some (EB.row 1 (u8s out))])[k]? = some (some (.row 1 (u8s out))) := by simp
    have hu : (u8s out).length = out.length := by simp [u8s]
    simp [evToStr, elems, hg, hu, bytesV_u8s, List.take_of_length_le]

theorem okL_u8s (n : Nat) : ∀ l : List UInt8, okL n (u8s l) = true
  | [] => rfl
  | b :: l => by
    have := okL_u8s n l
    unfold u8s at this ⊢
    simp [okL, EV.ok, this]
theorem okB_out {x : EV} {out : List UInt8} {G : Heap} (h : OutIs x out G) (S : List UInt8) (P A e : Int) (n : Nat) : okB n (RD S P A e :: G) = true := by
  have all : (RD S P A e :: G).all (fun x => match x with | some y => y.ok n | none => true) = true := by
    rcases h with ⟨rfl, rfl, rfl⟩ | ⟨k, rfl, rfl⟩
    · simp [RD, EB.ok, okL, EV.ok]
    · simp [RD, EB.ok, okL, EV.ok, okL_u8s]
  unfold okB
  exact List.all_eq_true.2 fun y hy => List.all_eq_true.1 all y (List.mem_of_mem_take hy)
def resQ (S : List UInt8) : QR → ER × Heap
  | .ok out p => (.ret (.str out), [RD S p 0 0])
  | .er p => (.ret (.str []), [RD S p p 2])
end
end Abs
