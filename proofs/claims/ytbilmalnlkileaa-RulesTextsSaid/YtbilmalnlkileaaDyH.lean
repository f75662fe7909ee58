/- Quoted texts, read by the program. -/
import Derived.Test.YtbilmalnlkileaaDyG
import Derived.Test.YtbilmalnlkileaaDen8
set_option linter.all false

namespace Abs
open Go
set_option linter.all false
set_option maxRecDepth 20000

/-- The bytes so far, behind so many other blocks. -/
def OutAt (d : Nat) (x : EV) (out : List UInt8) (G : Heap) : Prop := (x = .nilsl ∧ out = [] ∧ G = []) ∨ ∃ k, G = List.replicate k none ++ [some (.row 1 (u8s out))] ∧ x = .own (k + d) 1 0 out.length
theorem OutAt.is {d : Nat} {x : EV} {out : List UInt8} {G : Heap} (h : OutAt d x out G) : ∃ x', OutIs x' out G := by
  rcases h with ⟨rfl, rfl, rfl⟩ | ⟨k, rfl, rfl⟩
  · exact ⟨_, .inl ⟨rfl, rfl, rfl⟩⟩
  · exact ⟨_, .inr ⟨k, rfl, rfl⟩⟩
theorem OutAt.append {d : Nat} {x : EV} {out : List UInt8} {G : Heap} (h : OutAt d x out G) (b : UInt8) (P : Heap) (hP : P.length = d) (hl : out.length ≤ 1000000) :
    ∃ x' G', evAppend 1 1 x (.imm 1 [.int .u8 b.toNat]) (P ++ G) = some (x', P ++ G') ∧ OutAt d x' (out ++ [b]) G' := by
  rcases h with ⟨rfl, rfl, rfl⟩ | ⟨k, rfl, rfl⟩
  · refine ⟨.own d 1 0 1, [some (.row 1 [.int .u8 b.toNat])], ?_, .inr ⟨0, rfl, by simp⟩⟩
    simp [evAppend, elems, EV.cells, EV.one, hP]
  · refine ⟨.own (k + 1 + d) 1 0 (out.length + 1), List.replicate (k + 1) none ++ [some (.row 1 (u8s (out ++ [b])))], ?_, .inr ⟨k + 1, rfl, by simp⟩⟩
    have hu : (u8s out).length = out.length := by simp [u8s]
    have hg : (P ++ (List.replicate k (none : Option EB) ++ [some (EB.row 1 (u8s out))]))[k + d]? = some (some (.row 1 (u8s out))) := by
      rw [List.getElem?_append_right (by omega), hP, Nat.add_sub_cancel]; simp
    have hs : (P ++ (List.replicate k (none : Option EB) ++ [some (EB.row 1 (u8s out))])).set (k + d) none = P ++ List.replicate (k + 1) none := by
      rw [List.set_append_right _ _ (by omega), hP, Nat.add_sub_cancel, List.set_append_right _ _ (by simp)]
      simp [List.replicate_succ']
    simp only [evAppend, elems, hg, hs]
    simp [EV.cells, EV.one, hu, hP]
    constructor
    · omega
    · exact ⟨by omega, by simp [u8s, List.take_of_length_le]⟩
theorem OutAt.toStr {d : Nat} {x : EV} {out : List UInt8} {G : Heap} (h : OutAt d x out G) (P : Heap) (hP : P.length = d) : evToStr x (P ++ G) = some (.str out) := by
  rcases h with ⟨rfl, rfl, rfl⟩ | ⟨k, rfl, rfl⟩
  · rfl
  · have hg : (P ++ (List.replicate k (none : Option EB) ++ [some (EB.row 1 (u8s out))]))[k + d]? = some (some (.row 1 (u8s out))) := by
      rw [List.getElem?_append_right (by omega), hP, Nat.add_sub_cancel]; simp
    have hu : (u8s out).length = out.length := by simp [u8s]
    simp [evToStr, elems, hg, hu, bytesV_u8s, List.take_of_length_le]

section
variable {E : Env} [R : RulQ E]

theorem caught_pan (S : List UInt8) (P p : Int) (G : Heap) (hok : okB (G.length + 3) (Zc p :: Zc 2 :: RR S P :: G) = true) (K : Heap → Prop) (hK : K (Zc p :: Zc 2 :: RR S P :: G)) :
    HDf E R.n_rules_caught [.ptr 0 1 0 0, .ptr 1 1 0 0] (HH S P G) (some (faultE R p)) K := by
  refine ⟨_, R.d_rules_caught, by simp, ?_⟩
  unfold Gn.rules_caught faultE HH
  have fin : finF (Zc 0 :: Zc 0 :: RR S P :: G) [] (some (.normal, slots0 [], (Zc p :: Zc 2 :: RR S P :: G) ++ [some (.row 2 [.agg [.int .i64 p, .int .i64 2]])])) = some (.ret (.tup []), Zc p :: Zc 2 :: RR S P :: G) := by
    unfold finF
    simp only [evResults, evResL]
    exact finV_turn (H := _) (H1 := (Zc p :: Zc 2 :: RR S P :: G)) rfl rfl rfl (by
      unfold okB at hok ⊢
      simpa using hok) rfl
  unfold Zc at fin hK ⊢
  repeat' first
    | (simp (disch := first | omega | assumption) only [go_sem, ↓reduceIte, simprocAttr, reduceCtorEq, Option.getD_some, Option.getD_none, *])
    | (refine HG_split (fun hb => ?_) (fun hb => ?_))
    | (refine HC_split (fun hb => ?_) (fun hb => ?_))
  refine Hd_drawS (h := by
    simp (disch := omega) only [go_sem, ↓reduceIte, simprocAttr, reduceCtorEq, dsF, fbOf, Option.getD_some, Option.getD_none]
    exact rfl) ?_ ?_
  · rfl
  · exact ⟨.tup [], _, by simpa [finF, evResults, evResL] using fin, hK⟩

theorem caught_none (S : List UInt8) (P a e : Int) (G : Heap) (K : Heap → Prop) (hK : K (Zc a :: Zc e :: RR S P :: G)) :
    HDf E R.n_rules_caught [.ptr 0 1 0 0, .ptr 1 1 0 0] (Zc a :: Zc e :: RR S P :: G) none K := by
  refine ⟨_, R.d_rules_caught, by simp, ?_⟩
  unfold Gn.rules_caught
  repeat' first
    | (simp (disch := first | omega | assumption) only [go_sem, ↓reduceIte, simprocAttr, reduceCtorEq, Option.getD_some, Option.getD_none, *])
    | (refine HG_split (fun hb => ?_) (fun hb => ?_))
    | (refine HC_split (fun hb => ?_) (fun hb => ?_))
  exact ⟨.tup [], _, by unfold finF; simp only [evResults, evResL]; exact finV_same rfl rfl, hK⟩

/-- How a call ends that tells of a place that is wrong. -/
theorem finQ_pan (S : List UInt8) (P p : Int) (G : Heap) (hok : okB (G.length + 3) (Zc p :: Zc 2 :: RR S P :: G) = true) (s : Slots) (h2 : s 2 = .str []) (h3 : s 3 = .ptr 0 1 0 0) (h4 : s 4 = .ptr 1 1 0 0) :
    finQE E [] Gn.rules_quoted_r (.ret (.tup [.str [], .int .i64 p, .int .i64 2]), []) (.panic (faultE R p), s, HH S P G) (some (R.n_rules_caught, [.ptr 0 1 0 0, .ptr 1 1 0 0])) := by
  refine caught_pan S P p G hok _ ?_
  unfold Gn.rules_quoted_r Zc
  simp (disch := omega) only [go_sem, ↓reduceIte, simprocAttr, reduceCtorEq, h2, h3, h4]
  exact finV_drop (H := []) rfl rfl
end
end Abs
