/- Places behind places, by the document. -/
import Derived.Test.YtbilmalnlkileaaNfF
set_option linter.all false

namespace Abs
open Go
set_option linter.all false
set_option maxRecDepth 20000

/-- Marks of those with a byte. -/
def andM (n : NF) (b : Nat) : List Bool → Nat → List Bool
  | [], _ => []
  | v :: M, i => (v && hasP n b i) :: andM n b M (i + 1)
theorem andM_len (n : NF) (b : Nat) : ∀ (M : List Bool) (i : Nat), (andM n b M i).length = M.length
  | [], _ => rfl
  | v :: M, i => by simp [andM, andM_len n b M]
theorem andM_snoc (n : NF) (b : Nat) {M : List Bool} {j : Nat} {v : Bool} (hv : M[j]? = some v) : ∀ {i : Nat}, andM n b (M.take (j + 1)) i = andM n b (M.take j) i ++ [v && hasP n b ((i + j : Nat) : Int)] := by
  induction M generalizing j with
  | nil => simp at hv
  | cons w M ih =>
    intro i
    cases j with
    | zero => simp at hv; subst hv; simp [andM]
    | succ j =>
      simp only [List.getElem?_cons_succ] at hv
      rw [List.take_succ_cons, List.take_succ_cons]
      simp only [andM]
      rw [ih hv, show i + 1 + j = i + (j + 1) by omega]; rfl
theorem listM_andM (n : NF) (b : Nat) : ∀ (M : List Bool) (i : Nat), listM (andM n b M i) i = (listM M i).filter (hasP n b)
  | [], i => rfl
  | v :: M, i => by
    have ih := listM_andM n b M (i + 1)
    simp only [andM, listM, List.filter_append]
    rw [cast_succ] at ih
    rw [← ih]
    congr 1
    cases v
    · simp
    · by_cases h : hasP n b (i : Int) = true <;> simp [h]
/-- The row while it is gone along. -/
def rowA (n : NF) (b : Nat) (M : List Bool) (j : Nat) : List Bool := andM n b (M.take j) 0 ++ M.drop j
theorem rowA_len (n : NF) (b : Nat) (M : List Bool) (j : Nat) (hj : j ≤ M.length) : (rowA n b M j).length = M.length := by
  unfold rowA; rw [List.length_append, andM_len]; simp; omega
theorem rowA_get (n : NF) (b : Nat) {M : List Bool} {j : Nat} {v : Bool} (hv : M[j]? = some v) : (rowA n b M j)[j]? = some v := by
  have hj := (List.getElem?_eq_some_iff.1 hv).1
  unfold rowA
  rw [List.getElem?_append_right (by rw [andM_len]; simp; omega), andM_len, List.getElem?_drop]
  simp only [List.length_take]
  rw [show j + (j - min j M.length) = j by omega]; exact hv
theorem rowA_put (n : NF) (b : Nat) {M : List Bool} {j : Nat} {v : Bool} (hv : M[j]? = some v) : (rowA n b M j).set j (v && hasP n b (j : Nat)) = rowA n b M (j + 1) := by
  have hj := (List.getElem?_eq_some_iff.1 hv).1
  unfold rowA
  rw [List.set_append_right _ _ (by rw [andM_len]; simp; omega), andM_len, andM_snoc n b hv, drop_get hv]
  simp only [List.length_take]
  rw [show j - min j M.length = 0 by omega, List.set_cons_zero]
  simp

section
variable {E : Env} [R : NfaR E]

set_option maxHeartbeats 4000000 in
theorem step_den (hR : HasDen E R.n_hackleref01_Has .i64) (n : NF) (g : n.Good) (x : EV) (l : List Int) (hx : IntsV x l) (hin : InP n.sets.length l) (beg : Bool) (b : Nat) (hb : b < 256) (H : Heap) :
    den E R.n_hackleref08_Step [n.E, x, .bool beg, .int .u8 b] H = some (.ret (slE 1 (intsE ((listM (markA n (if beg then markF (falses n.sets.length) n.first else falses n.sets.length) l) 0).filter (hasP n b)))), H) := by
  have hk := g.k
  have hb256 := hb
  let k := n.sets.length
  obtain ⟨o0, o1, o2, o3, o4⟩ := n.one
  have k0 := n.k
  have k2 := n.k2
  have k3 := n.k3
  have lx := hx.lenI
  have lle := hx.leI
  have fle := n.h2.leI
  let EE : EV := .agg [n.x0, n.x1, n.x2, n.x3, n.x4, .int .i64 n.m]
  let M1 := if beg then markF (falses k) n.first else falses k
  have hM1 : M1.length = k := by simp only [M1]; split <;> simp [falses, markF_len]
  let MM := markA n M1 l
  have hMM : MM.length = k := by simp only [MM]; rw [markA_len, hM1]
  have hres : slE 1 (intsE (listM (andM n b MM 0) 0)) = slE 1 (intsE ((listM MM 0).filter (hasP n b))) := by rw [show listM (andM n b MM 0) 0 = (listM MM 0).filter (hasP n b) from listM_andM n b MM 0]
  have hlist := fun H hb => list_den (E := E) (H.length + 1) (andM n b MM 0) (by rw [andM_len, hMM]; simp only [k]; omega) (H ++ [some (.row 6 [EE]), some (.row 1 (boolsE (andM n b MM 0)))]) hb
  have hl2 : ∀ H : Heap, den E R.n_hackleref08_List [.own (H.length + 1) 1 0 k] (H ++ [some (.row 6 [EE]), some (.row 1 (boolsE (andM n b MM 0)))]) = some (.ret (slE 1 (intsE ((listM MM 0).filter (hasP n b)))), H ++ [some (.row 6 [EE]), some (.row 1 (boolsE (andM n b MM 0)))]) := fun H => by
    have := hlist H (by simp)
    rw [andM_len, hMM, hres] at this
    exact this
  clear hlist
  refine den_of R.d_hackleref08_Step (by simp) ?_
  unfold Gn.hackleref08_Step Gn.hackleref08_Step_r
  unfold EV.one at o0 o1 o2 o3 o4
  have hmk' : evMake 1 1 (.bool false) (.int .i64 n.sets.length) (.int .i64 n.sets.length) (H ++ [some (.row 6 [.agg [n.x0, n.x1, n.x2, n.x3, n.x4, .int .i64 n.m]])]) = some (.own (H.length + 1) 1 0 k, H ++ [some (.row 6 [EE]), some (.row 1 (boolsE (falses k)))]) := by
    unfold evMake
    simp only
    rw [if_pos ⟨by omega, by omega, by omega, by omega⟩, Int.toNat_natCast, boolsE_falses]
    simp [EE, k]
  show @Hd E ⟨_⟩ ⟨slots0 [n.E, x, .bool beg, .int .u8 b]⟩ ⟨H⟩ ⟨_⟩
  unfold NF.E
  refine Hd_cut (fun t H' => Sl t [(1, x), (2, .bool beg), (3, .int .u8 b), (4, .ptr H.length 6 0 0)] ∧ H' = H ++ [some (.row 6 [.agg [n.x0, n.x1, n.x2, n.x3, n.x4, .int .i64 n.m]])]) ?_ ?_
  · simp (disch := omega) only [go_sem, ↓reduceIte, simprocAttr, reduceCtorEq, o0, o1, o2, o3, o4, Sl]
  rintro t _ ⟨ht, rfl⟩
  simp (disch := omega) only [go_sem, ↓reduceIte, simprocAttr, reduceCtorEq, Sl] at ht
  refine Hd_cut (fun t H' => Sl t [(1, x), (2, .bool beg), (3, .int .u8 b), (4, .ptr H.length 6 0 0), (9, .own (H.length + 1) 1 0 k)] ∧ H' = H ++ [some (.row 6 [.agg [n.x0, n.x1, n.x2, n.x3, n.x4, .int .i64 n.m]]), some (.row 1 (boolsE (falses k)))]) ?_ ?_
  · simp (disch := omega) only [go_sem, ↓reduceIte, simprocAttr, reduceCtorEq, ht, hmk', o0, o1, o2, o3, o4, k0, Sl]
    simp [EE]
  rintro t _ ⟨ht, rfl⟩
  simp (disch := omega) only [go_sem, ↓reduceIte, simprocAttr, reduceCtorEq, Sl] at ht
  refine Hd_cut (fun t H' => Sl t [(1, x), (3, .int .u8 b), (4, .ptr H.length 6 0 0), (9, .own (H.length + 1) 1 0 k)] ∧ H' = H ++ [some (.row 6 [.agg [n.x0, n.x1, n.x2, n.x3, n.x4, .int .i64 n.m]]), some (.row 1 (boolsE M1))]) ?_ ?_
  ·
    cases hbeg : beg with
    | false =>
      have hM : M1 = falses k := by simp only [M1, hbeg]; rfl
      rw [hbeg] at ht
      clear hmk' hl2
      rw [hM]
      simp (disch := omega) only [go_sem, ↓reduceIte, simprocAttr, reduceCtorEq, ht]
      simp only [Sl, upd, ht]
      simp
    | true =>
      have hM : M1 = markF (falses k) n.first := by simp only [M1, hbeg]; rfl
      rw [hbeg] at ht
      clear hmk' hl2
      have h2 := n.h2
      have hgf := g.fi
      simp (disch := omega) only [go_sem, ↓reduceIte, simprocAttr, reduceCtorEq, ht, o0, o1, o2, o3, o4]
      have hmk0 : markF (falses k) (n.first.take 0) = falses k := rfl
      refine while_of (ι := Nat) (fun i => i ≤ n.first.length) (fun i => n.first.length - i) (fun i => [(1, x), (3, .int .u8 b), (4, .ptr H.length 6 0 0), (9, .own (H.length + 1) 1 0 k), (10, .int .i64 i)]) (fun i => H ++ [some (.row 6 [.agg [n.x0, n.x1, n.x2, n.x3, n.x4, .int .i64 n.m]]), some (.row 1 (boolsE (markF (falses k) (n.first.take i))))]) 0 (by omega) ?_ (by rw [hmk0]) ?_
      · simp (disch := omega) only [go_sem, ↓reduceIte, simprocAttr, reduceCtorEq, Sl, ht, and_self]
      · intro i t2 hi ht2 K2 hK2
        simp (disch := omega) only [go_sem, ↓reduceIte, simprocAttr, reduceCtorEq, Sl] at ht2
        by_cases hil : i < n.first.length
        · obtain ⟨q, hq⟩ := get_some hil
          have hqi := hgf q (List.mem_of_getElem? hq)
          have hqa := h2.at hq
          have hl1 : (markF (falses k) (n.first.take i)).length = k := by rw [markF_len]; simp [falses]
          obtain ⟨w, hw⟩ := get_some (l := markF (falses k) (n.first.take i)) (i := q.toNat) (by rw [hl1]; simp only [k]; omega)
          have hwg := boolsE_get hw
          have hst := boolsE_set (markF (falses k) (n.first.take i)) q.toNat true
          rw [← markF_snoc hq] at hst
          have hk2 := hK2 (i + 1)
          have hkk : q < (k : Int) := hqi.2
          have hkk0 := hqi.1
          clear hK2 hmk0
          repeat' first
            | (simp (disch := first | omega | assumption) only [go_sem, ↓reduceIte, simprocAttr, reduceCtorEq, *])
            | (refine HG_split (fun hb => ?_) (fun hb => ?_))
            | (refine HC_split (fun hb => ?_) (fun hb => ?_))
          all_goals (try simp only [decide_eq_true_eq, decide_eq_false_iff_not, beq_iff_eq, beq_eq_false_iff_ne, bne_iff_ne, bne_eq_false_iff_eq, ne_eq, Bool.not_eq_true', Bool.not_eq_false', Bool.not_eq_true, Bool.not_eq_false, Decidable.not_not, Bool.and_eq_true, Bool.or_eq_true] at *)
          all_goals first | omega | skip
          refine hk2 _ _ (by omega) (by omega) ?_ rfl
          simp (disch := omega) only [go_sem, ↓reduceIte, simprocAttr, reduceCtorEq, Sl, ht2, and_self, cast_succ]
        · have hje : i = n.first.length := by omega
          have htk : n.first.take i = n.first := by rw [hje, List.take_length]
          clear hK2 hmk0
          rw [htk]
          repeat' first
            | (simp (disch := first | omega | assumption) only [go_sem, ↓reduceIte, simprocAttr, reduceCtorEq, *])
            | (refine HG_split (fun hb => ?_) (fun hb => ?_))
            | (refine HC_split (fun hb => ?_) (fun hb => ?_))
          all_goals (try simp only [decide_eq_true_eq, decide_eq_false_iff_not, beq_iff_eq, beq_eq_false_iff_ne, bne_iff_ne, bne_eq_false_iff_eq, ne_eq, Bool.not_eq_true', Bool.not_eq_false', Bool.not_eq_true, Bool.not_eq_false, Decidable.not_not, Bool.and_eq_true, Bool.or_eq_true] at *)
          all_goals first | omega | skip
          simp (disch := omega) only [go_sem, ↓reduceIte, simprocAttr, reduceCtorEq, Sl, ht2, and_self]
  rintro t _ ⟨ht, rfl⟩
  · simp (disch := omega) only [go_sem, ↓reduceIte, simprocAttr, reduceCtorEq, Sl] at ht
    show @Hd E ⟨_⟩ ⟨t⟩ ⟨H ++ [some (.row 6 [.agg [n.x0, n.x1, n.x2, n.x3, n.x4, .int .i64 n.m]]), some (.row 1 (boolsE M1))]⟩ ⟨_⟩
    have hA0 : markA n M1 (l.take 0) = M1 := rfl
    clear hmk'
    simp (disch := omega) only [go_sem, ↓reduceIte, simprocAttr, reduceCtorEq, ht, o0, o1, o2, o3, o4]
    refine while_of (ι := Nat) (fun i => i ≤ l.length) (fun i => l.length - i) (fun i => [(1, x), (3, .int .u8 b), (4, .ptr H.length 6 0 0), (9, .own (H.length + 1) 1 0 k), (11, .int .i64 i)]) (fun i => H ++ [some (.row 6 [.agg [n.x0, n.x1, n.x2, n.x3, n.x4, .int .i64 n.m]]), some (.row 1 (boolsE (markA n M1 (l.take i))))]) 0 (by omega) ?_ (by rw [hA0]) ?_
    · simp (disch := omega) only [go_sem, ↓reduceIte, simprocAttr, reduceCtorEq, Sl, ht, and_self]
    · intro i t hi ht K hK
      simp (disch := omega) only [go_sem, ↓reduceIte, simprocAttr, reduceCtorEq, Sl] at ht
      by_cases hlt : i < l.length
      · obtain ⟨p, hp⟩ := get_some hlt
        have hpi := hin p (List.mem_of_getElem? hp)
        obtain ⟨hfl, hfi⟩ := g.fol hpi
        obtain ⟨y, hy, hyv, hye⟩ := n.fol hfl
        rw [Int.toNat_of_nonneg hpi.1] at hye
        have hat := hx.at hp
        have ly := hyv.lenI
        have yle := hyv.leI
        have hsn := markA_snoc n hp M1
        let M0 := markA n M1 (l.take i)
        have hM0 : M0.length = k := by simp only [M0]; rw [markA_len, hM1]
        show @Hd E ⟨_⟩ ⟨t⟩ ⟨H ++ [some (.row 6 [.agg [n.x0, n.x1, n.x2, n.x3, n.x4, .int .i64 n.m]]), some (.row 1 (boolsE M0))]⟩ ⟨_⟩
        have hyo := hyv.one.2
        unfold EV.one at hyo
        have hk1 := hK (i + 1)
        clear hK hl2 hA0
        repeat' first
          | (simp (disch := first | omega | assumption) only [go_sem, ↓reduceIte, simprocAttr, reduceCtorEq, *])
          | (refine HG_split (fun hb => ?_) (fun hb => ?_))
          | (refine HC_split (fun hb => ?_) (fun hb => ?_))
        all_goals (try simp only [decide_eq_true_eq, decide_eq_false_iff_not, beq_iff_eq, beq_eq_false_iff_ne, bne_iff_ne, bne_eq_false_iff_eq, ne_eq, Bool.not_eq_true', Bool.not_eq_false', Bool.not_eq_true, Bool.not_eq_false, Decidable.not_not, Bool.and_eq_true, Bool.or_eq_true] at *)
        all_goals first | omega | skip
        refine while_of (ι := Nat) (fun j => j ≤ (folP n p).length) (fun j => (folP n p).length - j) (fun j => [(1, x), (3, .int .u8 b), (4, .ptr H.length 6 0 0), (9, .own (H.length + 1) 1 0 k), (11, .int .i64 i), (12, .int .i64 j)]) (fun j => H ++ [some (.row 6 [.agg [n.x0, n.x1, n.x2, n.x3, n.x4, .int .i64 n.m]]), some (.row 1 (boolsE (markF M0 ((folP n p).take j))))]) 0 (by omega) ?_ rfl ?_
        · simp (disch := omega) only [go_sem, ↓reduceIte, simprocAttr, reduceCtorEq, Sl, ht, and_self]
        · intro j t2 hj ht2 K2 hK2
          simp (disch := omega) only [go_sem, ↓reduceIte, simprocAttr, reduceCtorEq, Sl] at ht2
          by_cases hjl : j < (folP n p).length
          · obtain ⟨q, hq⟩ := get_some hjl
            have hqi := hfi q (List.mem_of_getElem? hq)
            have hqa := hyv.at hq
            have hM1' : (markF M0 ((folP n p).take j)).length = k := by rw [markF_len]; exact hM0
            obtain ⟨w, hw⟩ := get_some (l := markF M0 ((folP n p).take j)) (i := q.toNat) (by rw [hM1']; simp only [k]; omega)
            have hwg := boolsE_get hw
            have hst := boolsE_set (markF M0 ((folP n p).take j)) q.toNat true
            rw [← markF_snoc hq] at hst
            have hk2 := hK2 (j + 1)
            have hkk : q < (k : Int) := hqi.2
            have hkk0 := hqi.1
            clear hK2 hk1
            repeat' first
              | (simp (disch := first | omega | assumption) only [go_sem, ↓reduceIte, simprocAttr, reduceCtorEq, *])
              | (refine HG_split (fun hb => ?_) (fun hb => ?_))
              | (refine HC_split (fun hb => ?_) (fun hb => ?_))
            all_goals (try simp only [decide_eq_true_eq, decide_eq_false_iff_not, beq_iff_eq, beq_eq_false_iff_ne, bne_iff_ne, bne_eq_false_iff_eq, ne_eq, Bool.not_eq_true', Bool.not_eq_false', Bool.not_eq_true, Bool.not_eq_false, Decidable.not_not, Bool.and_eq_true, Bool.or_eq_true] at *)
            all_goals first | omega | skip
            refine hk2 _ _ (by omega) (by omega) ?_ rfl
            simp (disch := omega) only [go_sem, ↓reduceIte, simprocAttr, reduceCtorEq, Sl, ht2, and_self, cast_succ]
          · have hje : j = (folP n p).length := by omega
            have htk : (folP n p).take j = folP n p := by rw [hje, List.take_length]
            clear hK2
            rw [htk]
            repeat' first
              | (simp (disch := first | omega | assumption) only [go_sem, ↓reduceIte, simprocAttr, reduceCtorEq, *])
              | (refine HG_split (fun hb => ?_) (fun hb => ?_))
              | (refine HC_split (fun hb => ?_) (fun hb => ?_))
            all_goals (try simp only [decide_eq_true_eq, decide_eq_false_iff_not, beq_iff_eq, beq_eq_false_iff_ne, bne_iff_ne, bne_eq_false_iff_eq, ne_eq, Bool.not_eq_true', Bool.not_eq_false', Bool.not_eq_true, Bool.not_eq_false, Decidable.not_not, Bool.and_eq_true, Bool.or_eq_true] at *)
            all_goals first | omega | skip
            refine hk1 _ _ (by omega) (by omega) ?_ (by rw [hsn])
            simp (disch := omega) only [go_sem, ↓reduceIte, simprocAttr, reduceCtorEq, Sl, ht2, and_self, cast_succ]
      · have hie : i = l.length := by omega
        have hfin : markA n M1 (l.take i) = MM := by rw [hie, List.take_length]
        rw [hfin]
        have hR0 : rowA n b MM 0 = MM := rfl
        clear hK hfin hA0
        repeat' first
          | (simp (disch := first | omega | assumption) only [go_sem, ↓reduceIte, simprocAttr, reduceCtorEq, *])
          | (refine HG_split (fun hb => ?_) (fun hb => ?_))
          | (refine HC_split (fun hb => ?_) (fun hb => ?_))
        all_goals (try simp only [decide_eq_true_eq, decide_eq_false_iff_not, beq_iff_eq, beq_eq_false_iff_ne, bne_iff_ne, bne_eq_false_iff_eq, ne_eq, Bool.not_eq_true', Bool.not_eq_false', Bool.not_eq_true, Bool.not_eq_false, Decidable.not_not, Bool.and_eq_true, Bool.or_eq_true] at *)
        all_goals first | omega | skip
        refine while_of (ι := Nat) (fun j => j ≤ k) (fun j => k - j) (fun j => [(3, .int .u8 b), (4, .ptr H.length 6 0 0), (9, .own (H.length + 1) 1 0 k), (13, .int .i64 j)]) (fun j => H ++ [some (.row 6 [.agg [n.x0, n.x1, n.x2, n.x3, n.x4, .int .i64 n.m]]), some (.row 1 (boolsE (rowA n b MM j)))]) 0 (by omega) ?_ (by rw [hR0]) ?_
        · simp (disch := omega) only [go_sem, ↓reduceIte, simprocAttr, reduceCtorEq, Sl, ht, and_self]
        · intro j t2 hj ht2 K2 hK2
          simp (disch := omega) only [go_sem, ↓reduceIte, simprocAttr, reduceCtorEq, Sl] at ht2
          have hkN : k ≤ 2000 := hk
          by_cases hjl : j < k
          · obtain ⟨v, hv⟩ := get_some (l := MM) (i := j) (by rw [hMM]; exact hjl)
            obtain ⟨w, hw⟩ := get_some (l := n.sets) (i := j) hjl
            have hg := boolsE_get (rowA_get n b hv)
            have hst := boolsE_set (rowA n b MM j) j (v && hasP n b (j : Nat))
            rw [rowA_put n b hv] at hst
            have he : evElem 4 (j : Int) n.x0 = some (.iptr (tab 4 fun i => .int .u64 ((w i : Nat) : Int)) 0) := n.h0.elem j (setE w) (by rw [List.getElem?_map, hw]; rfl)
            have hl4 : (tab 4 fun i => EV.int .u64 ((w i : Nat) : Int)).length = 4 := rfl
            have ht4 : List.take 4 (tab 4 fun i => EV.int .u64 ((w i : Nat) : Int)) = tab 4 fun i => EV.int .u64 ((w i : Nat) : Int) := rfl
            have hc := fun H => hR w b H (n.hw w (List.mem_of_getElem? hw)) hb256
            unfold setE at hc
            have hs : hasP n b (j : Nat) = inSet w b := by unfold hasP; rw [Int.toNat_natCast, List.getD, hw]; rfl
            have hbw : IntKind.i64.wrap (b : Int) = b := wrap_i64 (by omega) (by omega)
            have hk2 := hK2 (j + 1)
            rw [hs] at hst
            clear hK2 hl2 hR0
            cases v with
            | true =>
              simp only [Bool.true_and] at hst
              repeat' first
                | (simp (disch := first | omega | assumption) only [go_sem, ↓reduceIte, simprocAttr, reduceCtorEq, *])
                | (refine HG_split (fun hb => ?_) (fun hb => ?_))
                | (refine HC_split (fun hb => ?_) (fun hb => ?_))
              all_goals (try simp only [decide_eq_true_eq, decide_eq_false_iff_not, beq_iff_eq, beq_eq_false_iff_ne, bne_iff_ne, bne_eq_false_iff_eq, ne_eq, Bool.not_eq_true', Bool.not_eq_false', Bool.not_eq_true, Bool.not_eq_false, Decidable.not_not, Bool.and_eq_true, Bool.or_eq_true] at *)
              all_goals first | omega | skip
              refine hk2 _ _ (by omega) (by omega) ?_ rfl
              simp (disch := omega) only [go_sem, ↓reduceIte, simprocAttr, reduceCtorEq, Sl, ht2, and_self, cast_succ]
            | false =>
              simp only [Bool.false_and] at hst
              repeat' first
                | (simp (disch := first | omega | assumption) only [go_sem, ↓reduceIte, simprocAttr, reduceCtorEq, *])
                | (refine HG_split (fun hb => ?_) (fun hb => ?_))
                | (refine HC_split (fun hb => ?_) (fun hb => ?_))
              all_goals (try simp only [decide_eq_true_eq, decide_eq_false_iff_not, beq_iff_eq, beq_eq_false_iff_ne, bne_iff_ne, bne_eq_false_iff_eq, ne_eq, Bool.not_eq_true', Bool.not_eq_false', Bool.not_eq_true, Bool.not_eq_false, Decidable.not_not, Bool.and_eq_true, Bool.or_eq_true] at *)
              all_goals first | omega | skip
              refine hk2 _ _ (by omega) (by omega) ?_ rfl
              simp (disch := omega) only [go_sem, ↓reduceIte, simprocAttr, reduceCtorEq, Sl, ht2, and_self, cast_succ]
          · have hjk : j = k := by omega
            have hrw : rowA n b MM j = andM n b MM 0 := by unfold rowA; rw [hjk, ← hMM, List.take_length, List.drop_length, List.append_nil]
            rw [hrw]
            have hl3 := hl2 H
            simp only [EE] at hl3
            have hok : (slE 1 (intsE ((listM MM 0).filter (hasP n b)))).ok H.length = true := (ints_slE (l := (listM MM 0).filter (hasP n b)) (by have := List.length_filter_le (hasP n b) (listM MM 0); have := listM_len MM 0; omega)).ok _
            clear hK2 hR0 hl2 hrw
            repeat' first
              | (simp (disch := first | omega | assumption) only [go_sem, ↓reduceIte, simprocAttr, reduceCtorEq, *])
              | (refine HG_split (fun hb => ?_) (fun hb => ?_))
              | (refine HC_split (fun hb => ?_) (fun hb => ?_))
            all_goals (try simp only [decide_eq_true_eq, decide_eq_false_iff_not, beq_iff_eq, beq_eq_false_iff_ne, bne_iff_ne, bne_eq_false_iff_eq, ne_eq, Bool.not_eq_true', Bool.not_eq_false', Bool.not_eq_true, Bool.not_eq_false, Decidable.not_not, Bool.and_eq_true, Bool.or_eq_true] at *)
            all_goals first | omega | skip
            exact finV_drop hok rfl
end
end Abs
