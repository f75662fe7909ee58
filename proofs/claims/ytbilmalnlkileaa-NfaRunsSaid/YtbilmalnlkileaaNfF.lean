/- Places behind places. -/
import Derived.Test.YtbilmalnlkileaaNfE
set_option linter.all false

namespace Abs
open Go
set_option linter.all false
set_option maxRecDepth 20000

def folP (n : NF) (p : Int) : List Int := n.follow.getD p.toNat []
def markA (n : NF) (M : List Bool) (at_ : List Int) : List Bool := at_.foldl (fun M p => markF M (folP n p)) M
theorem markA_len (n : NF) : ∀ (l : List Int) (M : List Bool), (markA n M l).length = M.length
  | [], M => rfl
  | q :: l, M => by show (markA n (markF M (folP n q)) l).length = _; rw [markA_len n l, markF_len]
theorem markA_snoc (n : NF) {l : List Int} {i : Nat} {v : Int} (hv : l[i]? = some v) (M : List Bool) : markA n M (l.take (i + 1)) = markF (markA n M (l.take i)) (folP n v) := by
  unfold markA
  rw [List.take_add_one, hv, List.foldl_append]; rfl
def falses (k : Nat) : List Bool := List.replicate k false
theorem boolsE_falses (k : Nat) : boolsE (falses k) = List.replicate k (EV.bool false) := by simp [boolsE, falses]
theorem boolsE_set (M : List Bool) (i : Nat) (v : Bool) : (boolsE M).set i (.bool v) = boolsE (M.set i v) := by unfold boolsE; rw [List.map_set]

/-- What an automaton that may be has. -/
structure NF.Good (n : NF) : Prop where
  k : n.sets.length ≤ 2000
  r : n.rules.length = n.sets.length
  f : n.follow.length = n.sets.length
  e : n.ends.length = n.sets.length
  fi : InP n.sets.length n.first
  ff : ∀ l ∈ n.follow, InP n.sets.length l
  rr : ∀ x ∈ n.rules, 0 ≤ x ∧ x ≤ 39
theorem mayB_good {n : NF} (h : mayB n = true) : n.Good := by
  unfold mayB at h
  simp only [Bool.and_eq_true, decide_eq_true_eq, List.all_eq_true, List.mem_range] at h
  obtain ⟨⟨h1, h2, h3, h4, _, _, h7⟩, h8⟩ := h
  have at_ : ∀ i (hi : i < n.sets.length), ∃ r l, n.rules[i]? = some r ∧ n.follow[i]? = some l ∧ 0 ≤ r ∧ r ≤ 39 ∧ ris n.sets.length l = true := by
    intro i hi
    have := h8 i hi
    unfold okAtB at this
    obtain ⟨r, hr⟩ := get_some (l := n.rules) (i := i) (by omega)
    obtain ⟨l, hl⟩ := get_some (l := n.follow) (i := i) (by omega)
    rw [hr, hl] at this
    simp only [Bool.and_eq_true, decide_eq_true_eq] at this
    exact ⟨r, l, hr, hl, this.1, this.2.1, this.2.2⟩
  refine ⟨h1, h2, h3, h4, InP.ris (by omega) h7, fun l hl => ?_, fun x hx => ?_⟩
  · obtain ⟨i, hi, e⟩ := List.mem_iff_getElem.1 hl
    obtain ⟨r, l', _, h, _, _, h'⟩ := at_ i (by omega)
    have : l' = l := by rw [List.getElem?_eq_getElem hi, e] at h; exact (Option.some.inj h).symm
    subst this
    exact InP.ris (by omega) h'
  · obtain ⟨i, hi, e⟩ := List.mem_iff_getElem.1 hx
    obtain ⟨r, l', h, _, h0, h39, _⟩ := at_ i (by omega)
    have : r = x := by rw [List.getElem?_eq_getElem hi, e] at h; exact (Option.some.inj h).symm
    subst this
    exact ⟨h0, h39⟩
theorem NF.Good.fol {n : NF} (g : n.Good) {p : Int} (hp : 0 ≤ p ∧ p < n.sets.length) : n.follow[p.toNat]? = some (folP n p) ∧ InP n.sets.length (folP n p) := by
  obtain ⟨l, hl⟩ := get_some (l := n.follow) (i := p.toNat) (by rw [g.f]; omega)
  have e : folP n p = l := by unfold folP; rw [List.getD, hl]; rfl
  rw [e]
  exact ⟨hl, g.ff l (List.mem_of_getElem? hl)⟩

section
variable {E : Env} [R : NfaR E]

set_option maxHeartbeats 4000000 in
theorem goOn_den (hH : HasDen E R.n_octs_Has .u8) (n : NF) (g : n.Good) (x : EV) (l : List Int) (hx : IntsV x l) (hin : InP n.sets.length l) (b : Nat) (hb : b < 256) (H : Heap) :
    ∃ y, den E R.n_nfa_Nfa_goOn [n.E, x, .int .u8 b] H = some (.ret y, H) ∧ IntsV y ((listM (markA n (falses n.sets.length) l) 0).filter (hasP n b)) := by
  have hk := g.k
  let k := n.sets.length
  let MM := markA n (falses k) l
  have hMM : MM.length = k := by simp only [MM]; rw [markA_len]; simp [falses]
  obtain ⟨o0, o1, o2, o3, o4⟩ := n.one
  have k0 := n.k
  have k3 := n.k3
  have lx := hx.lenI
  have lle := hx.leI
  let HB : List Bool → Heap := fun M => H ++ [some (.row 6 [.agg [n.x0, n.x1, n.x2, n.x3, n.x4, .int .i64 n.m]]), some (.row 1 (boolsE M))]
  -- what comes last
  have last : ∀ x' G, OutE (H.length + 2) 1 x' (intsE (listM MM 0)) G → ∃ y, den E R.n_nfa_Nfa_with [n.E, x', .int .u8 b] (HB MM ++ G) = some (.ret y, HB MM ++ G) ∧ IntsV y ((listM MM 0).filter (hasP n b)) := by
    intro x' G ho
    refine with_den hH n x' (listM MM 0) (HB MM ++ G) ?_ (by have := listM_len MM 0; omega) (fun p hp => by have := listM_in MM 0 p hp; rw [hMM] at this; simp only [k] at this; omega) b hb
    rcases ho with ⟨rfl, he, rfl⟩ | ⟨q, rfl, rfl, hne⟩
    · exact .inl ⟨rfl, intsE_nil he⟩
    · refine .inr (.inr (.inr ⟨q + (H.length + 2), by rw [intsE_len], ?_⟩))
      rw [List.getElem?_append_right (by simp [HB])]
      simp [HB]
  suffices h : ∃ r, den E R.n_nfa_Nfa_goOn [n.E, x, .int .u8 b] H = some r ∧ ∃ y, r = (ER.ret y, H) ∧ IntsV y ((listM MM 0).filter (hasP n b)) by
    obtain ⟨r, h1, y, h2, h3⟩ := h
    exact ⟨y, by rw [h1, h2], h3⟩
  refine den_ex R.d_nfa_Nfa_goOn (by simp) ?_
  unfold Gn.nfa_Nfa_goOn Gn.nfa_Nfa_goOn_r
  unfold EV.one at o0 o1 o2 o3 o4
  have hmk : List.replicate k (EV.bool false) = boolsE (markA n (falses k) (l.take 0)) := by simp [markA, boolsE_falses]
  have hmk' : evMake 1 1 (.bool false) (.int .i64 n.sets.length) (.int .i64 n.sets.length) (H ++ [some (.row 6 [.agg [n.x0, n.x1, n.x2, n.x3, n.x4, .int .i64 n.m]])]) = some (.own (H.length + 1) 1 0 k, HB (markA n (falses k) (l.take 0))) := by
    unfold evMake
    simp only
    rw [if_pos ⟨by omega, by omega, by omega, by omega⟩, Int.toNat_natCast, hmk]
    simp [HB, NF.E, k]
  show @Hd E ⟨_⟩ ⟨slots0 [n.E, x, .int .u8 b]⟩ ⟨H⟩ ⟨_⟩
  unfold NF.E
  simp (disch := omega) only [go_sem, ↓reduceIte, simprocAttr, reduceCtorEq, *]
  refine while_of (ι := Nat) (fun i => i ≤ l.length) (fun i => l.length - i) (fun i => [(2, .int .u8 b), (3, .ptr H.length 6 0 0), (7, .own (H.length + 1) 1 0 k), (19, x), (20, .int .i64 l.length), (21, .int .i64 i)]) (fun i => HB (markA n (falses k) (l.take i))) 0 (by omega) ?_ rfl ?_
  · simp (disch := omega) only [go_sem, ↓reduceIte, simprocAttr, reduceCtorEq, Sl]
  · intro i t hi ht K hK
    simp (disch := omega) only [go_sem, ↓reduceIte, simprocAttr, reduceCtorEq, Sl] at ht
    by_cases hlt : i < l.length
    · obtain ⟨p, hp⟩ := get_some hlt
      have hpi := hin p (List.mem_of_getElem? hp)
      obtain ⟨hfl, hfi⟩ := g.fol hpi
      obtain ⟨y, hy, hyv, hye⟩ := n.fol hfl
      rw [Int.toNat_of_nonneg hpi.1] at hye
      have hat := hx.at hp
      have ly := hyv.lenI
      have hsn := markA_snoc n hp (falses k)
      let M0 := markA n (falses k) (l.take i)
      have hM0 : M0.length = k := by simp only [M0]; rw [markA_len]; simp [falses]
      show @Hd E ⟨_⟩ ⟨t⟩ ⟨H ++ [some (.row 6 [.agg [n.x0, n.x1, n.x2, n.x3, n.x4, .int .i64 n.m]]), some (.row 1 (boolsE M0))]⟩ ⟨_⟩
      have hyo := hyv.one.2
      unfold EV.one at hyo
      have hk1 := hK (i + 1)
      clear hK hmk hmk' last
      repeat' first
        | (simp (disch := first | omega | assumption) only [go_sem, ↓reduceIte, simprocAttr, reduceCtorEq, *])
        | (refine HG_split (fun hb => ?_) (fun hb => ?_))
        | (refine HC_split (fun hb => ?_) (fun hb => ?_))
      all_goals (try simp only [decide_eq_true_eq, decide_eq_false_iff_not, beq_iff_eq, beq_eq_false_iff_ne, bne_iff_ne, bne_eq_false_iff_eq, ne_eq, Bool.not_eq_true', Bool.not_eq_false', Bool.not_eq_true, Bool.not_eq_false, Decidable.not_not, Bool.and_eq_true, Bool.or_eq_true] at *)
      all_goals first | omega | skip
      refine while_of (ι := Nat) (fun j => j ≤ (folP n p).length) (fun j => (folP n p).length - j) (fun j => [(2, .int .u8 b), (3, .ptr H.length 6 0 0), (7, .own (H.length + 1) 1 0 k), (19, x), (20, .int .i64 l.length), (21, .int .i64 i), (29, y), (30, .int .i64 (folP n p).length), (31, .int .i64 j)]) (fun j => H ++ [some (.row 6 [.agg [n.x0, n.x1, n.x2, n.x3, n.x4, .int .i64 n.m]]), some (.row 1 (boolsE (markF M0 ((folP n p).take j))))]) 0 (by omega) ?_ rfl ?_
      · simp (disch := omega) only [go_sem, ↓reduceIte, simprocAttr, reduceCtorEq, Sl, ht, and_self]
      · intro j t2 hj ht2 K2 hK2
        simp (disch := omega) only [go_sem, ↓reduceIte, simprocAttr, reduceCtorEq, Sl] at ht2
        by_cases hjl : j < (folP n p).length
        · obtain ⟨q, hq⟩ := get_some hjl
          have hqi := hfi q (List.mem_of_getElem? hq)
          have hqa := hyv.at hq
          have hM1 : (markF M0 ((folP n p).take j)).length = k := by rw [markF_len]; exact hM0
          obtain ⟨w, hw⟩ := get_some (l := markF M0 ((folP n p).take j)) (i := q.toNat) (by rw [hM1]; simp only [k]; omega)
          have hwg := boolsE_get hw
          have hst := boolsE_set (markF M0 ((folP n p).take j)) q.toNat true
          rw [← markF_snoc hq] at hst
          have hk2 := hK2 (j + 1)
          have hkk : q < (k : Int) := hqi.2
          have hkk0 := hqi.1
          have yle := hyv.leI
          clear hK2 hk1
          repeat' first
            | (simp (disch := first | omega | assumption) only [go_sem, ↓reduceIte, simprocAttr, reduceCtorEq, *])
            | (refine HG_split (fun hb => ?_) (fun hb => ?_))
            | (refine HC_split (fun hb => ?_) (fun hb => ?_))
          all_goals (try simp only [decide_eq_true_eq, decide_eq_false_iff_not, beq_iff_eq, beq_eq_false_iff_ne, bne_iff_ne, bne_eq_false_iff_eq, ne_eq, Bool.not_eq_true', Bool.not_eq_false', Bool.not_eq_true, Bool.not_eq_false, Decidable.not_not, Bool.and_eq_true, Bool.or_eq_true] at *)
          all_goals first | omega | skip
          refine hk2 _ _ (by omega) (by omega) ?_ rfl
          simp (disch := omega) only [go_sem, ↓reduceIte, simprocAttr, reduceCtorEq, Sl, ht2, and_self, cast_succ]
        · have hje : j = (folP n p).length := by omega
          have htk : (folP n p).take j = folP n p := by rw [hje, List.take_length]
          clear hK2
          rw [htk]
          repeat' first
            | (simp (disch := first | omega | assumption) only [go_sem, ↓reduceIte, simprocAttr, reduceCtorEq, *])
            | (refine HG_split (fun hb => ?_) (fun hb => ?_))
            | (refine HC_split (fun hb => ?_) (fun hb => ?_))
          all_goals (try simp only [decide_eq_true_eq, decide_eq_false_iff_not, beq_iff_eq, beq_eq_false_iff_ne, bne_iff_ne, bne_eq_false_iff_eq, ne_eq, Bool.not_eq_true', Bool.not_eq_false', Bool.not_eq_true, Bool.not_eq_false, Decidable.not_not, Bool.and_eq_true, Bool.or_eq_true] at *)
          all_goals first | omega | skip
          refine hk1 _ _ (by omega) (by omega) ?_ (by simp only [HB]; rw [hsn])
          simp (disch := omega) only [go_sem, ↓reduceIte, simprocAttr, reduceCtorEq, Sl, ht2, and_self, cast_succ]
    · have hie : i = l.length := by omega
      have hfin : markA n (falses k) (l.take i) = MM := by rw [hie, List.take_length]
      rw [hfin]
      show @Hd E ⟨_⟩ ⟨t⟩ ⟨H ++ [some (.row 6 [.agg [n.x0, n.x1, n.x2, n.x3, n.x4, .int .i64 n.m]]), some (.row 1 (boolsE MM))]⟩ ⟨_⟩
      clear hK hmk hmk' hfin
      repeat' first
        | (simp (disch := first | omega | assumption) only [go_sem, ↓reduceIte, simprocAttr, reduceCtorEq, *])
        | (refine HG_split (fun hb => ?_) (fun hb => ?_))
        | (refine HC_split (fun hb => ?_) (fun hb => ?_))
      all_goals (try simp only [decide_eq_true_eq, decide_eq_false_iff_not, beq_iff_eq, beq_eq_false_iff_ne, bne_iff_ne, bne_eq_false_iff_eq, ne_eq, Bool.not_eq_true', Bool.not_eq_false', Bool.not_eq_true, Bool.not_eq_false, Decidable.not_not, Bool.and_eq_true, Bool.or_eq_true] at *)
      all_goals first | omega | skip
      refine while_of (ι := Nat × EV × Heap) (fun j => j.1 ≤ k ∧ OutE (H.length + 2) 1 j.2.1 (intsE (listM (MM.take j.1) 0)) j.2.2) (fun j => k - j.1) (fun j => [(2, .int .u8 b), (3, .ptr H.length 6 0 0), (12, j.2.1), (40, .own (H.length + 1) 1 0 k), (41, .int .i64 k), (42, .int .i64 j.1)]) (fun j => H ++ some (.row 6 [.agg [n.x0, n.x1, n.x2, n.x3, n.x4, .int .i64 n.m]]) :: some (.row 1 (boolsE MM)) :: j.2.2) (0, .nilsl, []) ⟨by omega, .start⟩ ?_ rfl ?_
      · simp (disch := omega) only [go_sem, ↓reduceIte, simprocAttr, reduceCtorEq, Sl, ht, and_self]
      · rintro ⟨j, x', G⟩ t2 ⟨hj, ho⟩ ht2 K2 hK2
        simp only at hj ho
        simp (disch := omega) only [go_sem, ↓reduceIte, simprocAttr, reduceCtorEq, Sl] at ht2
        by_cases hjl : j < k
        · obtain ⟨v, hv⟩ := get_some (l := MM) (i := j) (by rw [hMM]; exact hjl)
          have hg := boolsE_get hv
          have hs := listM_snoc hv (i := 0)
          have hlen := listM_len (MM.take j) 0
          rw [List.length_take] at hlen
          have hkN : k ≤ 2000 := hk
          cases v with
          | true =>
            obtain ⟨x2, G2, hap, ho2⟩ := ho.append (.int .i64 j) 8 (HB MM) (by simp [HB]) (by omega) rfl rfl (by rw [intsE_len]; omega) (by omega)
            have hk2 := hK2 (j + 1, x2, G2)
            simp only [hs, if_true, Int.zero_add] at hk2
            rw [intsE_app] at hk2
            simp only [HB, List.append_assoc, List.cons_append, List.nil_append] at hap hk2
            clear hs hK2 last
            show @Hd E ⟨_⟩ ⟨t2⟩ ⟨H ++ some (.row 6 [.agg [n.x0, n.x1, n.x2, n.x3, n.x4, .int .i64 n.m]]) :: some (.row 1 (boolsE MM)) :: G⟩ ⟨_⟩
            repeat' first
              | (simp (disch := first | omega | assumption) only [go_sem, ↓reduceIte, simprocAttr, reduceCtorEq, *])
              | (refine HG_split (fun hb => ?_) (fun hb => ?_))
              | (refine HC_split (fun hb => ?_) (fun hb => ?_))
            all_goals (try simp only [decide_eq_true_eq, decide_eq_false_iff_not, beq_iff_eq, beq_eq_false_iff_ne, bne_iff_ne, bne_eq_false_iff_eq, ne_eq, Bool.not_eq_true', Bool.not_eq_false', Bool.not_eq_true, Bool.not_eq_false, Decidable.not_not, Bool.and_eq_true, Bool.or_eq_true] at *)
            all_goals first | omega | skip
            refine hk2 _ _ ⟨by omega, ho2⟩ (by omega) ?_ rfl
            simp (disch := omega) only [go_sem, ↓reduceIte, simprocAttr, reduceCtorEq, Sl, ht2, and_self, cast_succ]
          | false =>
            have hk2 := hK2 (j + 1, x', G)
            simp only [hs, Bool.false_eq_true, if_false, List.append_nil] at hk2
            clear hs hK2 last
            show @Hd E ⟨_⟩ ⟨t2⟩ ⟨H ++ some (.row 6 [.agg [n.x0, n.x1, n.x2, n.x3, n.x4, .int .i64 n.m]]) :: some (.row 1 (boolsE MM)) :: G⟩ ⟨_⟩
            repeat' first
              | (simp (disch := first | omega | assumption) only [go_sem, ↓reduceIte, simprocAttr, reduceCtorEq, *])
              | (refine HG_split (fun hb => ?_) (fun hb => ?_))
              | (refine HC_split (fun hb => ?_) (fun hb => ?_))
            all_goals (try simp only [decide_eq_true_eq, decide_eq_false_iff_not, beq_iff_eq, beq_eq_false_iff_ne, bne_iff_ne, bne_eq_false_iff_eq, ne_eq, Bool.not_eq_true', Bool.not_eq_false', Bool.not_eq_true, Bool.not_eq_false, Decidable.not_not, Bool.and_eq_true, Bool.or_eq_true] at *)
            all_goals first | omega | skip
            refine hk2 _ _ ⟨by omega, ho⟩ (by omega) ?_ rfl
            simp (disch := omega) only [go_sem, ↓reduceIte, simprocAttr, reduceCtorEq, Sl, ht2, and_self, cast_succ]
        · have hjk : j = k := by omega
          have htk : MM.take j = MM := by rw [hjk, ← hMM, List.take_length]
          rw [htk] at ho
          obtain ⟨y, hw, hyv⟩ := last x' G ho
          simp only [HB, List.append_assoc, List.cons_append, List.nil_append] at hw
          unfold NF.E at hw
          clear hK2 last htk
          show @Hd E ⟨_⟩ ⟨t2⟩ ⟨H ++ some (.row 6 [.agg [n.x0, n.x1, n.x2, n.x3, n.x4, .int .i64 n.m]]) :: some (.row 1 (boolsE MM)) :: G⟩ ⟨_⟩
          repeat' first
            | (simp (disch := first | omega | assumption) only [go_sem, ↓reduceIte, simprocAttr, reduceCtorEq, *])
            | (refine HG_split (fun hb => ?_) (fun hb => ?_))
            | (refine HC_split (fun hb => ?_) (fun hb => ?_))
          all_goals (try simp only [decide_eq_true_eq, decide_eq_false_iff_not, beq_iff_eq, beq_eq_false_iff_ne, bne_iff_ne, bne_eq_false_iff_eq, ne_eq, Bool.not_eq_true', Bool.not_eq_false', Bool.not_eq_true, Bool.not_eq_false, Decidable.not_not, Bool.and_eq_true, Bool.or_eq_true] at *)
          all_goals first | omega | skip
          exact ⟨_, finV_drop (hyv.ok _) rfl, y, rfl, hyv⟩
end
end Abs
