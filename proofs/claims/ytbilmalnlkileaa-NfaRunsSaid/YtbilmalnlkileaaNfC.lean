/- Slices of numbers less those of which something holds. -/
import Derived.Test.YtbilmalnlkileaaNfB
set_option linter.all false

namespace Abs
open Go
set_option linter.all false
set_option maxRecDepth 20000

/-- The first place at which something holds, or -1. -/
def idxI (p : Int → Bool) : List Int → Int → Int
  | [], _ => -1
  | v :: l, i => if p v then i else idxI p l (i + 1)

section
variable {E : Env} [R : NfaR E]

/-- A function value that is asked of numbers. -/
def AsksA (E : Env) (f : EV) (p : Int → Bool) (l : List Int) (H : Heap) : Prop := ∀ v ∈ l, callD E f [.int .i64 v] H = some (.ret (.bool (p v)), H)

theorem indexFunc_den (f : EV) (p : Int → Bool) (b : Nat) (l : List Int) (H : Heap) (hb : H[b]? = some (some (.row 1 (intsE l)))) (hf : AsksA E f p l H) (hl : l.length ≤ 9223372036854775806) :
    den E R.n_slices_IndexFunc_int_int [.own b 1 0 l.length, f] H = some (.ret (.int .i64 (idxI p l 0)), H) := by
  refine den_of R.d_slices_IndexFunc_int_int (by simp) ?_
  unfold Gn.slices_IndexFunc_int_int Gn.slices_IndexFunc_int_int_r
  simp (disch := omega) only [go_sem, ↓reduceIte, simprocAttr, reduceCtorEq, *]
  refine while_of (ι := Nat) (fun i => i ≤ l.length ∧ idxI p l 0 = idxI p (l.drop i) i) (fun i => l.length - i) (fun i => [(0, .own b 1 0 l.length), (1, f), (7, .int .i64 l.length), (8, .int .i64 i)]) (fun _ => H) 0 ⟨by omega, rfl⟩ ?_ rfl ?_
  · simp (disch := omega) only [go_sem, ↓reduceIte, simprocAttr, reduceCtorEq, Sl]
  · rintro i t ⟨hi, hr⟩ ht K hK
    simp (disch := omega) only [go_sem, ↓reduceIte, simprocAttr, reduceCtorEq, Sl] at ht
    by_cases hlt : i < l.length
    · obtain ⟨v, hv⟩ := get_some hlt
      have hg := intsE_get hv
      have hc := hf v (List.mem_of_getElem? hv)
      have hlen := intsE_len l
      rw [drop_get hv] at hr
      simp only [idxI] at hr
      have go : p v = false → _ := fun h s' H' => hK (i + 1) s' H' ⟨by omega, by rw [hr, if_neg (by simp [h])]; rfl⟩ (by omega)
      cases hp : p v with
      | true =>
        rw [hp] at hc hr
        rw [if_pos rfl] at hr
        rw [hr]
        clear go hK hf hr
        repeat' first
          | (simp (disch := first | omega | assumption) only [go_sem, ↓reduceIte, simprocAttr, reduceCtorEq, *])
          | (refine HG_split (fun hb => ?_) (fun hb => ?_))
          | (refine HC_split (fun hb => ?_) (fun hb => ?_))
        all_goals (try simp only [decide_eq_true_eq, decide_eq_false_iff_not, beq_iff_eq, beq_eq_false_iff_ne, bne_iff_ne, bne_eq_false_iff_eq, ne_eq, Bool.not_eq_true', Bool.not_eq_false', Bool.not_eq_true, Bool.not_eq_false, Decidable.not_not, Bool.and_eq_true, Bool.or_eq_true] at *)
        all_goals first | omega | exact finV_same rfl rfl
      | false =>
        rw [hp] at hc
        replace go := go hp
        clear hK hf hr
        repeat' first
          | (simp (disch := first | omega | assumption) only [go_sem, ↓reduceIte, simprocAttr, reduceCtorEq, *])
          | (refine HG_split (fun hb => ?_) (fun hb => ?_))
          | (refine HC_split (fun hb => ?_) (fun hb => ?_))
        all_goals (try simp only [decide_eq_true_eq, decide_eq_false_iff_not, beq_iff_eq, beq_eq_false_iff_ne, bne_iff_ne, bne_eq_false_iff_eq, ne_eq, Bool.not_eq_true', Bool.not_eq_false', Bool.not_eq_true, Bool.not_eq_false, Decidable.not_not, Bool.and_eq_true, Bool.or_eq_true] at *)
        all_goals first
          | omega
          | (refine go _ _ ?_ rfl; simp (disch := omega) only [go_sem, ↓reduceIte, simprocAttr, reduceCtorEq, Sl, ht, and_self, cast_succ])
    · have : i = l.length := by omega
      subst this
      have he : idxI p l 0 = -1 := by rw [hr]; simp [idxI]
      rw [he]
      clear hK hf hr
      repeat' first
        | (simp (disch := first | omega | assumption) only [go_sem, ↓reduceIte, simprocAttr, reduceCtorEq, *])
        | (refine HG_split (fun hb => ?_) (fun hb => ?_))
        | (refine HC_split (fun hb => ?_) (fun hb => ?_))
      all_goals (try simp only [decide_eq_true_eq, decide_eq_false_iff_not, beq_iff_eq, beq_eq_false_iff_ne, bne_iff_ne, bne_eq_false_iff_eq, ne_eq, Bool.not_eq_true', Bool.not_eq_false', Bool.not_eq_true, Bool.not_eq_false, Decidable.not_not, Bool.and_eq_true, Bool.or_eq_true] at *)
      all_goals first | omega | exact finV_same rfl rfl

/-- The first place, told otherwise. -/
theorem idxI_some {p : Int → Bool} : ∀ {l : List Int} {i : Int}, (idxI p l i = -1 ∧ 0 ≤ i → l.filter (fun v => !p v) = l) ∧ (0 ≤ i → idxI p l i ≠ -1 → ∃ k : Nat, k < l.length ∧ idxI p l i = i + k ∧ (l.take (k + 1)).filter (fun v => !p v) = l.take k)
  | [], i => ⟨fun _ => rfl, fun _ h => absurd rfl h⟩
  | v :: l, i => by
    have ih := idxI_some (p := p) (l := l) (i := i + 1)
    by_cases hp : p v = true
    · refine ⟨fun h => ?_, fun h0 _ => ⟨0, by simp, by simp [idxI, hp], by simp [hp]⟩⟩
      simp only [idxI, hp, if_true] at h
      omega
    · have hp' : p v = false := by simpa using hp
      have e : idxI p (v :: l) i = idxI p l (i + 1) := by simp [idxI, hp']
      refine ⟨fun h => ?_, fun h0 hne => ?_⟩
      · rw [e] at h
        rw [List.filter_cons, hp', ih.1 ⟨h.1, by omega⟩]; rfl
      · rw [e] at hne ⊢
        obtain ⟨k, h1, h2, h3⟩ := ih.2 (by omega) hne
        refine ⟨k + 1, by simp; omega, by rw [h2]; push_cast; omega, ?_⟩
        rw [List.take_succ_cons, List.filter_cons, hp', h3]; rfl

theorem filt_step {q : Int → Bool} {l : List Int} {j : Nat} {v : Int} (hv : l[j]? = some v) : (l.take (j + 1)).filter q = (l.take j).filter q ++ (if q v then [v] else []) := by
  obtain ⟨hj, e⟩ := List.getElem?_eq_some_iff.1 hv
  rw [List.take_add_one, hv, List.filter_append]
  simp [List.filter_cons]
theorem filt_le {q : Int → Bool} {l : List Int} {j : Nat} (hj : j ≤ l.length) : ((l.take j).filter q).length ≤ j := by
  have := List.length_filter_le q (l.take j)
  rw [List.length_take] at this
  omega

/-- The row while it is gone along: what is kept, and what stands behind. -/
def rowK (q : Int → Bool) (l : List Int) (j : Nat) : List Int := (l.take j).filter q ++ l.drop ((l.take j).filter q).length
theorem rowK_len {q : Int → Bool} {l : List Int} {j : Nat} (hj : j ≤ l.length) : (rowK q l j).length = l.length := by
  have := filt_le (q := q) hj
  unfold rowK; simp; omega
theorem rowK_get {q : Int → Bool} {l : List Int} {j : Nat} {v : Int} (hv : l[j]? = some v) : (rowK q l j)[j]? = some v := by
  have hj := (List.getElem?_eq_some_iff.1 hv).1
  have := filt_le (q := q) (l := l) (j := j) (by omega)
  unfold rowK
  rw [List.getElem?_append_right this, List.getElem?_drop]
  rw [show ((l.take j).filter q).length + (j - ((l.take j).filter q).length) = j by omega]
  exact hv
theorem rowK_keep {q : Int → Bool} {l : List Int} {j : Nat} {v : Int} (hv : l[j]? = some v) (hq : q v = true) : (rowK q l j).set ((l.take j).filter q).length v = rowK q l (j + 1) := by
  have hj := (List.getElem?_eq_some_iff.1 hv).1
  have hle := filt_le (q := q) (l := l) (j := j) (by omega)
  unfold rowK
  rw [filt_step hv, hq]
  simp only [if_true, List.length_append, List.length_cons, List.length_nil]
  rw [List.set_append_right _ _ (Nat.le_refl _), Nat.sub_self]
  obtain ⟨w, hw⟩ := get_some (l := l) (i := ((l.take j).filter q).length) (by omega)
  rw [drop_get hw, List.set_cons_zero]
  simp
theorem rowK_drop {q : Int → Bool} {l : List Int} {j : Nat} {v : Int} (hv : l[j]? = some v) (hq : q v = false) : rowK q l j = rowK q l (j + 1) := by
  unfold rowK
  rw [filt_step hv, hq]
  simp

/-- The rest of it is nulls. -/
def rowD (q : Int → Bool) (l : List Int) : List Int := l.filter q ++ List.replicate (l.length - (l.filter q).length) 0
theorem intsE_app (a b : List Int) : intsE (a ++ b) = intsE a ++ intsE b := by simp [intsE]
theorem intsE_rep (n : Nat) : intsE (List.replicate n 0) = List.replicate n (EV.int .i64 0) := by simp [intsE]

/-- What is asked stays the same while the row is turned. -/
theorem deleteFunc_den (f : EV) (p : Int → Bool) (b : Nat) (l : List Int) (H : Heap) (hb : H[b]? = some (some (.row 1 (intsE l)))) (hf : ∀ r, AsksA E f p l (H.set b (some (.row 1 r)))) (hl : l.length ≤ 9223372036854775806) :
    den E R.n_slices_DeleteFunc_int_int [.own b 1 0 l.length, f] H = some (.ret (.own b 1 0 (l.filter fun v => !p v).length), H.set b (some (.row 1 (intsE (if idxI p l 0 = -1 then l else rowD (fun v => !p v) l))))) := by
  have hbl := (List.getElem?_eq_some_iff.1 hb).1
  have hself : H.set b (some (.row 1 (intsE l))) = H := by
    apply List.ext_getElem?
    intro k
    by_cases hk : b = k
    · subst hk; rw [List.getElem?_set_self hbl, hb]
    · rw [List.getElem?_set_ne hk]
  have hf0 : AsksA E f p l H := by have := hf (intsE l); rwa [hself] at this
  have hx := indexFunc_den (E := E) f p b l H hb hf0 hl
  refine den_of R.d_slices_DeleteFunc_int_int (by simp) ?_
  unfold Gn.slices_DeleteFunc_int_int Gn.slices_DeleteFunc_int_int_r
  by_cases hi : idxI p l 0 = -1
  · rw [if_pos hi, hself, (idxI_some (p := p) (l := l) (i := 0)).1 ⟨hi, by omega⟩]
    rw [hi] at hx
    clear hf hf0
    repeat' first
      | (simp (disch := first | omega | assumption) only [go_sem, ↓reduceIte, simprocAttr, reduceCtorEq, *])
      | (refine HG_split (fun hb => ?_) (fun hb => ?_))
      | (refine HC_split (fun hb => ?_) (fun hb => ?_))
    exact finV_same (by simp [EV.ok]; exact hbl) rfl
  · rw [if_neg hi]
    obtain ⟨k, hk, hik, htk⟩ := (idxI_some (p := p) (l := l) (i := 0)).2 (by omega) hi
    rw [hik] at hx
    have hx' : den E R.n_slices_IndexFunc_int_int [.own b 1 0 l.length, f] H = some (.ret (.int .i64 k), H) := by rw [hx]; simp
    clear hx
    let q : Int → Bool := fun v => !p v
    let hp : Nat → Heap := fun j => H.set b (some (.row 1 (intsE (rowK q l j))))
    have hrow0 : hp (k + 1) = H := by
      have : rowK q l (k + 1) = l := by
        unfold rowK
        rw [show (l.take (k + 1)).filter q = l.take k from htk]
        simp [Nat.min_eq_left (Nat.le_of_lt hk)]
      show H.set b (some (.row 1 (intsE (rowK q l (k + 1))))) = H
      rw [this]; exact hself
    have hkn : ((k : Int) == -1) = false := by rw [beq_eq_false_iff_ne]; omega
    simp (disch := omega) only [go_sem, ↓reduceIte, simprocAttr, reduceCtorEq, hx', hkn]
    refine while_of (ι := Nat) (fun j => k + 1 ≤ j ∧ j ≤ l.length) (fun j => l.length - j) (fun j => [(0, .own b 1 0 l.length), (1, f), (5, .int .i64 ((l.take j).filter q).length), (6, .int .i64 j)]) hp (k + 1) ⟨by omega, by omega⟩ ?_ hrow0.symm ?_
    · have hk0 : ((l.take (k + 1)).filter q).length = k := by rw [show (l.take (k + 1)).filter q = l.take k from htk]; simp; omega
      simp (disch := omega) only [go_sem, ↓reduceIte, simprocAttr, reduceCtorEq, Sl, hk0, cast_succ]
    · rintro j t ⟨hj1, hj2⟩ ht K hK
      simp (disch := omega) only [go_sem, ↓reduceIte, simprocAttr, reduceCtorEq, Sl] at ht
      have hle := filt_le (q := q) hj2
      have hlen : (intsE (rowK q l j)).length = l.length := by rw [intsE_len, rowK_len hj2]
      have hgb : (H.set b (some (EB.row 1 (intsE (rowK q l j)))))[b]? = some (some (.row 1 (intsE (rowK q l j)))) := List.getElem?_set_self hbl
      by_cases hlt : j < l.length
      · obtain ⟨v, hv⟩ := get_some hlt
        have hg := intsE_get (rowK_get (q := q) hv)
        have hc := hf (intsE (rowK q l j)) v (List.mem_of_getElem? hv)
        clear hf hf0 hx'
        cases hpv : p v with
        | true =>
          have hqv : q v = false := by simp [q, hpv]
          have hs := filt_step (q := q) hv
          rw [hqv] at hs
          simp only [Bool.false_eq_true, if_false, List.append_nil] at hs
          have hk' := hK (j + 1)
          rw [hs, show hp (j + 1) = hp j by show H.set b _ = H.set b _; rw [rowK_drop hv hqv]] at hk'
          rw [hpv] at hc
          clear hs hqv hpv
          show @Hd E ⟨_⟩ ⟨_⟩ ⟨H.set b (some (.row 1 (intsE (rowK q l j))))⟩ ⟨_⟩
          repeat' first
            | (simp (disch := first | omega | assumption) only [go_sem, ↓reduceIte, simprocAttr, reduceCtorEq, *])
            | (refine HG_split (fun hb => ?_) (fun hb => ?_))
            | (refine HC_split (fun hb => ?_) (fun hb => ?_))
          all_goals (try simp only [decide_eq_true_eq, decide_eq_false_iff_not, beq_iff_eq, beq_eq_false_iff_ne, bne_iff_ne, bne_eq_false_iff_eq, ne_eq, Bool.not_eq_true', Bool.not_eq_false', Bool.not_eq_true, Bool.not_eq_false, Decidable.not_not, Bool.and_eq_true, Bool.or_eq_true] at *)
          all_goals first
            | omega
            | skip
          refine hk' _ _ ⟨by omega, by omega⟩ (by omega) ?_ rfl
          simp (disch := omega) only [go_sem, ↓reduceIte, simprocAttr, reduceCtorEq, Sl, ht, and_self, cast_succ]
        | false =>
          have hqv : q v = true := by simp [q, hpv]
          have hs := filt_step (q := q) hv
          rw [hqv] at hs
          simp only [if_true] at hs
          have hlt2 : ((l.take j).filter q).length < (rowK q l j).length := by rw [rowK_len hj2]; omega
          obtain ⟨w, hw⟩ := get_some hlt2
          have hgw := intsE_get hw
          have hst : (intsE (rowK q l j)).set ((l.take j).filter q).length (.int .i64 v) = intsE (rowK q l (j + 1)) := by
            rw [← rowK_keep hv hqv]
            unfold intsE
            rw [List.map_set]
          have hk' := hK (j + 1)
          rw [hs] at hk'
          simp only [List.length_append, List.length_cons, List.length_nil, Nat.zero_add] at hk'
          have hss : ∀ x y : Option EB, (H.set b x).set b y = H.set b y := fun x y => List.set_set ..
          rw [hpv] at hc
          clear hs hqv hpv
          show @Hd E ⟨_⟩ ⟨_⟩ ⟨H.set b (some (.row 1 (intsE (rowK q l j))))⟩ ⟨_⟩
          repeat' first
            | (simp (disch := first | omega | assumption) only [go_sem, ↓reduceIte, simprocAttr, reduceCtorEq, *])
            | (refine HG_split (fun hb => ?_) (fun hb => ?_))
            | (refine HC_split (fun hb => ?_) (fun hb => ?_))
          all_goals (try simp only [decide_eq_true_eq, decide_eq_false_iff_not, beq_iff_eq, beq_eq_false_iff_ne, bne_iff_ne, bne_eq_false_iff_eq, ne_eq, Bool.not_eq_true', Bool.not_eq_false', Bool.not_eq_true, Bool.not_eq_false, Decidable.not_not, Bool.and_eq_true, Bool.or_eq_true] at *)
          all_goals first
            | omega
            | skip
          refine hk' _ _ ⟨by omega, by omega⟩ (by omega) ?_ rfl
          simp (disch := omega) only [go_sem, ↓reduceIte, simprocAttr, reduceCtorEq, Sl, ht, and_self, cast_succ]
      · have hjl : j = l.length := by omega
        subst hjl
        have htl : (l.take l.length).filter q = l.filter q := by rw [List.take_length]
        rw [htl] at ht hle
        have hrd : (intsE (rowK q l l.length)).take (l.filter q).length ++ List.replicate (l.length - (l.filter q).length) (EV.int .i64 0) ++ (intsE (rowK q l l.length)).drop ((l.filter q).length + (l.length - (l.filter q).length)) = intsE (rowD q l) := by
          unfold rowK rowD
          rw [htl, intsE_app, intsE_app, intsE_rep]
          rw [List.take_append_of_le_length (by rw [intsE_len]; exact Nat.le_refl _), List.take_of_length_le (by rw [intsE_len]; exact Nat.le_refl _)]
          rw [List.drop_of_length_le (by rw [List.length_append, intsE_len, intsE_len, List.length_drop]; omega), List.append_nil]
        have hss : ∀ x y : Option EB, (H.set b x).set b y = H.set b y := fun x y => List.set_set ..
        have hcl : evClear 1 (.int .i64 0) (.own b 1 (l.filter q).length (l.length - (l.filter q).length)) (H.set b (some (EB.row 1 (intsE (rowK q l l.length))))) = some (H.set b (some (.row 1 (intsE (if (l.length - (l.filter q).length) = 0 then rowK q l l.length else rowD q l))))) := by
          unfold evClear
          by_cases hz : l.length - (l.filter q).length = 0
          · simp only [if_pos hz]
          · simp only [if_neg hz, hgb]
            rw [if_pos ⟨trivial, trivial, by rw [hlen]; omega⟩, hrd, hss]
        have hsame : (if (l.length - (l.filter q).length) = 0 then rowK q l l.length else rowD q l) = rowD q l := by
          split
          · rename_i hz
            unfold rowK rowD
            rw [htl, hz]
            simp only [List.replicate_zero, List.append_nil]
            rw [List.drop_of_length_le (by omega), List.append_nil]
          · rfl
        rw [hsame] at hcl
        have hfin : ∀ v, v.ok H.length = true → finV H v ER.ret (H.set b (some (.row 1 (intsE (rowD q l))))) = some (.ret v, H.set b (some (.row 1 (intsE (rowD q l))))) := fun v hv => by
          exact finV_flat hv (by simp) rfl
        clear hf hf0 hx' hK hsame hrd hgb
        show @Hd E ⟨_⟩ ⟨_⟩ ⟨H.set b (some (.row 1 (intsE (rowK q l l.length))))⟩ ⟨_⟩
        repeat' first
          | (simp (disch := first | omega | assumption) only [go_sem, ↓reduceIte, simprocAttr, reduceCtorEq, *])
          | (refine HG_split (fun hb => ?_) (fun hb => ?_))
          | (refine HC_split (fun hb => ?_) (fun hb => ?_))
        all_goals (try simp only [decide_eq_true_eq, decide_eq_false_iff_not, beq_iff_eq, beq_eq_false_iff_ne, bne_iff_ne, bne_eq_false_iff_eq, ne_eq, Bool.not_eq_true', Bool.not_eq_false', Bool.not_eq_true, Bool.not_eq_false, Decidable.not_not, Bool.and_eq_true, Bool.or_eq_true] at *)
        all_goals first
          | omega
          | exact hfin _ (by simp [EV.ok]; exact hbl)
end
end Abs
