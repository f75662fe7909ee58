/- A part. -/
import Derived.Test.YtdcjkdgjlljodaaTrD
set_option linter.all false
namespace Abs
open Go
set_option maxRecDepth 20000
section
variable {E : Env} [R : SlcR E]
theorem dg6 (f : EV) (p : Int → Bool) (b : Nat) (l : List Int) (H : Heap) (hb : H[b]? = some (some (.row 1 (aa9 l)))) (hf : eq2 E f p l H) (hl : l.length ≤ 9223372036854775806) :
  den E R.ac0 [.own b 1 0 l.length, f] H = some (.ret (.int .i64 (idxI p l 0)), H) := by
 refine af6 R.ah2 (by simp) ?_
 unfold Gn.ae1 Gn.ad6
 simp (disch := omega) only [go_sem, simprocAttr, *]
 refine ak0 (ι := Nat) (fun i => i ≤ l.length ∧ idxI p l 0 = idxI p (l.drop i) i) (fun i => l.length - i) (fun i => [(0, .own b 1 0 l.length), (1, f), (7, .int .i64 l.length), (8, .int .i64 i)]) (fun _ => H) 0 ⟨by omega, rfl⟩ ?_ rfl ?_
 ·simp (disch := omega) only [go_sem, simprocAttr, Sl]
 ·rintro i t ⟨hi, hr⟩ ht K hK
  simp (disch := omega) only [go_sem, simprocAttr, Sl] at ht
  by_cases hlt : i < l.length
  ·obtain ⟨v, hv⟩ := ac4 hlt
   have hg := av5 hv
   have hc := hf v (List.mem_of_getElem? hv)
   have hlen := ab4 l
   rw [bw9 hv] at hr
   simp only [idxI] at hr
   have go : p v = false → _ := fun h s' H' => hK (i + 1) s' H' ⟨by omega, by rw [hr, if_neg (by simp [h])]; rfl⟩ (by omega)
   cases hp : p v with
   | true =>
    rw [hp] at hc hr
    rw [if_pos rfl] at hr
    rw [hr]
    clear go hK hf hr
    repeat' first | (simp (disch := first | omega | assumption) only [go_sem, simprocAttr, *]) | refine aa0 (fun hb=>?_) fun hb=>?_ | refine aa1 (fun hb=>?_) fun hb=>?_
    all_goals (try simp only [FX] at *)
    all_goals first | omega | exact ac5 rfl rfl
   | false =>
    rw [hp] at hc
    replace go := go hp
    clear hK hf hr
    repeat' first | (simp (disch := first | omega | assumption) only [go_sem, simprocAttr, *]) | refine aa0 (fun hb=>?_) fun hb=>?_ | refine aa1 (fun hb=>?_) fun hb=>?_
    all_goals (try simp only [FX] at *)
    all_goals first
     | omega
     | (refine go _ _ ?_ rfl; simp (disch := omega) only [go_sem, simprocAttr, Sl, ht, and_self, ac8])
  ·have : i = l.length := by omega
   subst this
   have he : idxI p l 0 = -1 := by rw [hr]; simp [idxI]
   rw [he]
   clear hK hf hr
   repeat' first | (simp (disch := first | omega | assumption) only [go_sem, simprocAttr, *]) | refine aa0 (fun hb=>?_) fun hb=>?_ | refine aa1 (fun hb=>?_) fun hb=>?_
   all_goals (try simp only [FX] at *)
   all_goals first | omega | exact ac5 rfl rfl
theorem cx3 (f : EV) (p : Int → Bool) (b : Nat) (l : List Int) (H : Heap) (hb : H[b]? = some (some (.row 1 (aa9 l)))) (hf : ∀ r, eq2 E f p l (H.set b (some (.row 1 r)))) (hl : l.length ≤ 9223372036854775806) :
  den E R.ad2 [.own b 1 0 l.length, f] H = some (.ret (.own b 1 0 (l.filter fun v => !p v).length), H.set b (some (.row 1 (aa9 (if idxI p l 0 = -1 then l else rowD (fun v => !p v) l))))) := by
 have hbl := (List.getElem?_eq_some_iff.1 hb).1
 have hself : H.set b (some (.row 1 (aa9 l))) = H := by
  apply List.ext_getElem?
  intro k
  by_cases hk : b = k
  ·subst hk; rw [List.getElem?_set_self hbl, hb]
  ·rw [List.getElem?_set_ne hk]
 have hf0 : eq2 E f p l H := by have := hf (aa9 l); rwa [hself] at this
 have hx := dg6 (E := E) f p b l H hb hf0 hl
 refine af6 R.ag6 (by simp) ?_
 unfold Gn.ad9 Gn.ad0
 by_cases hi : idxI p l 0 = -1
 ·rw [if_pos hi, hself, (br3 (p := p) (l := l) (i := 0)).1 ⟨hi, by omega⟩]
  rw [hi] at hx
  clear hf hf0
  repeat' first | (simp (disch := first | omega | assumption) only [go_sem, simprocAttr, *]) | refine aa0 (fun hb=>?_) fun hb=>?_ | refine aa1 (fun hb=>?_) fun hb=>?_
  exact ac5 (by simp [EV.ok]; exact hbl) rfl
 ·rw [if_neg hi]
  obtain ⟨k, hk, hik, htk⟩ := (br3 (p := p) (l := l) (i := 0)).2 (by omega) hi
  rw [hik] at hx
  have hx' : den E R.ac0 [.own b 1 0 l.length, f] H = some (.ret (.int .i64 k), H) := by rw [hx]; simp
  clear hx
  let q : Int → Bool := fun v => !p v
  let hp : Nat → Heap := fun j => H.set b (some (.row 1 (aa9 (rowK q l j))))
  have hrow0 : hp (k + 1) = H := by
   have : rowK q l (k + 1) = l := by
    unfold rowK
    rw [show (l.take (k + 1)).filter q = l.take k from htk]
    simp [Nat.min_eq_left (Nat.le_of_lt hk)]
   show H.set b (some (.row 1 (aa9 (rowK q l (k + 1))))) = H
   rw [this]; exact hself
  have hkn : ((k : Int) == -1) = false := by rw [beq_eq_false_iff_ne]; omega
  simp (disch := omega) only [go_sem, simprocAttr, hx', hkn]
  refine ak0 (ι := Nat) (fun j => k + 1 ≤ j ∧ j ≤ l.length) (fun j => l.length - j) (fun j => [(0, .own b 1 0 l.length), (1, f), (5, .int .i64 ((l.take j).filter q).length), (6, .int .i64 j)]) hp (k + 1) ⟨by omega, by omega⟩ ?_ hrow0.symm ?_
  ·have hk0 : ((l.take (k + 1)).filter q).length = k := by rw [show (l.take (k + 1)).filter q = l.take k from htk]; simp; omega
   simp (disch := omega) only [go_sem, simprocAttr, Sl, hk0, ac8]
  ·rintro j t ⟨hj1, hj2⟩ ht K hK
   simp (disch := omega) only [go_sem, simprocAttr, Sl] at ht
   have hle := ci5 (q := q) hj2
   have hlen : (aa9 (rowK q l j)).length = l.length := by rw [ab4, cz1 hj2]
   have hgb : (H.set b (some (EB.row 1 (aa9 (rowK q l j)))))[b]? = some (some (.row 1 (aa9 (rowK q l j)))) := List.getElem?_set_self hbl
   by_cases hlt : j < l.length
   ·obtain ⟨v, hv⟩ := ac4 hlt
    have hg := av5 (eb2 (q := q) hv)
    have hc := hf (aa9 (rowK q l j)) v (List.mem_of_getElem? hv)
    clear hf hf0 hx'
    cases hpv : p v with
    | true =>
     have hqv : q v = false := by simp [q, hpv]
     have hs := br5 (q := q) hv
     rw [hqv] at hs
     simp only [Bool.false_eq_true, if_false, List.append_nil] at hs
     have hk' := hK (j + 1)
     rw [hs, show hp (j + 1) = hp j by show H.set b _ = H.set b _; rw [dm6 hv hqv]] at hk'
     rw [hpv] at hc
     clear hs hqv hpv
     show @Hd E ⟨_⟩ ⟨_⟩ ⟨H.set b (some (.row 1 (aa9 (rowK q l j))))⟩ ⟨_⟩
     repeat' first | (simp (disch := first | omega | assumption) only [go_sem, simprocAttr, *]) | refine aa0 (fun hb=>?_) fun hb=>?_ | refine aa1 (fun hb=>?_) fun hb=>?_
     all_goals (try simp only [FX] at *)
     all_goals first
      | omega
      | skip
     refine hk' _ _ ⟨by omega, by omega⟩ (by omega) ?_ rfl
     simp (disch := omega) only [go_sem, simprocAttr, Sl, ht, and_self, ac8]
    | false =>
     have hqv : q v = true := by simp [q, hpv]
     have hs := br5 (q := q) hv
     rw [hqv] at hs
     simp only [if_true] at hs
     have hlt2 : ((l.take j).filter q).length < (rowK q l j).length := by rw [cz1 hj2]; omega
     obtain ⟨w, hw⟩ := ac4 hlt2
     have hgw := av5 hw
     have hst : (aa9 (rowK q l j)).set ((l.take j).filter q).length (.int .i64 v) = aa9 (rowK q l (j + 1)) := by
      rw [← dm5 hv hqv]
      unfold aa9
      rw [List.map_set]
     have hk' := hK (j + 1)
     rw [hs] at hk'
     simp only [List.length_append, List.length_cons, List.length_nil, Nat.zero_add] at hk'
     have hss : ∀ x y : Option EB, (H.set b x).set b y = H.set b y := fun x y => List.set_set ..
     rw [hpv] at hc
     clear hs hqv hpv
     show @Hd E ⟨_⟩ ⟨_⟩ ⟨H.set b (some (.row 1 (aa9 (rowK q l j))))⟩ ⟨_⟩
     repeat' first | (simp (disch := first | omega | assumption) only [go_sem, simprocAttr, *]) | refine aa0 (fun hb=>?_) fun hb=>?_ | refine aa1 (fun hb=>?_) fun hb=>?_
     all_goals (try simp only [FX] at *)
     all_goals first
      | omega
      | skip
     refine hk' _ _ ⟨by omega, by omega⟩ (by omega) ?_ rfl
     simp (disch := omega) only [go_sem, simprocAttr, Sl, ht, and_self, ac8]
   ·have hjl : j = l.length := by omega
    subst hjl
    have htl : (l.take l.length).filter q = l.filter q := by rw [List.take_length]
    rw [htl] at ht hle
    have hrd : (aa9 (rowK q l l.length)).take (l.filter q).length ++ List.replicate (l.length - (l.filter q).length) (EV.int .i64 0) ++ (aa9 (rowK q l l.length)).drop ((l.filter q).length + (l.length - (l.filter q).length)) = aa9 (rowD q l) := by
     unfold rowK rowD
     rw [htl, br2, br2, dr9]
     rw [List.take_append_of_le_length (by rw [ab4]; exact Nat.le_refl _), List.take_of_length_le (by rw [ab4]; exact Nat.le_refl _)]
     rw [List.drop_of_length_le (by rw [List.length_append, ab4, ab4, List.length_drop]; omega), List.append_nil]
    have hss : ∀ x y : Option EB, (H.set b x).set b y = H.set b y := fun x y => List.set_set ..
    have hcl : bo6 1 (.int .i64 0) (.own b 1 (l.filter q).length (l.length - (l.filter q).length)) (H.set b (some (EB.row 1 (aa9 (rowK q l l.length))))) = some (H.set b (some (.row 1 (aa9 (if (l.length - (l.filter q).length) = 0 then rowK q l l.length else rowD q l))))) := by
     unfold bo6
     by_cases hz : l.length - (l.filter q).length = 0
     ·simp only [if_pos hz]
     ·simp only [if_neg hz, hgb]
      rw [if_pos ⟨trivial, trivial, by rw [hlen]; omega⟩, hrd, hss]
    have hsame : (if (l.length - (l.filter q).length) = 0 then rowK q l l.length else rowD q l) = rowD q l := by
     split
     ·rename_i hz
      unfold rowK rowD
      rw [htl, hz]
      simp only [List.replicate_zero, List.append_nil]
      rw [List.drop_of_length_le (by omega), List.append_nil]
     ·rfl
    rw [hsame] at hcl
    have hfin : ∀ v, v.ok H.length = true → finV H v ER.ret (H.set b (some (.row 1 (aa9 (rowD q l))))) = some (.ret v, H.set b (some (.row 1 (aa9 (rowD q l))))) := fun v hv => by
     exact co5 hv (by simp) rfl
    clear hf hf0 hx' hK hsame hrd hgb
    show @Hd E ⟨_⟩ ⟨_⟩ ⟨H.set b (some (.row 1 (aa9 (rowK q l l.length))))⟩ ⟨_⟩
    repeat' first | (simp (disch := first | omega | assumption) only [go_sem, simprocAttr, *]) | refine aa0 (fun hb=>?_) fun hb=>?_ | refine aa1 (fun hb=>?_) fun hb=>?_
    all_goals (try simp only [FX] at *)
    all_goals first
     | omega
     | exact hfin _ (by simp [EV.ok]; exact hbl)
theorem cg3 (x : EV) (l : List Int) (H : Heap) (hx : ArgI H x l) (hl : l.length ≤ 1000000) : (l = [] ∧ ∃ y, den E R.ac9 [x] H = some (.ret y, H) ∧ (y = .nilsl ∨ y = .zsl)) ∨ (l ≠ [] ∧ den E R.ac9 [x] H = some (.ret (.own H.length 1 0 l.length), H ++ [some (.row 1 (aa9 l))])) := by
 have hels := hx.els
 have hall : (aa9 l).all (fun e => e.cells.length == 1 && e.cells.all EV.one) = true := by
  rw [List.all_eq_true]
  intro e he
  obtain ⟨v, _, rfl⟩ := List.mem_map.1 he
  rfl
 rcases hx with ⟨rfl, this⟩ | ⟨rfl, this⟩ | ⟨s, rfl⟩ | ⟨b, rfl, hb⟩
 ·refine .inl ⟨this, .nilsl, ?_, .inl rfl⟩
  refine ax9 R.ab3 (by simp) ?_
  unfold Gn.ab2 Gn.aa7
  repeat' first | (simp (disch := first | omega | assumption) only [go_sem, simprocAttr, *]) | refine aa0 (fun hb=>?_) fun hb=>?_ | refine aa1 (fun hb=>?_) fun hb=>?_
 ·refine .inl ⟨this, .zsl, ?_, .inr rfl⟩
  have hap : ab7 1 8 .zsl .zsl H = some (.zsl, H) := by unfold ab7; rw [hels, this]; simp [aa9]
  refine ax9 R.ab3 (by simp) ?_
  unfold Gn.ab2 Gn.aa7
  repeat' first | (simp (disch := first | omega | assumption) only [go_sem, simprocAttr, *]) | refine aa0 (fun hb=>?_) fun hb=>?_ | refine aa1 (fun hb=>?_) fun hb=>?_
 ·cases hl0 : l with
  | nil =>
   subst hl0
   refine .inl ⟨rfl, .zsl, ?_, .inr rfl⟩
   have hap : ab7 1 8 .zsl (.imm s (aa9 [])) H = some (.zsl, H) := by unfold ab7; rw [hels]; simp [aa9]
   refine ax9 R.ab3 (by simp) ?_
   unfold Gn.ab2 Gn.aa7
   repeat' first | (simp (disch := first | omega | assumption) only [go_sem, simprocAttr, *]) | refine aa0 (fun hb=>?_) fun hb=>?_ | refine aa1 (fun hb=>?_) fun hb=>?_
  | cons v r =>
   refine .inr ⟨by simp, ?_⟩
   rw [← hl0]
   have hne : ¬ (aa9 l).length = 0 := by rw [ab4, hl0]; simp
   have hap : ab7 1 8 .zsl (.imm s (aa9 l)) H = some (.own H.length 1 0 l.length, H ++ [some (.row 1 (aa9 l))]) := by
    unfold ab7
    rw [hels]
    simp only [hall, and_true]
    rw [if_pos (by omega), if_neg hne, ab4, if_pos ⟨by omega, by omega⟩]
   clear hl0 hne
   refine ax9 R.ab3 (by simp) ?_
   unfold Gn.ab2 Gn.aa7
   repeat' first | (simp (disch := first | omega | assumption) only [go_sem, simprocAttr, *]) | refine aa0 (fun hb=>?_) fun hb=>?_ | refine aa1 (fun hb=>?_) fun hb=>?_
 ·cases hl0 : l with
  | nil =>
   subst hl0
   refine .inl ⟨rfl, .zsl, ?_, .inr rfl⟩
   have hap : ab7 1 8 .zsl (.own b 1 0 0) H = some (.zsl, H) := by unfold ab7; rw [show bh7 H (.own b 1 0 0) = some (aa9 []) from hels]; simp [aa9]
   refine ax9 R.ab3 (by simp) ?_
   unfold Gn.ab2 Gn.aa7
   repeat' first | (simp (disch := first | omega | assumption) only [go_sem, simprocAttr, *]) | refine aa0 (fun hb=>?_) fun hb=>?_ | refine aa1 (fun hb=>?_) fun hb=>?_
  | cons v r =>
   refine .inr ⟨by simp, ?_⟩
   rw [← hl0]
   have hne : ¬ (aa9 l).length = 0 := by rw [ab4, hl0]; simp
   have hap : ab7 1 8 .zsl (.own b 1 0 l.length) H = some (.own H.length 1 0 l.length, H ++ [some (.row 1 (aa9 l))]) := by
    unfold ab7
    rw [hels]
    simp only [hall, and_true]
    rw [if_pos (by omega), if_neg hne, ab4, if_pos ⟨by omega, by omega⟩]
   clear hl0 hne
   refine ax9 R.ab3 (by simp) ?_
   unfold Gn.ab2 Gn.aa7
   repeat' first | (simp (disch := first | omega | assumption) only [go_sem, simprocAttr, *]) | refine aa0 (fun hb=>?_) fun hb=>?_ | refine aa1 (fun hb=>?_) fun hb=>?_
theorem di8 (x : EV) (hx : am3 x []) : ∃ y, (∀ H, den E R.ac9 [x] H = some (.ret y, H)) ∧ (y = .nilsl ∨ y = .zsl) := by
 rcases hx.shape with ⟨rfl, _⟩ | ⟨rfl, _⟩ | ⟨s, rfl⟩
 ·refine ⟨.nilsl, fun H => ?_, .inl rfl⟩
  refine ax9 R.ab3 (by simp) ?_
  unfold Gn.ab2 Gn.aa7
  repeat' first | (simp (disch := first | omega | assumption) only [go_sem, simprocAttr, *]) | refine aa0 (fun hb=>?_) fun hb=>?_ | refine aa1 (fun hb=>?_) fun hb=>?_
 ·refine ⟨.zsl, fun H => ?_, .inr rfl⟩
  have hap : ab7 1 8 .zsl .zsl H = some (.zsl, H) := by unfold ab7; rw [hx.els]; simp [aa9]
  refine ax9 R.ab3 (by simp) ?_
  unfold Gn.ab2 Gn.aa7
  repeat' first | (simp (disch := first | omega | assumption) only [go_sem, simprocAttr, *]) | refine aa0 (fun hb=>?_) fun hb=>?_ | refine aa1 (fun hb=>?_) fun hb=>?_
 ·refine ⟨.zsl, fun H => ?_, .inr rfl⟩
  have hap : ab7 1 8 .zsl (.imm s (aa9 [])) H = some (.zsl, H) := by unfold ab7; rw [hx.els]; simp [aa9]
  refine ax9 R.ab3 (by simp) ?_
  unfold Gn.ab2 Gn.aa7
  repeat' first | (simp (disch := first | omega | assumption) only [go_sem, simprocAttr, *]) | refine aa0 (fun hb=>?_) fun hb=>?_ | refine aa1 (fun hb=>?_) fun hb=>?_
theorem cx2 (y : EV) (hy : y = .nilsl ∨ y = .zsl) (f : EV) (H : Heap) : den E R.ad2 [y, f] H = some (.ret y, H) := by
 have h1 : den E R.ac0 [y, f] H = some (.ret (.int .i64 (-1)), H) := by
  refine af6 R.ah2 (by simp) ?_
  unfold Gn.ae1 Gn.ad6
  rcases hy with rfl | rfl
  ·simp (disch := omega) only [go_sem, simprocAttr]
   refine aq2 ?_
   repeat' first | (simp (disch := first | omega | assumption) only [go_sem, simprocAttr, *]) | refine aa0 (fun hb=>?_) fun hb=>?_ | refine aa1 (fun hb=>?_) fun hb=>?_
   exact ac5 rfl rfl
  ·simp (disch := omega) only [go_sem, simprocAttr]
   refine aq2 ?_
   repeat' first | (simp (disch := first | omega | assumption) only [go_sem, simprocAttr, *]) | refine aa0 (fun hb=>?_) fun hb=>?_ | refine aa1 (fun hb=>?_) fun hb=>?_
   exact ac5 rfl rfl
 refine af6 R.ag6 (by simp) ?_
 unfold Gn.ad9 Gn.ad0
 rcases hy with rfl | rfl
 ·repeat' first | (simp (disch := first | omega | assumption) only [go_sem, simprocAttr, *]) | refine aa0 (fun hb=>?_) fun hb=>?_ | refine aa1 (fun hb=>?_) fun hb=>?_
  exact ac5 rfl rfl
 ·repeat' first | (simp (disch := first | omega | assumption) only [go_sem, simprocAttr, *]) | refine aa0 (fun hb=>?_) fun hb=>?_ | refine aa1 (fun hb=>?_) fun hb=>?_
  exact ac5 rfl rfl
theorem dr8 (v : Int) (H : Heap) : den E R.aq5 [.int .i64 v] H = some (.ret (.bool false), H) := by
 refine af6 R.bd3 (by simp) ?_
 unfold Gn.aw6 Gn.aq7
 repeat' first | (simp (disch := first | omega | assumption) only [go_sem, simprocAttr, *]) | refine aa0 (fun hb=>?_) fun hb=>?_ | refine aa1 (fun hb=>?_) fun hb=>?_
 all_goals (try simp only [FX] at *)
 exact ac5 rfl (by rw [bne_self_eq_false])
theorem dg5 (v : Int) (H : Heap) : den E R.ak8 [.int .i64 v] H = some (.ret (.bool false), H) := by
 refine af6 R.av9 (by simp) ?_
 unfold Gn.ao3 Gn.ak6
 repeat' first | (simp (disch := first | omega | assumption) only [go_sem, simprocAttr, *]) | refine aa0 (fun hb=>?_) fun hb=>?_ | refine aa1 (fun hb=>?_) fun hb=>?_
 all_goals (try simp only [FX] at *)
 exact ac5 rfl (by rw [bne_self_eq_false])
theorem dr2 (v u : Int) (H : Heap) : den E R.as0 [.int .i64 v, .int .i64 u] H = some (.ret (.bool (decide (v < u))), H) := by
 have h := fun H => dr8 (E := E) v H
 refine af6 R.bf8 (by simp) ?_
 unfold Gn.az7 Gn.as5
 repeat' first | (simp (disch := first | omega | assumption) only [go_sem, simprocAttr, *]) | refine aa0 (fun hb=>?_) fun hb=>?_ | refine aa1 (fun hb=>?_) fun hb=>?_
 all_goals (try simp only [FX] at *)
 exact ac5 rfl rfl
end
def posL : Nat → List Bool → List Int
 | _, [] => []
 | k, b :: a => if b = true then (k : Int) :: posL (k + 1) a else posL (k + 1) a
theorem ak7 : ∀ {a : List Bool} {k : Nat} {v : Int}, v ∈ posL k a ↔ ∃ i : Nat, a.getD i false = true ∧ v = k + i
 | [], k, v => by simp [posL]
 | b :: a, k, v => by
  have ih := ak7 (a := a) (k := k + 1) (v := v)
  have key : (∃ i : Nat, (b :: a).getD i false = true ∧ v = k + i) ↔ (b = true ∧ v = k) ∨ ∃ i : Nat, a.getD i false = true ∧ v = ((k + 1 : Nat) : Int) + i := by
   constructor
   ·rintro ⟨i, h1, h2⟩
    cases i with
    | zero => exact .inl ⟨by simpa using h1, by simpa using h2⟩
    | succ i => exact .inr ⟨i, by simpa using h1, by omega⟩
   ·rintro (⟨h1, h2⟩ | ⟨i, h1, h2⟩)
    ·exact ⟨0, by simpa using h1, by simpa using h2⟩
    ·exact ⟨i + 1, by simpa using h1, by omega⟩
  rw [key, ← ih]
  simp only [posL]
  cases b <;> simp
theorem el8 {a : List Bool} {k : Nat} {v : Int} (h : v ∈ posL k a) : (k : Int) ≤ v := by
 obtain ⟨i, _, h2⟩ := ak7.1 h
 omega
theorem av1 : ∀ (a : List Bool) (k : Nat), (posL k a).Pairwise (· < ·)
 | [], _ => by simp [posL]
 | b :: a, k => by
  have ih := av1 a (k + 1)
  unfold posL
  split
  ·refine List.pairwise_cons.2 ⟨fun v hv => ?_, ih⟩
   have := el8 hv
   omega
  ·exact ih
theorem as6 : ∀ (a : List Bool) (k : Nat), (posL k a).length = cntT a
 | [], _ => rfl
 | b :: a, k => by
  have ih := as6 a (k + 1)
  unfold cntT at ih ⊢
  unfold posL
  rw [List.countP_cons]
  cases b <;> simp [ih]
theorem by5 {a : List Bool} {v : Int} (h : v ∈ posL 0 a) : 0 ≤ v ∧ v < a.length ∧ a.getD v.toNat false = true := by
 obtain ⟨i, h1, h2⟩ := ak7.1 h
 have e : v.toNat = i := by omega
 rw [e]
 refine ⟨by omega, ?_, h1⟩
 by_cases hi : i < a.length
 ·omega
 ·rw [List.getD_eq_getElem?_getD, List.getElem?_eq_none (by omega)] at h1
  simp at h1
theorem by6 (n k : Nat) : posL k (falses n) = [] := by
 refine List.eq_nil_iff_forall_not_mem.2 fun v hv => ?_
 obtain ⟨i, h1, _⟩ := ak7.1 hv
 rw [an5] at h1
 simp at h1
theorem do1 (n p : Nat) (hp : p ≤ n) : posL 0 (atL n p) = [(p : Int)] := by
 have h1 := av1 (atL n p) 0
 have h2 : ∀ v, v ∈ posL 0 (atL n p) ↔ v = (p : Int) := fun v => by
  rw [ak7]
  constructor
  ·rintro ⟨i, h, e⟩
   rw [cc0 hp] at h
   simp only [decide_eq_true_eq] at h
   omega
  ·intro e
   exact ⟨p, by rw [cc0 hp]; simp, by omega⟩
 match hl : posL 0 (atL n p), h1, h2 with
 | [], _, h2 => exact absurd ((h2 p).2 rfl) (by simp)
 | [v], _, h2 => rw [(h2 v).1 (by simp)]
 | v :: u :: l, h1, h2 =>
  have e1 := (h2 v).1 (by simp)
  have e2 := (h2 u).1 (by simp)
  have := (List.pairwise_cons.1 h1).1 u (by simp)
  omega
theorem ch6 : ∀ {a b : List Int}, a.Pairwise (· < ·) → b.Pairwise (· < ·) → (∀ v, v ∈ a ↔ v ∈ b) → a = b
 | [], [], _, _, _ => rfl
 | [], y :: b, _, _, h => absurd ((h y).2 (by simp)) (by simp)
 | x :: a, [], _, _, h => absurd ((h x).1 (by simp)) (by simp)
 | x :: a, y :: b, ha, hb, h => by
  obtain ⟨a1, a2⟩ := List.pairwise_cons.1 ha
  obtain ⟨b1, b2⟩ := List.pairwise_cons.1 hb
  have e : x = y := by
   have h1 := (h x).1 (by simp)
   have h2 := (h y).2 (by simp)
   simp only [List.mem_cons] at h1 h2
   rcases h1 with h1 | h1
   ·exact h1
   ·rcases h2 with h2 | h2
    ·exact h2.symm
    ·have := b1 x h1
     have := a1 y h2
     omega
  subst e
  congr 1
  refine ch6 a2 b2 fun v => ?_
  have := h v
  simp only [List.mem_cons] at this
  constructor
  ·intro hv
   have h1 := a1 v hv
   rcases this.1 (.inr hv) with h2 | h2
   ·omega
   ·exact h2
  ·intro hv
   have h1 := b1 v hv
   rcases this.2 (.inr hv) with h2 | h2
   ·omega
   ·exact h2
def cmpF (p : Int) : List Int → List Int
 | [] => []
 | y :: l => if y = p then cmpF p l else y :: cmpF y l
def comp : List Int → List Int
 | [] => []
 | x :: l => x :: cmpF x l
theorem cb4 : ∀ (l : List Int) (p u v : Int), (p :: l).getLast? = some u → cmpF p (l ++ [v]) = cmpF p l ++ (if v = u then [] else [v])
 | [], p, u, v, h => by
  simp only [List.getLast?_singleton, Option.some.injEq] at h
  subst h
  simp only [List.nil_append, cmpF]
 | y :: l, p, u, v, h => by
  have h' : (y :: l).getLast? = some u := by simpa using h
  simp only [List.cons_append, cmpF]
  split
  ·rename_i e
   subst e
   exact cb4 l y u v h'
  ·rw [cb4 l y u v h', List.cons_append]
theorem cb2 {l : List Int} {j : Nat} {u v : Int} (hu : l[j]? = some u) (hv : l[j + 1]? = some v) : comp (l.take (j + 2)) = comp (l.take (j + 1)) ++ (if v = u then [] else [v]) := by
 have e : l.take (j + 2) = l.take (j + 1) ++ [v] := by rw [List.take_add_one, hv]; rfl
 have g : (l.take (j + 1)).getLast? = some u := by rw [List.take_add_one, hu]; simp
 rw [e]
 cases hl : l.take (j + 1) with
 | nil => rw [hl] at g; simp at g
 | cons x r =>
  rw [hl] at g
  simp only [List.cons_append, comp]
  rw [cb4 r x u v g]
theorem cx7 (p : Int) : ∀ l, (cmpF p l).length ≤ l.length
 | [] => Nat.le_refl _
 | y :: l => by
  simp only [cmpF]
  split
  ·have := cx7 p l; simp; omega
  ·have := cx7 y l; simp; omega
theorem dw8 : ∀ l, (comp l).length ≤ l.length
 | [] => Nat.le_refl _
 | x :: l => by have := cx7 x l; simp [comp]; omega
theorem cb5 : ∀ (l : List Int) (p : Int), (p :: l).Pairwise (· ≤ ·) → (p :: cmpF p l).Pairwise (· < ·) ∧ ∀ v, v ∈ p :: cmpF p l ↔ v ∈ p :: l
 | [], p, _ => ⟨by simp [cmpF], fun v => by simp [cmpF]⟩
 | y :: l, p, h => by
  obtain ⟨h1, h2⟩ := List.pairwise_cons.1 h
  simp only [cmpF]
  split
  ·rename_i e
   subst e
   obtain ⟨i1, i2⟩ := cb5 l y h2
   exact ⟨i1, fun v => by rw [i2 v]; simp⟩
  ·rename_i e
   obtain ⟨i1, i2⟩ := cb5 l y h2
   refine ⟨List.pairwise_cons.2 ⟨fun v hv => ?_, i1⟩, fun v => by rw [List.mem_cons, i2 v, List.mem_cons (l := y :: l)]⟩
   have hy := h1 y (by simp)
   rcases List.mem_cons.1 hv with rfl | hv'
   ·omega
   ·have := (List.pairwise_cons.1 i1).1 v hv'
    omega
theorem dw7 {l : List Int} (h : l.Pairwise (· ≤ ·)) : (comp l).Pairwise (· < ·) ∧ ∀ v, v ∈ comp l ↔ v ∈ l := by
 cases l with
 | nil => exact ⟨by simp [comp], fun v => by simp [comp]⟩
 | cons x l => exact cb5 l x h
def srt (l : List Int) : List Int := l.mergeSort fun x y => decide (x ≤ y)
theorem dl7 (l : List Int) : (srt l).length = l.length := by simp [srt]
theorem ea7 (l : List Int) : (srt l).Pairwise (· ≤ ·) := by
 have := List.pairwise_mergeSort (le := fun x y : Int => decide (x ≤ y)) (by intro a b c; simp only [decide_eq_true_eq]; omega) (by intro a b; simp only [Bool.or_eq_true, decide_eq_true_eq]; omega) l
 simpa [srt] using this
theorem ek7 (l : List Int) (v : Int) : v ∈ srt l ↔ v ∈ l := by simp [srt]
theorem dq7 {a b : List Bool} (h : a.length = b.length) : comp (srt (posL 0 a ++ posL 0 b)) = posL 0 (orL a b) := by
 obtain ⟨h1, h2⟩ := dw7 (ea7 (posL 0 a ++ posL 0 b))
 refine ch6 h1 (av1 _ _) fun v => ?_
 rw [h2, ek7, List.mem_append, ak7, ak7, ak7]
 constructor
 ·rintro (⟨i, h3, h4⟩ | ⟨i, h3, h4⟩)
  ·exact ⟨i, by rw [af1 h, h3]; rfl, h4⟩
  ·exact ⟨i, by rw [af1 h, h3, Bool.or_true], h4⟩
 ·rintro ⟨i, h3, h4⟩
  rw [af1 h, Bool.or_eq_true] at h3
  rcases h3 with h3 | h3
  ·exact .inl ⟨i, h3, h4⟩
  ·exact .inr ⟨i, h3, h4⟩
theorem ed7 {a b : List Bool} (h : a.length = b.length) : (posL 0 a).filter (fun v => !decide (v ∈ posL 0 b)) = posL 0 (av4 a b) := by
 refine ch6 ((av1 _ _).filter _) (av1 _ _) fun v => ?_
 rw [List.mem_filter, ak7 (a := a), ak7 (a := av4 a b)]
 constructor
 ·rintro ⟨⟨i, h3, h4⟩, h5⟩
  refine ⟨i, ?_, h4⟩
  rw [bc4 h, h3]
  cases hb : b.getD i false with
  | false => rfl
  | true => rw [decide_eq_true (ak7.2 ⟨i, hb, h4⟩)] at h5; simp at h5
 ·rintro ⟨i, h3, h4⟩
  rw [bc4 h, Bool.and_eq_true] at h3
  refine ⟨⟨i, h3.1, h4⟩, ?_⟩
  rw [Bool.not_eq_true', decide_eq_false_iff_not]
  intro hv
  obtain ⟨j, h5, h6⟩ := ak7.1 hv
  have : i = j := by omega
  subst this
  rw [h5] at h3
  simp at h3
def bf1 (w : Nat → Nat) (s : List UInt8) (p : Int) : Option Int := if p < s.length ∧ bf5 w (s.getD p.toNat 0).toNat = true then some (p + 1) else none
theorem ea3 (w : Nat → Nat) {s : List UInt8} {a : List Bool} (h : a.length = s.length + 1) : (posL 0 a).filterMap (bf1 w s) = posL 0 (bs2 w s a) := by
 refine ch6 ?_ (av1 _ _) fun v => ?_
 ·refine List.Pairwise.filterMap (bf1 w s) ?_ (av1 a 0)
  intro x y hxy x' hx y' hy
  unfold bf1 at hx hy
  split at hx <;> simp at hx
  split at hy <;> simp at hy
  omega
 ·rw [List.mem_filterMap, ak7]
  constructor
  ·rintro ⟨p, hp, hs⟩
   obtain ⟨h0, h1, h2⟩ := by5 hp
   unfold bf1 at hs
   split at hs <;> simp at hs
   rename_i hc
   obtain ⟨b, hb⟩ := ac4 (l := s) (i := p.toNat) (by omega)
   refine ⟨p.toNat + 1, ?_, by omega⟩
   rw [au6 hb, h2]
   have := hc.2
   rw [List.getD_eq_getElem?_getD, hb] at this
   exact this
  ·rintro ⟨i, h1, h2⟩
   cases i with
   | zero => rw [bh9] at h1; simp at h1
   | succ i =>
    by_cases hi : i < s.length
    ·obtain ⟨b, hb⟩ := ac4 hi
     rw [au6 hb, Bool.and_eq_true] at h1
     refine ⟨(i : Int), ak7.2 ⟨i, h1.1, by omega⟩, ?_⟩
     unfold bf1
     rw [if_pos ⟨by omega, by rw [Int.toNat_natCast, List.getD_eq_getElem?_getD, hb]; exact h1.2⟩]
     exact congrArg some (by omega)
    ·rw [bi0 (by omega)] at h1; simp at h1
section
variable {E : Env} [R : SlcR E]
theorem cy1 (x : EV) (l : List Int) (hx : am3 x l) (hl : l.length ≤ 1000000) (hs : l.Pairwise (· < ·)) (v : Int) (H : Heap) :
  ∃ p : Int, den E R.ac2 [x, .int .i64 v] H = some (.ret (.tup [.int .i64 p, .bool (decide (v ∈ l))]), H) := by
 have lx := hx.lenI
 have ox := hx.one.2
 have hL := fun (u w : Int) H => dr2 (E := E) u w H
 have hN := fun (u : Int) H => dg5 (E := E) u H
 suffices h : ∃ r, den E R.ac2 [x, .int .i64 v] H = some r ∧ ∃ p : Int, r = (ER.ret (.tup [.int .i64 p, .bool (decide (v ∈ l))]), H) by
  obtain ⟨r, h1, p, rfl⟩ := h
  exact ⟨p, h1⟩
 refine cp6 R.ai6 (by simp) ?_
 unfold Gn.ae3 Gn.ad7
 unfold EV.one at ox
 simp (disch := omega) only [go_sem, simprocAttr, *]
 refine ak0 (ι := Nat × Nat) (fun q => q.1 ≤ q.2 ∧ q.2 ≤ l.length ∧ (∀ (k : Nat) (u : Int), l[k]? = some u → k < q.1 → u < v) ∧ ∀ (k : Nat) (u : Int), l[k]? = some u → q.2 ≤ k → v ≤ u) (fun q => q.2 - q.1)
  (fun q => [(0, x), (1, .int .i64 v), (6, .int .i64 l.length), (7, .int .i64 q.1), (8, .int .i64 q.2)]) (fun _ => H) (0, l.length) ⟨by simp, by simp, fun k u _ h => by simp at h, fun k u h1 h2 => absurd (aa3 h1) (by simp at h2; omega)⟩ ?_ rfl ?_
 ·simp (disch := omega) only [go_sem, simprocAttr, Sl]
 rintro ⟨i, j⟩ t ⟨h1, h2, h3, h4⟩ ht K hK
 simp only at h1 h2 h3 h4 ht
 simp (disch := omega) only [go_sem, simprocAttr, Sl] at ht
 by_cases hlt : i < j
 ·obtain ⟨m, hm1, hm2, hsh⟩ : ∃ m : Nat, i ≤ m ∧ m < j ∧ ((i : Int) + j).fdiv (2 ^ min 1 64) = (m : Int) := by
   refine ⟨(i + j) / 2, by omega, by omega, ?_⟩
   show ((i : Int) + j).fdiv 2 = _
   rw [Int.fdiv_eq_ediv_of_nonneg _ (by omega)]
   omega
  obtain ⟨u, hu⟩ := ac4 (l := l) (i := m) (by omega)
  have hat := hx.at hu
  have ho : ∀ (k k' : Nat) (y z : Int), l[k]? = some y → l[k']? = some z → k < k' → y < z := fun k k' y z hy hz hk => by
   have := (List.pairwise_iff_getElem.1 hs) k k' (aa3 hy) (aa3 hz) hk
   rwa [(List.getElem?_eq_some_iff.1 hy).2, (List.getElem?_eq_some_iff.1 hz).2] at this
  by_cases hc : u < v
  ·have go := fun s' H' => hK (m + 1, j) s' H' ⟨by simp only; omega, h2, fun k w hw hk => by
    simp only at hk
    by_cases e : k = m
    ·subst e
     rw [hu] at hw
     simp only [Option.some.injEq] at hw
     omega
    ·have := ho k m w u hw hu (by omega)
     omega, h4⟩ (by simp only; omega)
   have hd : decide (u < v) = true := decide_eq_true hc
   clear hK h3 h4 hs ho
   repeat' first | (simp (disch := first | omega | assumption) only [go_sem, simprocAttr, *]) | refine aa0 (fun hb=>?_) fun hb=>?_ | refine aa1 (fun hb=>?_) fun hb=>?_
   all_goals (try simp only [FX] at *)
   all_goals first | omega | skip
   refine go _ _ ?_ rfl
   simp (disch := omega) only [go_sem, simprocAttr, Sl, ht, and_self, ac8]
  ·have go := fun s' H' => hK (i, m) s' H' ⟨by simp only; omega, by simp only; omega, h3, fun k w hw hk => by
    simp only at hk
    by_cases e : k = m
    ·subst e
     rw [hu] at hw
     simp only [Option.some.injEq] at hw
     omega
    ·have := ho m k u w hu hw (by omega)
     omega⟩ (by simp only; omega)
   have hd : decide (u < v) = false := decide_eq_false hc
   clear hK h3 h4 hs ho
   repeat' first | (simp (disch := first | omega | assumption) only [go_sem, simprocAttr, *]) | refine aa0 (fun hb=>?_) fun hb=>?_ | refine aa1 (fun hb=>?_) fun hb=>?_
   all_goals (try simp only [FX] at *)
   all_goals first | omega | skip
   refine go _ _ ?_ rfl
   simp (disch := omega) only [go_sem, simprocAttr, Sl, ht, and_self, ac8]
 ·have hij : i = j := by omega
  subst hij
  clear hK
  by_cases hin : i < l.length
  ·obtain ⟨u, hu⟩ := ac4 hin
   have hat := hx.at hu
   have hge := h4 i u hu (Nat.le_refl _)
   by_cases e : u = v
   ·subst e
    have hd : decide (u ∈ l) = true := decide_eq_true (List.mem_of_getElem? hu)
    rw [hd]
    clear h3 h4 hs
    repeat' first | (simp (disch := first | omega | assumption) only [go_sem, simprocAttr, *]) | refine aa0 (fun hb=>?_) fun hb=>?_ | refine aa1 (fun hb=>?_) fun hb=>?_
    all_goals (try simp only [FX] at *)
    all_goals first | omega | skip
    exact ⟨_, ac5 rfl rfl, _, rfl⟩
   ·have hd : decide (v ∈ l) = false := decide_eq_false fun hv => by
     obtain ⟨k, hk, hkv⟩ := List.mem_iff_getElem.1 hv
     by_cases c1 : k < i
     ·have := h3 k v (by rw [List.getElem?_eq_getElem hk, hkv]) c1
      omega
     ·by_cases c2 : k = i
      ·subst c2
       rw [List.getElem?_eq_getElem hk, hkv] at hu
       simp only [Option.some.injEq] at hu
       exact e hu.symm
      ·have := (List.pairwise_iff_getElem.1 hs) i k hin hk (by omega)
       rw [(List.getElem?_eq_some_iff.1 hu).2, hkv] at this
       omega
    have hue : (u == v) = false := beq_eq_false_iff_ne.2 e
    rw [hd]
    clear h3 h4 hs hd
    repeat' first | (simp (disch := first | omega | assumption) only [go_sem, simprocAttr, *]) | refine aa0 (fun hb=>?_) fun hb=>?_ | refine aa1 (fun hb=>?_) fun hb=>?_
    all_goals (try simp only [FX] at *)
    all_goals first | omega | skip
    exact ⟨_, ac5 rfl rfl, _, rfl⟩
  ·have hd : decide (v ∈ l) = false := decide_eq_false fun hv => by
    obtain ⟨k, hk, hkv⟩ := List.mem_iff_getElem.1 hv
    have := h3 k v (by rw [List.getElem?_eq_getElem hk, hkv]) (by omega)
    omega
   have hie : i = l.length := by omega
   rw [hd]
   clear h3 h4 hs hd
   repeat' first | (simp (disch := first | omega | assumption) only [go_sem, simprocAttr, *]) | refine aa0 (fun hb=>?_) fun hb=>?_ | refine aa1 (fun hb=>?_) fun hb=>?_
   all_goals (try simp only [FX] at *)
   all_goals first | omega | skip
   exact ⟨_, ac5 rfl rfl, _, rfl⟩
theorem ee4 (n : Nat) (hn : 0 < n) (hl : n ≤ 1000000) (H : Heap) : den E R.ag2 [.nilsl, .int .i64 n] H = some (.ret (.own H.length 1 0 0), H ++ [some (.row 1 (List.replicate n (.int .i64 0)))]) := by
 refine ax9 R.al8 (by simp) ?_
 unfold Gn.ah5 Gn.ag0
 have hz : cp1 1 8 (.int .i64 0) .nilsl (.int .i64 ((n : Int) - 0)) H = some (.own H.length 1 0 n, H ++ [some (.row 1 (List.replicate n (.int .i64 0)))]) := by
  simp only [cp1]
  rw [Int.sub_zero, if_pos ⟨by omega, by omega, by omega⟩, if_neg (by omega), Int.toNat_natCast]
 repeat' first | (simp (disch := first | omega | assumption) only [go_sem, simprocAttr, *]) | refine aa0 (fun hb=>?_) fun hb=>?_ | refine aa1 (fun hb=>?_) fun hb=>?_
 all_goals (try simp only [FX] at *)
 all_goals first | omega | skip
theorem ds5 (H : Heap) : den E R.ag2 [.nilsl, .int .i64 0] H = some (.ret .nilsl, H) := by
 refine ax9 R.al8 (by simp) ?_
 unfold Gn.ah5 Gn.ag0
 repeat' first | (simp (disch := first | omega | assumption) only [go_sem, simprocAttr, *]) | refine aa0 (fun hb=>?_) fun hb=>?_ | refine aa1 (fun hb=>?_) fun hb=>?_
 all_goals (try simp only [FX] at *)
 all_goals first | omega | skip
end
section
variable {E : Env} [R : SlcR E]
theorem da8 (l : List Int) : (aa9 l).all (fun e => e.cells.length == 1 && e.cells.all EV.one) = true := by
 rw [List.all_eq_true]
 intro e he
 obtain ⟨v, _, rfl⟩ := List.mem_map.1 he
 rfl
theorem di7 (x y : EV) (la lb : List Int) (hx : am3 x la) (hy : am3 y lb) (hl : la.length + lb.length ≤ 1000000) (H : Heap) :
  (la ++ lb = [] ∧ den E R.ae6 [.imm 1 [x, y]] H = some (.ret .nilsl, H)) ∨
   la ++ lb ≠ [] ∧ den E R.ae6 [.imm 1 [x, y]] H = some (.ret (.own (H.length + 2) 1 0 (la ++ lb).length), H ++ [none, none, some (.row 1 (aa9 (la ++ lb)))]) := by
 have lx := hx.lenI
 have ly := hy.lenI
 obtain ⟨cx, ox⟩ := hx.one
 obtain ⟨cy, oy⟩ := hy.one
 unfold EV.one at ox oy
 unfold EV.cells at cx cy
 by_cases hz : la ++ lb = []
 ·obtain ⟨rfl, rfl⟩ := List.append_eq_nil_iff.1 hz
  refine .inl ⟨rfl, ?_⟩
  have hg := ds5 (E := E) H
  have a1 : ab7 1 8 .nilsl x H = some (.nilsl, H) := by unfold ab7; rw [hx.els]; rfl
  have a2 : ab7 1 8 .nilsl y H = some (.nilsl, H) := by unfold ab7; rw [hy.els]; rfl
  refine ax9 R.ai9 (by simp) ?_
  unfold Gn.ag1 Gn.ae5
  repeat' first | (simp (disch := first | omega | assumption) only [go_sem, simprocAttr, *]) | refine aa0 (fun hb=>?_) fun hb=>?_ | refine aa1 (fun hb=>?_) fun hb=>?_
  refine aq2 ?_
  repeat' first | (simp (disch := first | omega | assumption) only [go_sem, simprocAttr, *]) | refine aa0 (fun hb=>?_) fun hb=>?_ | refine aa1 (fun hb=>?_) fun hb=>?_
  refine aq2 ?_
  repeat' first | (simp (disch := first | omega | assumption) only [go_sem, simprocAttr, *]) | refine aa0 (fun hb=>?_) fun hb=>?_ | refine aa1 (fun hb=>?_) fun hb=>?_
  refine aq2 ?_
  repeat' first | (simp (disch := first | omega | assumption) only [go_sem, simprocAttr, *]) | refine aa0 (fun hb=>?_) fun hb=>?_ | refine aa1 (fun hb=>?_) fun hb=>?_
  refine aq2 ?_
  repeat' first | (simp (disch := first | omega | assumption) only [go_sem, simprocAttr, *]) | refine aa0 (fun hb=>?_) fun hb=>?_ | refine aa1 (fun hb=>?_) fun hb=>?_
  refine aq2 ?_
  repeat' first | (simp (disch := first | omega | assumption) only [go_sem, simprocAttr, *]) | refine aa0 (fun hb=>?_) fun hb=>?_ | refine aa1 (fun hb=>?_) fun hb=>?_
  refine aq2 ?_
  repeat' first | (simp (disch := first | omega | assumption) only [go_sem, simprocAttr, *]) | refine aa0 (fun hb=>?_) fun hb=>?_ | refine aa1 (fun hb=>?_) fun hb=>?_
  all_goals (try simp only [FX] at *)
  all_goals first | omega | skip
 ·refine .inr ⟨hz, ?_⟩
  have hne : 0 < la.length + lb.length := by
   have := List.length_pos_iff.2 hz
   rwa [List.length_append] at this
  have hg := ee4 (E := E) (la.length + lb.length) hne hl H
  rw [show ((la.length + lb.length : Nat) : Int) = 0 + la.length + lb.length by omega] at hg
  have a1 : ab7 1 8 (.own H.length 1 0 0) x (H ++ [some (.row 1 (List.replicate (la.length + lb.length) (.int .i64 0)))]) = some (.own (H.length + 1) 1 0 la.length, H ++ [none, some (.row 1 (aa9 la))]) := by
   unfold ab7
   rw [hx.els]
   simp only [da8, and_true]
   rw [if_pos (by omega)]
   simp only [List.getElem?_append_right (Nat.le_refl _), Nat.sub_self, List.getElem?_cons_zero]
   rw [if_pos ⟨trivial, trivial, trivial, by omega, by rw [ab4]; omega, by rw [ab4]; omega⟩, List.set_append_right _ _ (Nat.le_refl _), Nat.sub_self, ab4]
   simp
  have a2 : ab7 1 8 (.own (H.length + 1) 1 0 la.length) y (H ++ [none, some (.row 1 (aa9 la))]) = some (.own (H.length + 2) 1 0 (la ++ lb).length, H ++ [none, none, some (.row 1 (aa9 (la ++ lb)))]) := by
   unfold ab7
   rw [hy.els]
   simp only [da8, and_true]
   rw [if_pos (by omega)]
   have g : (H ++ [none, some (EB.row 1 (aa9 la))])[H.length + 1]? = some (some (.row 1 (aa9 la))) := by rw [List.getElem?_append_right (by omega), Nat.add_sub_cancel_left]; rfl
   simp only [g]
   rw [if_pos ⟨trivial, trivial, trivial, by rw [ab4]; omega, by rw [ab4]; omega, by rw [ab4]; omega⟩, List.set_append_right _ _ (by omega), Nat.add_sub_cancel_left, ab4, List.take_of_length_le (by rw [ab4]; omega), br2, List.length_append]
   simp
  refine ax9 R.ai9 (by simp) ?_
  unfold Gn.ag1 Gn.ae5
  repeat' first | (simp (disch := first | omega | assumption) only [go_sem, simprocAttr, *]) | refine aa0 (fun hb=>?_) fun hb=>?_ | refine aa1 (fun hb=>?_) fun hb=>?_
  refine aq2 ?_
  repeat' first | (simp (disch := first | omega | assumption) only [go_sem, simprocAttr, *]) | refine aa0 (fun hb=>?_) fun hb=>?_ | refine aa1 (fun hb=>?_) fun hb=>?_
  all_goals (try simp only [FX] at *)
  all_goals first | omega | skip
  refine aq2 ?_
  repeat' first | (simp (disch := first | omega | assumption) only [go_sem, simprocAttr, *]) | refine aa0 (fun hb=>?_) fun hb=>?_ | refine aa1 (fun hb=>?_) fun hb=>?_
  all_goals (try simp only [FX] at *)
  all_goals first | omega | skip
  refine aq2 ?_
  repeat' first | (simp (disch := first | omega | assumption) only [go_sem, simprocAttr, *]) | refine aa0 (fun hb=>?_) fun hb=>?_ | refine aa1 (fun hb=>?_) fun hb=>?_
  all_goals (try simp only [FX] at *)
  all_goals first | omega | skip
  refine aq2 ?_
  repeat' first | (simp (disch := first | omega | assumption) only [go_sem, simprocAttr, *]) | refine aa0 (fun hb=>?_) fun hb=>?_ | refine aa1 (fun hb=>?_) fun hb=>?_
  all_goals (try simp only [FX] at *)
  all_goals first | omega | skip
  refine aq2 ?_
  repeat' first | (simp (disch := first | omega | assumption) only [go_sem, simprocAttr, *]) | refine aa0 (fun hb=>?_) fun hb=>?_ | refine aa1 (fun hb=>?_) fun hb=>?_
  all_goals (try simp only [FX] at *)
  all_goals first | omega | skip
  refine aq2 ?_
  repeat' first | (simp (disch := first | omega | assumption) only [go_sem, simprocAttr, *]) | refine aa0 (fun hb=>?_) fun hb=>?_ | refine aa1 (fun hb=>?_) fun hb=>?_
  all_goals (try simp only [FX] at *)
  all_goals first | omega | skip
  all_goals (try simp only [FX] at *)
  all_goals first | omega | skip
end
def rowC (l : List Int) (n : Nat) : List Int := comp (l.take n) ++ l.drop (comp (l.take n)).length
def cLen (l : List Int) (n : Nat) : Nat := (comp (l.take n)).length
theorem cz6 {l : List Int} {n i : Nat} (h : cLen l n ≤ i) : (rowC l n)[i]? = l[i]? := by
 unfold rowC
 unfold cLen at h
 rw [List.getElem?_append_right h, List.getElem?_drop]
 congr 1
 omega
theorem cy0 {l : List Int} {n : Nat} (h : n ≤ l.length) : cLen l n ≤ n := by
 have := dw8 (l.take n)
 rw [List.length_take] at this
 unfold cLen
 omega
theorem cz5 {l : List Int} {n : Nat} (h : n ≤ l.length) : (rowC l n).length = l.length := by
 have := cy0 h
 unfold cLen at this
 unfold rowC
 rw [List.length_append, List.length_drop]
 omega
theorem by2 {l : List Int} {n : Nat} {u : Int} (h0 : 0 < n) (hu : l[n - 1]? = some u) (hv : l[n]? = some u) : rowC l (n + 1) = rowC l n ∧ cLen l (n + 1) = cLen l n := by
 have := cb2 (l := l) (j := n - 1) (u := u) (v := u) hu (by rw [show n - 1 + 1 = n by omega]; exact hv)
 rw [show n - 1 + 2 = n + 1 by omega, show n - 1 + 1 = n by omega, if_pos rfl, List.append_nil] at this
 unfold rowC cLen
 rw [this]
 exact ⟨rfl, rfl⟩
theorem cl9 {l : List Int} {n : Nat} {u v : Int} (h0 : 0 < n) (hu : l[n - 1]? = some u) (hv : l[n]? = some v) (hne : v ≠ u) : (rowC l n).set (cLen l n) v = rowC l (n + 1) ∧ cLen l (n + 1) = cLen l n + 1 := by
 have := cb2 (l := l) (j := n - 1) (u := u) (v := v) hu (by rw [show n - 1 + 1 = n by omega]; exact hv)
 rw [show n - 1 + 2 = n + 1 by omega, show n - 1 + 1 = n by omega, if_neg hne] at this
 have hn := aa3 hv
 have hle := cy0 (l := l) (n := n) (by omega)
 unfold cLen at hle
 unfold rowC cLen
 rw [this, List.length_append, List.length_cons, List.length_nil, List.set_append_right _ _ (Nat.le_refl _), Nat.sub_self]
 refine ⟨?_, rfl⟩
 obtain ⟨z, hz⟩ := ac4 (l := l) (i := (comp (l.take n)).length) (by omega)
 rw [bw9 hz, List.set_cons_zero]
 simp
theorem cq4 {l : List Int} {n : Nat} (h : n ≤ l.length) (hc : cLen l n = n) : comp (l.take n) = l.take n := by
 have key : ∀ m, m ≤ l.length → (cLen l m = m → comp (l.take m) = l.take m) := by
  intro m
  induction m with
  | zero => intro _ _; simp [comp]
  | succ m ih =>
   intro hm hcm
   cases m with
   | zero =>
    cases l with
    | nil => simp at hm
    | cons x l => simp [comp, cmpF]
   | succ m =>
    obtain ⟨u, hu⟩ := ac4 (l := l) (i := m) (by omega)
    obtain ⟨v, hv⟩ := ac4 (l := l) (i := m + 1) (by omega)
    have hn := cb2 hu hv
    have hle := cy0 (l := l) (n := m + 1) (by omega)
    unfold cLen at hcm hle
    rw [hn, List.length_append] at hcm
    by_cases e : v = u
    ·rw [if_pos e] at hcm
     simp at hcm
     omega
    ·rw [if_neg e] at hcm hn
     simp only [List.length_cons, List.length_nil] at hcm
     rw [hn, ih (by omega) (by unfold cLen; omega), List.take_add_one (i := m + 1), hv]
     rfl
 exact key n h hc
section
variable {E : Env} [R : SlcR E]
set_option maxHeartbeats 1000000 in
theorem cx5 (b : Nat) (l : List Int) (H : Heap) (hb : H[b]? = some (some (.row 1 (aa9 l)))) (hl : l.length ≤ 1000000) :
  ∃ r : List EV, den E R.ad3 [.own b 1 0 l.length] H = some (.ret (.own b 1 0 (comp l).length), H.set b (some (.row 1 r))) ∧ r.take (comp l).length = aa9 (comp l) ∧ (comp l).length ≤ r.length := by
 have hbl := aa3 hb
 have hself : H.set b (some (.row 1 (aa9 l))) = H := by
  apply List.ext_getElem?
  intro k
  by_cases hk : b = k
  ·subst hk; rw [List.getElem?_set_self hbl, hb]
  ·rw [List.getElem?_set_ne hk]
 have hsame : comp l = l → ∀ r, r = (ER.ret (.own b 1 0 l.length), H) → ∃ r' : List EV, r = (ER.ret (.own b 1 0 (comp l).length), H.set b (some (.row 1 r'))) ∧ r'.take (comp l).length = aa9 (comp l) ∧ (comp l).length ≤ r'.length := fun hc r hr => by
  refine ⟨aa9 l, ?_, ?_, ?_⟩
  ·rw [hc, hself, hr]
  ·rw [hc, List.take_of_length_le (by rw [ab4]; exact Nat.le_refl _)]
  ·rw [hc, ab4]; exact Nat.le_refl _
 suffices h : ∃ r, den E R.ad3 [.own b 1 0 l.length] H = some r ∧ ∃ r' : List EV, r = (ER.ret (.own b 1 0 (comp l).length), H.set b (some (.row 1 r'))) ∧ r'.take (comp l).length = aa9 (comp l) ∧ (comp l).length ≤ r'.length by
  obtain ⟨r, h1, r', rfl, h2⟩ := h
  exact ⟨r', h1, h2⟩
 refine cp6 R.ai4 (by simp) ?_
 unfold Gn.af3 Gn.ae2
 have hfin : ∀ (m : Nat) (G : Heap), finV H (.own b 1 0 m) ER.ret G = finV H (.own b 1 0 m) ER.ret G := fun _ _ => rfl
 have hok : ∀ m, (EV.own b 1 0 m).ok H.length = true := fun m => by simp [EV.ok]; exact hbl
 by_cases h2 : l.length < 2
 ·have hc : comp l = l := by
   match l, h2 with
   | [], _ => rfl
   | [x], _ => rfl
  replace hsame := hsame hc
  clear hself
  repeat' first | (simp (disch := first | omega | assumption) only [go_sem, simprocAttr, *]) | refine aa0 (fun hb=>?_) fun hb=>?_ | refine aa1 (fun hb=>?_) fun hb=>?_
  all_goals (try simp only [FX] at *)
  all_goals first | omega | skip
  exact ⟨_, ac5 (hok _) rfl, by have := hsame _ rfl; rwa [hc] at this⟩
 repeat' first | (simp (disch := first | omega | assumption) only [go_sem, simprocAttr, *]) | refine aa0 (fun hb=>?_) fun hb=>?_ | refine aa1 (fun hb=>?_) fun hb=>?_
 all_goals (try simp only [FX] at *)
 all_goals first | omega | skip
 refine ak0 (ι := Nat) (fun k => 1 ≤ k ∧ k ≤ l.length ∧ cLen l k = k) (fun k => l.length - k) (fun k => [(0, .own b 1 0 l.length), (3, .int .i64 k)]) (fun _ => H) 1 ⟨Nat.le_refl _, by omega, ?_⟩ ?_ rfl ?_
 ·cases l with
  | nil => simp at h2
  | cons x l => simp [cLen, comp, cmpF]
 ·simp (disch := omega) only [go_sem, simprocAttr, Sl]
 rintro k t ⟨hk1, hk2, hk3⟩ ht K hK
 simp (disch := omega) only [go_sem, simprocAttr, Sl] at ht
 by_cases hlt : k < l.length
 ·obtain ⟨v, hv⟩ := ac4 hlt
  obtain ⟨u, hu⟩ := ac4 (l := l) (i := k - 1) (by omega)
  have hlen := ab4 l
  have hvE := av5 hv
  have huE := av5 hu
  have hkk : (k : Int) - 1 = ((k - 1 : Nat) : Int) := by omega
  by_cases e : v = u
  ·subst e
   have he : (v == v) = true := by simp
   have hc1 := (by2 (by omega) hu hv).2
   rw [hk3] at hc1
   have hr1 := (by2 (by omega) hu hv).1
   have hr0 : rowC l k = l := by
    unfold rowC
    rw [cq4 (by omega) hk3, List.length_take, Nat.min_eq_left (by omega)]
    exact List.take_append_drop k l
   rw [hr0] at hr1
   clear hK hk3 hr0
   repeat' first | (simp (disch := first | omega | assumption) only [go_sem, simprocAttr, *]) | refine aa0 (fun hb=>?_) fun hb=>?_ | refine aa1 (fun hb=>?_) fun hb=>?_
   all_goals (try simp only [FX] at *)
   all_goals first | omega | skip
   refine ak0 (ι := Nat) (fun j => 1 ≤ j ∧ k + j ≤ l.length ∧ cLen l (k + j) + 1 ≤ k + j ∧ 1 ≤ cLen l (k + j)) (fun j => l.length - j) (fun j => [(0, .own b 1 0 l.length), (3, .int .i64 (cLen l (k + j))), (4, .own b 1 k (l.length - k)), (5, .int .i64 j)])
    (fun j => H.set b (some (.row 1 (aa9 (rowC l (k + j)))))) 1 ⟨Nat.le_refl _, by omega, by rw [hc1]; omega, by rw [hc1]; omega⟩ ?_ (by rw [hr1, hself]) ?_
   ·simp (disch := omega) only [go_sem, simprocAttr, Sl, hc1, ht, and_self]
   clear ht hr1 hc1 he hvE huE hu hv v
   rintro j t ⟨hj1, hj2, hj3, hj4⟩ ht K hK
   simp (disch := omega) only [go_sem, simprocAttr, Sl] at ht
   have hlenR : (aa9 (rowC l (k + j))).length = l.length := by rw [ab4, cz5 hj2]
   have hgb : (H.set b (some (EB.row 1 (aa9 (rowC l (k + j))))))[b]? = some (some (.row 1 (aa9 (rowC l (k + j))))) := List.getElem?_set_self hbl
   have hss : ∀ x y : Option EB, (H.set b x).set b y = H.set b y := fun x y => List.set_set ..
   have hix : k + ((j : Int) - 1).toNat = k + j - 1 := by omega
   by_cases hjl : k + j < l.length
   ·obtain ⟨v, hv⟩ := ac4 hjl
    obtain ⟨u, hu⟩ := ac4 (l := l) (i := k + j - 1) (by omega)
    have hvE := av5 ((cz6 (l := l) (n := k + j) (i := k + j) (by omega)).trans hv)
    have huE := av5 ((cz6 (l := l) (n := k + j) (i := k + j - 1) (by omega)).trans hu)
    by_cases e : v = u
    ·subst e
     obtain ⟨e1, e2⟩ := by2 (by omega) hu hv
     have go := hK (j + 1)
     rw [show k + (j + 1) = k + j + 1 by omega, e1, e2] at go
     have he : (v != v) = false := by simp
     show @Hd E ⟨_⟩ ⟨_⟩ ⟨H.set b (some (.row 1 (aa9 (rowC l (k + j)))))⟩ ⟨_⟩
     clear hK hself e1 e2
     repeat' first | (simp (disch := first | omega | assumption) only [go_sem, simprocAttr, *]) | refine aa0 (fun hb=>?_) fun hb=>?_ | refine aa1 (fun hb=>?_) fun hb=>?_
     all_goals (try simp only [FX] at *)
     all_goals first | omega | skip
     refine go _ _ ⟨by omega, by omega, by omega, by omega⟩ (by omega) ?_ rfl
     simp (disch := omega) only [go_sem, simprocAttr, Sl, ht, and_self, ac8]
    ·obtain ⟨e1, e2⟩ := cl9 (by omega) hu hv e
     have hst : (aa9 (rowC l (k + j))).set (cLen l (k + j)) (.int .i64 v) = aa9 (rowC l (k + j + 1)) := by
      rw [← e1]
      unfold aa9
      rw [List.map_set]
     have go := hK (j + 1)
     rw [show k + (j + 1) = k + j + 1 by omega, e2] at go
     have he : (v != u) = true := by simpa using e
     have hcl : cLen l (k + j) < l.length := by omega
     obtain ⟨z, hz⟩ := ac4 (l := rowC l (k + j)) (i := cLen l (k + j)) (by rw [cz5 hj2]; omega)
     replace hz := av5 hz
     show @Hd E ⟨_⟩ ⟨_⟩ ⟨H.set b (some (.row 1 (aa9 (rowC l (k + j)))))⟩ ⟨_⟩
     clear hK hself e1 e2
     repeat' first | (simp (disch := first | omega | assumption) only [go_sem, simprocAttr, *]) | refine aa0 (fun hb=>?_) fun hb=>?_ | refine aa1 (fun hb=>?_) fun hb=>?_
     all_goals (try simp only [FX] at *)
     all_goals first | omega | skip
     refine go _ _ ⟨by omega, by omega, by omega, by omega⟩ (by omega) ?_ (by rw [← hst])
     simp (disch := omega) only [go_sem, simprocAttr, Sl, ht, and_self, ac8]
   ·have hjk : k + j = l.length := by omega
    have hcl : comp (l.take l.length) = comp l := by rw [List.take_length]
    rw [hjk] at ht hgb hlenR hj4 hj3 ⊢
    clear hK hself
    unfold cLen at ht hj3 hj4
    rw [hcl] at ht hj3 hj4
    have hclr : ∃ r : List EV, bo6 1 (.int .i64 0) (.own b 1 (comp l).length (l.length - (comp l).length)) (H.set b (some (EB.row 1 (aa9 (rowC l l.length))))) = some (H.set b (some (.row 1 r))) ∧ r.take (comp l).length = aa9 (comp l) ∧ (comp l).length ≤ r.length := by
     refine ⟨(aa9 (rowC l l.length)).take (comp l).length ++ List.replicate (l.length - (comp l).length) (.int .i64 0) ++ (aa9 (rowC l l.length)).drop ((comp l).length + (l.length - (comp l).length)), ?_, ?_, ?_⟩
     ·unfold bo6
      simp only [hgb]
      rw [if_neg (by omega), if_pos ⟨trivial, trivial, by rw [hlenR]; omega⟩, hss]
     ·have hrl : aa9 (rowC l l.length) = aa9 (comp l) ++ aa9 (l.drop (comp l).length) := by unfold rowC; rw [hcl, br2]
      rw [hrl, List.append_assoc, List.take_append_of_le_length (by rw [List.length_take, List.length_append, ab4]; omega), List.take_take, Nat.min_self, List.take_append_of_le_length (by rw [ab4]; omega), List.take_of_length_le (by rw [ab4]; omega)]
     ·simp only [List.length_append, List.length_take, List.length_replicate, List.length_drop, hlenR]
      omega
    obtain ⟨r, hclr, hr1, hr2⟩ := hclr
    show @Hd E ⟨_⟩ ⟨_⟩ ⟨H.set b (some (.row 1 (aa9 (rowC l l.length))))⟩ ⟨_⟩
    repeat' first | (simp (disch := first | omega | assumption) only [go_sem, simprocAttr, *]) | refine aa0 (fun hb=>?_) fun hb=>?_ | refine aa1 (fun hb=>?_) fun hb=>?_
    all_goals (try simp only [FX] at *)
    all_goals first | omega | skip
    rw [Nat.sub_zero]
    exact ⟨_, co5 (hok _) (by simp) rfl, r, rfl, hr1, hr2⟩
  ·have hc2 : cLen l (k + 1) = k + 1 := by rw [(cl9 (by omega) hu hv e).2, hk3]
   have go := fun s' H' => hK (k + 1) s' H' ⟨by omega, by omega, hc2⟩ (by omega)
   have he : (v == u) = false := by simpa using e
   clear hK hself hc2
   repeat' first | (simp (disch := first | omega | assumption) only [go_sem, simprocAttr, *]) | refine aa0 (fun hb=>?_) fun hb=>?_ | refine aa1 (fun hb=>?_) fun hb=>?_
   all_goals (try simp only [FX] at *)
   all_goals first | omega | skip
   refine go _ _ ?_ rfl
   simp (disch := omega) only [go_sem, simprocAttr, Sl, ht, and_self, ac8]
 ·have hkl : k = l.length := by omega
  have hc : comp l = l := by
   have := cq4 (l := l) (n := l.length) (Nat.le_refl _) (by rw [← hkl]; exact hk3)
   rwa [List.take_length] at this
  have hsm := hsame hc (ER.ret (.own b 1 0 l.length), H) rfl
  clear hK hself hsame
  repeat' first | (simp (disch := first | omega | assumption) only [go_sem, simprocAttr, *]) | refine aa0 (fun hb=>?_) fun hb=>?_ | refine aa1 (fun hb=>?_) fun hb=>?_
  all_goals (try simp only [FX] at *)
  all_goals first | omega | skip
  exact ⟨_, ac5 (hok _) rfl, by rwa [hc] at hsm⟩
end
structure ba3 (E : Env) (f : FuncId) : Prop where
 row : ∀ (H : Heap) (k : Nat) (l : List Int), H[k]? = some (some (.row 1 (aa9 l))) → l.length ≤ 1000000 → den E f [.own k 1 0 l.length] H = some (.ret (.tup []), H.set k (some (.row 1 (aa9 (srt l)))))
 nil : ∀ H : Heap, den E f [.nilsl] H = some (.ret (.tup []), H)
def outV (l : List Int) : EV := if l = [] then .nilsl else .imm 1 (aa9 l)
theorem do2 {l : List Int} (hl : l.length ≤ 1000000) : am3 (outV l) l := by
 unfold outV
 split
 ·rename_i h; subst h; exact .nil
 ·exact bn0 (by omega)
section
variable {E : Env} [R : bt9 E]
theorem dr3 (y : EV) (lb : List Int) (hy : am3 y lb) (hl : lb.length ≤ 1000000) (hs : lb.Pairwise (· < ·)) (v : Int) (j : Nat) (H : Heap) (hj : H[j]? = some (some (.row 1 [y]))) :
  den E R.ai2 [.int .i64 v, .ptr j 1 0 0] H = some (.ret (.bool (decide (v ∈ lb))), H) := by
 obtain ⟨cy, oy⟩ := hy.one
 obtain ⟨p, hp⟩ := cy1 (E := E) y lb hy hl hs v H
 refine af6 R.aw1 (by simp) ?_
 unfold Gn.ao9 Gn.al2
 unfold EV.one at oy
 unfold EV.cells at cy
 generalize decide (v ∈ lb) = d at hp ⊢
 repeat' first | (simp (disch := first | omega | assumption) only [go_sem, simprocAttr, *]) | refine aa0 (fun hb=>?_) fun hb=>?_ | refine aa1 (fun hb=>?_) fun hb=>?_
 all_goals (try simp only [FX] at *)
 exact ac5 rfl rfl
theorem ed8 (x y : EV) (la lb : List Int) (hx : am3 x la) (hy : am3 y lb) (hla : la.length ≤ 1000000) (hl : lb.length ≤ 1000000) (hs : lb.Pairwise (· < ·)) :
  ∃ z, (∀ H, den E R.aj3 [x, y] H = some (.ret z, H)) ∧ am3 z (la.filter fun v => !decide (v ∈ lb)) := by
 obtain ⟨cx, ox⟩ := hx.one
 obtain ⟨cy, oy⟩ := hy.one
 by_cases hne : la = []
 ·subst hne
  obtain ⟨z, hcl, hz⟩ := di8 (E := E) x hx
  refine ⟨z, fun H => ?_, by rcases hz with rfl | rfl; exact .nil; exact .zsl⟩
  have hd := cx2 (E := E) z hz
  have hyo : z.ok H.length = true := by rcases hz with rfl | rfl <;> rfl
  refine af6 R.aw2 (by simp) ?_
  unfold Gn.ar0 Gn.am9
  unfold EV.one at ox oy
  unfold EV.cells at cx cy
  clear hz
  repeat' first | (simp (disch := first | omega | assumption) only [go_sem, simprocAttr, *]) | refine aa0 (fun hb=>?_) fun hb=>?_ | refine aa1 (fun hb=>?_) fun hb=>?_
  all_goals (try simp only [FX] at *)
  exact aa4 hyo rfl
 ·refine ⟨.imm 1 (aa9 (la.filter fun v => !decide (v ∈ lb))), fun H => ?_, bn0 (by have := List.length_filter_le (fun v => !decide (v ∈ lb)) la; omega)⟩
  let H2 : Heap := H ++ [some (.row 1 [y])]
  have hcl := cg3 (E := E) x la H2 (hx.arg H2) hla
  rcases hcl with ⟨h0, _⟩ | ⟨_, hcl⟩
  ·exact absurd h0 hne
  let q : Int → Bool := fun v => !decide (v ∈ lb)
  let H3 : Heap := H2 ++ [some (.row 1 (aa9 la))]
  have hb3 : H3[H.length + 1]? = some (some (.row 1 (aa9 la))) := by
   simp only [H3, H2]
   rw [List.getElem?_append_right (by simp)]
   simp
  have hlen3 : H2.length = H.length + 1 := by simp [H2]
  have hset : ∀ r, H3.set (H.length + 1) (some (.row 1 r)) = H2 ++ [some (.row 1 r)] := fun r => by
   simp only [H3]
   rw [List.set_append_right _ _ (by omega), hlen3]
   simp
  have hdel := cx3 (E := E) (.func (.func R.ai2) [] [.ptr H.length 1 0 0]) (fun v => !q v) (H.length + 1) la H3 hb3 (fun r v hv => by
   rw [hset]
   have := dr3 (E := E) y lb hy hl hs v H.length (H2 ++ [some (.row 1 r)]) (by simp [H2])
   simpa [eg5, q] using this) (by omega)
  have hnot : (fun v => !(fun v => !q v) v) = q := by funext v; simp
  rw [hnot] at hdel
  rw [hset] at hdel
  rw [hlen3] at hcl
  have hfr : ∃ es, (if idxI (fun v => !q v) la 0 = -1 then la else rowD q la) = es ∧ es.take (la.filter q).length = la.filter q ∧ (la.filter q).length ≤ es.length := by
   by_cases hi : idxI (fun v => !q v) la 0 = -1
   ·rw [if_pos hi]
    have := (br3 (p := fun v => !q v) (l := la) (i := 0)).1 ⟨hi, by omega⟩
    rw [hnot] at this
    exact ⟨la, rfl, by rw [this]; simp, by rw [this]; exact Nat.le_refl _⟩
   ·rw [if_neg hi]
    exact ⟨_, rfl, by unfold rowD; simp, by unfold rowD; simp⟩
  obtain ⟨es, hes, htk, hle⟩ := hfr
  rw [hes] at hdel
  show den E R.aj3 [x, y] H = some (.ret (.imm 1 (aa9 (la.filter q))), H)
  have hfin : finV H (.own (H.length + 1) 1 0 (la.filter q).length) ER.ret (H2 ++ [some (.row 1 (aa9 es))]) = some (.ret (.imm 1 (aa9 (la.filter q))), H) := by
   have hH2 : H2 ++ [some (EB.row 1 (aa9 es))] = H ++ [some (.row 1 [y]), some (.row 1 (aa9 es))] := by simp [H2]
   rw [hH2]
   refine ca3 rfl (v' := .imm 1 (aa9 (la.filter q))) ?_ rfl
   have := co3 (L := H.length) (H := H ++ [some (.row 1 [y]), some (.row 1 (aa9 es))]) (n := 7) (b := H.length + 1) (sz := 1) (off := 0) (len := (la.filter q).length) (es := aa9 es) (by omega) (by rw [List.getElem?_append_right (by omega)]; simp) (by rw [ab4]; omega) (bq4 _ _)
   rw [this]
   simp only [List.drop_zero]
   unfold aa9
   rw [← List.map_take, htk]
  simp only [H2, H3] at hcl hdel hfin
  simp only [List.append_assoc, List.cons_append, List.nil_append] at hcl hdel hfin
  clear hb3 hset hes htk
  refine af6 R.aw2 (by simp) ?_
  unfold Gn.ar0 Gn.am9
  unfold EV.one at ox oy
  unfold EV.cells at cx cy
  clear hnot
  generalize la.filter q = f at hdel hfin ⊢
  repeat' first | (simp (disch := first | omega | assumption) only [go_sem, simprocAttr, *]) | refine aa0 (fun hb=>?_) fun hb=>?_ | refine aa1 (fun hb=>?_) fun hb=>?_
theorem cx4 (H : Heap) : den E R.ad3 [.nilsl] H = some (.ret .nilsl, H) := by
 refine af6 R.ai4 (by simp) ?_
 unfold Gn.af3 Gn.ae2
 repeat' first | (simp (disch := first | omega | assumption) only [go_sem, simprocAttr, *]) | refine aa0 (fun hb=>?_) fun hb=>?_ | refine aa1 (fun hb=>?_) fun hb=>?_
 all_goals (try simp only [FX] at *)
 all_goals first | omega | exact ac5 rfl rfl
theorem dg0 (hS : ba3 E R.ab1) (x y : EV) (la lb : List Int) (hx : am3 x la) (hy : am3 y lb) (hl : la.length + lb.length ≤ 1000000) (H : Heap) :
  den E R.ae7 [x, y] H = some (.ret (outV (comp (srt (la ++ lb)))), H) := by
 obtain ⟨cx, ox⟩ := hx.one
 obtain ⟨cy, oy⟩ := hy.one
 rcases di7 (E := E) x y la lb hx hy hl H with ⟨hz, hc⟩ | ⟨hz, hc⟩
 ·rw [hz]
  show den E R.ae7 [x, y] H = some (.ret (outV (comp (List.mergeSort _ _))), H)
  rw [List.mergeSort_nil]
  show den E R.ae7 [x, y] H = some (.ret .nilsl, H)
  have h1 := hS.nil H
  have h2 := cx4 (E := E) H
  refine af6 R.ar4 (by simp) ?_
  unfold Gn.am8 Gn.aj1
  unfold EV.one at ox oy
  unfold EV.cells at cx cy
  repeat' first | (simp (disch := first | omega | assumption) only [go_sem, simprocAttr, *]) | refine aa0 (fun hb=>?_) fun hb=>?_ | refine aa1 (fun hb=>?_) fun hb=>?_
  all_goals (try simp only [FX] at *)
  exact ac5 rfl rfl
 ·have hm0 : comp (srt (la ++ lb)) ≠ [] := fun h => by
   have h1 := dl7 (la ++ lb)
   have h2 := List.length_pos_iff.2 hz
   cases hq : srt (la ++ lb) with
   | nil => rw [hq, List.length_nil] at h1; omega
   | cons v r => rw [hq] at h; simp [comp] at h
  clear hz
  have hl2 : (la ++ lb).length ≤ 1000000 := by rw [List.length_append]; omega
  generalize la ++ lb = l at hc hl2 hm0 ⊢
  have hls := dl7 l
  have h1 := hS.row (H ++ [none, none, some (.row 1 (aa9 l))]) (H.length + 2) l (by rw [List.getElem?_append_right (by omega), Nat.add_sub_cancel_left]; rfl) (by omega)
  rw [List.set_append_right _ _ (by omega), Nat.add_sub_cancel_left] at h1
  simp only [List.set_cons_succ, List.set_cons_zero] at h1
  have h2 := cx5 (E := E) (H.length + 2) (srt l) (H ++ [none, none, some (.row 1 (aa9 (srt l)))]) (by rw [List.getElem?_append_right (by omega), Nat.add_sub_cancel_left]; rfl) (by omega)
  obtain ⟨r, h2, hr1, hr2⟩ := h2
  rw [hls, List.set_append_right _ _ (by omega), Nat.add_sub_cancel_left] at h2
  simp only [List.set_cons_succ, List.set_cons_zero] at h2
  have hle := dw8 (srt l)
  generalize comp (srt l) = m at h2 hr1 hr2 hle hm0 ⊢
  rw [show outV m = .imm 1 (aa9 m) by unfold outV; rw [if_neg hm0]]
  clear hm0
  have hfz : Abs.fz H.length (H ++ [none, none, some (.row 1 r)]) 8 (.own (H.length + 2) 1 0 m.length) = some (.imm 1 (aa9 m)) := by
   unfold Abs.fz
   rw [if_neg (by simp [EV.ok])]
   have hg : (H ++ [none, none, some (EB.row 1 r)])[H.length + 2]? = some (some (.row 1 r)) := by rw [List.getElem?_append_right (by omega), Nat.add_sub_cancel_left]; rfl
   simp only [hg, if_pos (Nat.le_add_right _ _)]
   rw [if_pos ⟨trivial, by omega⟩, List.drop_zero, hr1, bq8 fun x hx => by
    obtain ⟨v, _, rfl⟩ := List.mem_map.1 hx
    exact bf6 rfl]
   rfl
  refine af6 R.ar4 (by simp) ?_
  unfold Gn.am8 Gn.aj1
  unfold EV.one at ox oy
  unfold EV.cells at cx cy
  clear hr1 hr2
  repeat' first | (simp (disch := first | omega | assumption) only [go_sem, simprocAttr, *]) | refine aa0 (fun hb=>?_) fun hb=>?_ | refine aa1 (fun hb=>?_) fun hb=>?_
  all_goals (try simp only [FX] at *)
  exact ca3 rfl hfz rfl
end
def outX (D : Nat) (l : List Int) : EV := if l = [] then .nilsl else .own (D + (l.length - 1)) 1 0 l.length
def outG (l : List Int) : Heap := if l = [] then [] else List.replicate (l.length - 1) none ++ [some (.row 1 (aa9 l))]
theorem da4 (D : Nat) (l : List Int) : (outX D l).one = true ∧ (outX D l).cells = [outX D l] := by
 unfold outX
 split <;> exact ⟨rfl, rfl⟩
theorem da5 {P : Heap} {D : Nat} (hP : P.length = D) {l : List Int} (h : l ≠ []) : (P ++ outG l)[D + (l.length - 1)]? = some (some (.row 1 (aa9 l))) := by
 unfold outG
 rw [if_neg h, List.getElem?_append_right (by omega), hP, Nat.add_sub_cancel_left, List.getElem?_append_right (by rw [List.length_replicate]; exact Nat.le_refl _), List.length_replicate, Nat.sub_self]
 rfl
theorem de5 {P : Heap} {D : Nat} (hP : P.length = D) {l : List Int} (hl : l.length ≤ 1000000) (v : Int) : ab7 1 8 (outX D l) (.imm 1 [.int .i64 v]) (P ++ outG l) = some (outX D (l ++ [v]), P ++ outG (l ++ [v])) := by
 have hne : l ++ [v] ≠ [] := by simp
 by_cases h : l = []
 ·subst h
  unfold ab7
  simp [outX, outG, bh7, EV.cells, EV.one, aa9, hP]
 ·have hg := da5 hP h
  have hlp := List.length_pos_iff.2 h
  have e1 : outX D l = .own (D + (l.length - 1)) 1 0 l.length := by unfold outX; rw [if_neg h]
  rw [e1]
  unfold ab7
  simp only [bh7, hg]
  have hall : ([EV.int .i64 v].all fun e => e.cells.length == 1 && e.cells.all EV.one) = true := rfl
  rw [if_pos ⟨by omega, hall⟩, if_pos ⟨trivial, trivial, trivial, by rw [ab4]; exact Nat.le_refl _, by simp; omega, by simp; omega⟩]
  have hGl : (outG l).length = l.length := by unfold outG; rw [if_neg h]; simp; omega
  have e2 : (outG l).set (l.length - 1) none = List.replicate l.length none := by
   unfold outG
   rw [if_neg h, List.set_append_right _ _ (by rw [List.length_replicate]; exact Nat.le_refl _), List.length_replicate, Nat.sub_self, List.set_cons_zero]
   have : List.replicate l.length (none : Option EB) = List.replicate (l.length - 1 + 1) none := by rw [show l.length - 1 + 1 = l.length by omega]
   rw [this, List.replicate_succ']
  have e3 : aa9 l ++ [EV.int .i64 v] = aa9 (l ++ [v]) := by simp [aa9]
  rw [List.set_append_right _ _ (by omega), hP, Nat.add_sub_cancel_left, e2, List.length_append, hP, hGl, List.take_of_length_le (by rw [ab4]; exact Nat.le_refl _), e3]
  unfold outX outG
  rw [if_neg hne, if_neg hne]
  simp only [List.length_append, List.length_cons, List.length_nil, Nat.zero_add, Nat.add_sub_cancel, List.append_assoc]
theorem er8 {P : Heap} {L D : Nat} (hP : P.length = D) (hL : L ≤ D) (l : List Int) : Abs.fz L (P ++ outG l) 8 (outX D l) = some (outV l) := by
 unfold outX outV
 by_cases h : l = []
 ·rw [if_pos h, if_pos h]; exact bf6 rfl
 ·rw [if_neg h, if_neg h, co3 (es := aa9 l) (by omega) (da5 hP h) (by rw [ab4]; omega) (bq4 _ _)]
  simp only [List.drop_zero]
  rw [List.take_of_length_le (by rw [ab4]; exact Nat.le_refl _)]
def opB (w : Nat → Nat) (n : Nat) (l : List Int) : Bool := l.any (fun p => decide (p = n)) && !zset w
theorem cy8 (w : Nat → Nat) : eqL [.int .u64 (w 0 : Nat), .int .u64 (w 1 : Nat), .int .u64 (w 2 : Nat), .int .u64 (w 3 : Nat)] (tab 4 fun _ => .int .u64 0) = zset w := by
 rw [show (tab 4 fun _ => EV.int .u64 0) = [.int .u64 0, .int .u64 0, .int .u64 0, .int .u64 0] from rfl]
 rw [Bool.eq_iff_iff]
 simp [eqL, sceq, zset]
section
variable {E : Env} [R : bt9 E]
set_option maxHeartbeats 2000000 in
theorem eg6 (hH : bs5 E R.ak5 .u8) (w : Nat → Nat) (hw : bp1 w) (s : List UInt8) (hs : s.length ≤ 100000) (x : EV) (l : List Int) (hx : am3 x l) (hl : l.length ≤ 100001) (hp : ∀ p ∈ l, 0 ≤ p ∧ p ≤ s.length) (k : Nat) (o : Bool) (H : Heap)
  (hk : H[k]? = some (some (.row 2 [.agg [.str s, .bool o]]))) :
  den E R.ao4 [.ptr k 2 0 0, .agg [.int .u64 (w 0 : Nat), .int .u64 (w 1 : Nat), .int .u64 (w 2 : Nat), .int .u64 (w 3 : Nat)], x] H =
   some (.ret (outV (l.filterMap (bf1 w s))), H.set k (some (.row 2 [.agg [.str s, .bool (o || opB w s.length l)]]))) := by
 have hkl := aa3 hk
 have hself : H.set k (some (.row 2 [.agg [.str s, .bool o]])) = H := by
  apply List.ext_getElem?
  intro j
  by_cases hj : k = j
  ·subst hj; rw [List.getElem?_set_self hkl, hk]
  ·rw [List.getElem?_set_ne hj]
 have lx := hx.lenI
 obtain ⟨cx, ox⟩ := hx.one
 have hHas : ∀ (b : Nat) (H : Heap), b < 256 → den E R.ak5 [.agg [.int .u64 (w 0 : Nat), .int .u64 (w 1 : Nat), .int .u64 (w 2 : Nat), .int .u64 (w 3 : Nat)], .int .u8 b] H = some (.ret (.bool (bf5 w b)), H) := fun b H hb => hH w b H hw hb
 have g1 : ∀ (b : Option EB) (G : Heap), (H.set k b ++ G)[k]? = some b := fun b G => by rw [List.getElem?_append_left (by simpa using hkl), List.getElem?_set_self hkl]
 have s1 : ∀ (b c : Option EB) (G : Heap), (H.set k b ++ G).set k c = H.set k c ++ G := fun b c G => by rw [List.set_append_left _ _ (by simpa using hkl), List.set_set]
 have a1 : ∀ (b c : Option EB) (G : Heap), (H.set k b ++ c :: G)[H.length]? = some c := fun b c G => by rw [List.getElem?_append_right (by simp)]; simp
 refine af6 R.ba1 (by simp) ?_
 unfold Gn.as2 Gn.ao8
 unfold EV.one at ox
 unfold EV.cells at cx
 repeat' first | (simp (disch := first | omega | assumption) only [go_sem, simprocAttr, *]) | refine aa0 (fun hb=>?_) fun hb=>?_ | refine aa1 (fun hb=>?_) fun hb=>?_
 all_goals (try simp only [FX] at *)
 refine ak0 (ι := Nat) (fun i => i ≤ l.length) (fun i => l.length - i) (fun i => [(0, .ptr k 2 0 0), (4, .ptr H.length 4 0 0), (7, outX (H.length + 1) ((l.take i).filterMap (bf1 w s))), (10, x), (11, .int .i64 l.length), (12, .int .i64 i)])
  (fun i => H.set k (some (.row 2 [.agg [.str s, .bool (o || opB w s.length (l.take i))]])) ++ some (.row 4 [.agg [.int .u64 (w 0 : Nat), .int .u64 (w 1 : Nat), .int .u64 (w 2 : Nat), .int .u64 (w 3 : Nat)]]) :: outG ((l.take i).filterMap (bf1 w s))) 0 (by omega) ?_ ?_ ?_
 ·simp (disch := omega) only [go_sem, simprocAttr, Sl, List.take_zero, List.filterMap_nil, outX, if_true]
 ·simp [opB, outG, hself]
 clear hself hk
 rintro i t hi ht K hK
 simp (disch := omega) only [go_sem, simprocAttr, Sl] at ht
 by_cases hlt : i < l.length
 ·obtain ⟨p, hpi⟩ := ac4 hlt
  have hat := hx.at hpi
  obtain ⟨h0, h1⟩ := hp p (List.mem_of_getElem? hpi)
  have htk : l.take (i + 1) = l.take i ++ [p] := by rw [List.take_add_one, hpi]; rfl
  have hop : opB w s.length (l.take (i + 1)) = (opB w s.length (l.take i) || decide (p = s.length) && !zset w) := by
   unfold opB
   rw [htk, List.any_append]
   simp only [List.any_cons, List.any_nil, Bool.or_false]
   cases (l.take i).any fun p => decide (p = (s.length : Int)) <;> cases decide (p = (s.length : Int)) <;> cases zset w <;> rfl
  have hfm : (l.take (i + 1)).filterMap (bf1 w s) = (l.take i).filterMap (bf1 w s) ++ (match bf1 w s p with | some v => [v] | none => []) := by
   rw [htk, List.filterMap_append]
   cases h : bf1 w s p <;> simp [h]
  have hflen : ((l.take i).filterMap (bf1 w s)).length ≤ 1000000 := by
   have := List.length_filterMap_le (bf1 w s) (l.take i)
   rw [List.length_take] at this
   omega
  have go := fun s' H' => hK (i + 1) s' H' (by omega) (by omega)
  rw [hop, hfm] at go
  clear hK hop hfm htk
  generalize opB w s.length (l.take i) = q at go ⊢
  generalize (l.take i).filterMap (bf1 w s) = out at ht hflen go ⊢
  obtain ⟨oo, oc⟩ := da4 (H.length + 1) out
  unfold EV.one at oo
  unfold EV.cells at oc
  by_cases he : p = s.length
  ·have hst : bf1 w s p = none := by unfold bf1; rw [if_neg (fun h => by omega)]
   rw [hst] at go
   simp only [List.append_nil, he, decide_true, Bool.true_and] at go
   have hpe : (p == (s.length : Int)) = true := by rw [he]; simp
   cases hoq : (o || q) with
   | true =>
    rw [← Bool.or_assoc, hoq, Bool.true_or] at go
    repeat' first | (simp (disch := first | omega | assumption) only [go_sem, simprocAttr, *]) | refine aa0 (fun hb=>?_) fun hb=>?_ | refine aa1 (fun hb=>?_) fun hb=>?_
    all_goals (try simp only [FX] at *)
    all_goals first | omega | skip
    refine go _ _ ?_ rfl
    simp (disch := omega) only [go_sem, simprocAttr, Sl, ht, and_self, ac8]
   | false =>
    obtain ⟨rfl, rfl⟩ : o = false ∧ q = false := by simpa using hoq
    simp only [Bool.false_or] at go
    repeat' first | (simp (disch := first | omega | assumption) only [go_sem, simprocAttr, *]) | refine aa0 (fun hb=>?_) fun hb=>?_ | refine aa1 (fun hb=>?_) fun hb=>?_
    all_goals (try simp only [FX] at *)
    all_goals first | omega | skip
    refine go _ _ ?_ (by rw [cy8])
    simp (disch := omega) only [go_sem, simprocAttr, Sl, ht, and_self, ac8]
  ·have hst : bf1 w s p = if bf5 w (s.getD p.toNat 0).toNat = true then some (p + 1) else none := by
    unfold bf1
    by_cases hc : bf5 w (s.getD p.toNat 0).toNat = true
    ·rw [if_pos ⟨by omega, hc⟩, if_pos hc]
    ·rw [if_neg (fun h => hc h.2), if_neg hc]
   obtain ⟨b, hb⟩ := ac4 (l := s) (i := p.toNat) (by omega)
   rw [List.getD_eq_getElem?_getD, hb, Option.getD_some] at hst
   have hbl : b.toNat < 256 := b.toNat_lt
   have hpe : (p == (s.length : Int)) = false := by simpa using he
   have hdp : decide (p = (s.length : Int)) = false := decide_eq_false he
   rw [hdp, Bool.false_and, Bool.or_false] at go
   have hHb := fun H => hHas b.toNat H hbl
   cases hc : bf5 w b.toNat with
   | true =>
    rw [hc] at hHb
    rw [hst, if_pos hc] at go
    simp only at go
    have happ := fun (b : Option EB) (c : EB) => de5 (P := H.set k b ++ [some c]) (D := H.length + 1) (by simp) hflen (p + 1)
    simp only [List.append_assoc, List.cons_append, List.nil_append] at happ
    clear hHas hst hc
    repeat' first | (simp (disch := first | omega | assumption) only [go_sem, simprocAttr, *]) | refine aa0 (fun hb=>?_) fun hb=>?_ | refine aa1 (fun hb=>?_) fun hb=>?_
    all_goals (try simp only [FX] at *)
    all_goals first | omega | skip
    refine go _ _ ?_ rfl
    simp (disch := omega) only [go_sem, simprocAttr, Sl, ht, and_self, ac8]
   | false =>
    rw [hc] at hHb
    rw [hst, hc, if_neg (by simp)] at go
    simp only [List.append_nil] at go
    clear hHas hst hc
    repeat' first | (simp (disch := first | omega | assumption) only [go_sem, simprocAttr, *]) | refine aa0 (fun hb=>?_) fun hb=>?_ | refine aa1 (fun hb=>?_) fun hb=>?_
    all_goals (try simp only [FX] at *)
    all_goals first | omega | skip
    refine go _ _ ?_ rfl
    simp (disch := omega) only [go_sem, simprocAttr, Sl, ht, and_self, ac8]
 ·have hie : i = l.length := by omega
  subst hie
  rw [List.take_length] at ht ⊢
  clear hK
  have hfz := fun (b : Option EB) (c : EB) => er8 (P := H.set k b ++ [some c]) (L := H.length) (D := H.length + 1) (by simp) (by omega) (l.filterMap (bf1 w s))
  simp only [List.append_assoc, List.cons_append, List.nil_append] at hfz
  generalize l.filterMap (bf1 w s) = out at ht hfz ⊢
  obtain ⟨oo, oc⟩ := da4 (H.length + 1) out
  unfold EV.one at oo
  unfold EV.cells at oc
  repeat' first | (simp (disch := first | omega | assumption) only [go_sem, simprocAttr, *]) | refine aa0 (fun hb=>?_) fun hb=>?_ | refine aa1 (fun hb=>?_) fun hb=>?_
  all_goals (try simp only [FX] at *)
  all_goals first | omega | skip
  exact be4 (by unfold outX; split <;> rfl) (hfz _ _) rfl rfl
end
def rnd (f : List Bool → List Bool) (a : List Bool) : Nat → List Bool × List Bool
 | 0 => (a, a)
 | k + 1 => (orL (rnd f a k).1 (av4 (f (rnd f a k).2) (rnd f a k).1), av4 (f (rnd f a k).2) (rnd f a k).1)
section
variable {m : Nat} {f : List Bool → List Bool} (hf : Lin m f) {a : List Bool} (ha : a.length = m)
include hf ha
theorem bf2 : ∀ k, (rnd f a k).1.length = m ∧ (rnd f a k).2.length = m ∧ Sub (rnd f a k).2 (rnd f a k).1 ∧ Sub (f (rnd f a k).1) (orL (rnd f a k).1 (f (rnd f a k).2)) ∧ (rnd f a k).1 = sumN f a k
 | 0 => ⟨ha, ha, fun _ h => h, fun i h => by
  have := hf.len a ha
  show (orL a (f a)).getD i false = true
  rw [af1 (by omega)]
  have h' : (f a).getD i false = true := h
  rw [h', Bool.or_true], rfl⟩
 | k + 1 => by
  obtain ⟨h1, h2, h3, h4, h5⟩ := bf2 k
  have l1 := hf.len _ h2
  have l2 : (av4 (f (rnd f a k).2) (rnd f a k).1).length = m := by rw [az1 (by omega), l1]
  have hn := dd3 hf h1 h2 h3 h4
  refine ⟨by show (orL _ _).length = m; rw [ah8 (by omega), h1], l2, fun i h => ?_, hn, ?_⟩
  ·show (orL _ _).getD i false = true
   rw [af1 (by omega)]
   have h' : (av4 (f (rnd f a k).2) (rnd f a k).1).getD i false = true := h
   rw [h', Bool.or_true]
  ·show orL _ _ = orL (sumN f a k) (f (sumN f a k))
   rw [cm0 hf h1 h2 h3 h4, h5]
theorem cz7 {j : Nat} (h : cntT (rnd f a j).2 = 0) : Sub (f (sumN f a j)) (sumN f a j) ∧ ∀ i, cntT (rnd f a (j + i)).2 = 0 := by
 have key : ∀ i, (rnd f a (j + i)).2 = falses m := by
  intro i
  induction i with
  | zero =>
   have := bs0 h
   rw [(bf2 hf ha j).2.1] at this
   exact this
  | succ i ih =>
   show av4 (f (rnd f a (j + i)).2) (rnd f a (j + i)).1 = falses m
   rw [ih, hf.no]
   have l := (bf2 hf ha (j + i)).1
   refine ay5 (by rw [az1 (by rw [aj2]; omega)]) fun i => ?_
   rw [bc4 (by rw [aj2]; omega), an5]; rfl
 obtain ⟨h1, h2, h3, h4, h5⟩ := bf2 hf ha j
 have hk := key 0
 rw [Nat.add_zero] at hk
 rw [hk, hf.no, h5] at h4
 rw [h5] at h1
 refine ⟨fun i hi => ?_, fun i => ?_⟩
 ·have := h4 i hi
  rw [af1 (by rw [aj2]; omega), an5, Bool.or_false] at this
  exact this
 ·rw [key i]
  unfold cntT
  rw [List.countP_eq_zero]
  intro b hb
  rw [falses, List.mem_replicate] at hb
  simp [hb.2]
theorem dd7 : ∃ k, k ≤ m + 1 ∧ cntT (rnd f a k).2 = 0 := by
 obtain ⟨k, hk, hc⟩ := bx5 hf ha
 refine ⟨k + 1, by omega, ?_⟩
 obtain ⟨h1, h2, h3, h4, h5⟩ := bf2 hf ha k
 have e : av4 (f (rnd f a k).2) (rnd f a k).1 = falses m := by
  have l1 := hf.len _ h2
  refine ay5 (by rw [az1 (by omega), aj2]; omega) fun i => ?_
  rw [bc4 (by omega), an5]
  cases hq : (f (rnd f a k).2).getD i false with
  | false => rfl
  | true =>
   have hor := hf.or _ _ h1 h2
   rw [Sub.or (by omega) h3] at hor
   have l2 := hf.len _ h1
   have : (f (rnd f a k).1).getD i false = true := by
    rw [hor, af1 (by omega), hq, Bool.or_true]
   rw [h5] at this ⊢
   rw [hc i this]; rfl
 show cntT (av4 _ _) = 0
 rw [e]
 unfold cntT
 rw [List.countP_eq_zero]
 intro b hb
 rw [falses, List.mem_replicate] at hb
 simp [hb.2]
theorem eb4 {j M : Nat} (h : (cntT (rnd f a j).2 = 0 ∧ (j ≤ M ∨ m ≤ M)) ∨ j = M) : (rnd f a j).1 = sumN f a M := by
 rw [(bf2 hf ha j).2.2.2.2]
 rcases h with ⟨h, hM⟩ | rfl
 ·have hs := (cz7 hf ha h).1
  by_cases hj : j ≤ M
  ·have := bp4 hf ha hs (M - j)
   rw [show j + (M - j) = M by omega] at this
   exact this.symm
  ·have hM' : m ≤ M := by omega
   obtain ⟨k, hk, hc⟩ := bx5 hf ha
   have h1 := bp4 hf ha hc (j - k)
   have h2 := bp4 hf ha hc (M - k)
   rw [show k + (j - k) = j by omega] at h1
   rw [show k + (M - k) = M by omega] at h2
   rw [h1, h2]
 ·rfl
theorem eb3 {j : Nat} (h : cntT (rnd f a j).2 ≠ 0) :
  2 * (m - cntT (rnd f a (j + 1)).1) + (if cntT (rnd f a (j + 1)).2 = 0 then 0 else 1) < 2 * (m - cntT (rnd f a j).1) + (if cntT (rnd f a j).2 = 0 then 0 else 1) := by
 obtain ⟨h1, h2, _, _, _⟩ := bf2 hf ha j
 obtain ⟨h1', h2', _, _, _⟩ := bf2 hf ha (j + 1)
 have l1 := hf.len _ h2
 have hg : cntT (rnd f a (j + 1)).1 = cntT (rnd f a j).1 + cntT (rnd f a (j + 1)).2 := cb3 (by omega)
 have hle := bd5 (rnd f a (j + 1)).1
 rw [if_neg h]
 split <;> omega
end
def opP (f : List Bool → List Bool) (g : List Bool → Bool) : Nat → List Bool → Bool
 | 0, _ => false
 | n + 1, a => opP f g n a || g (powN f n a)
def opQ (f : List Bool → List Bool) (g : List Bool → Bool) (a : List Bool) : Nat → Bool
 | 0 => false
 | k + 1 => opQ f g a k || g (rnd f a k).2
theorem ec2 {m : Nat} {f : List Bool → List Bool} (hf : Lin m f) {a : List Bool} (ha : a.length = m) {g : List Bool → Bool} (hg : ∀ b, cntT b = 0 → g b = false) {j M : Nat}
  (h : (cntT (rnd f a j).2 = 0 ∧ (j ≤ M ∨ m + 1 ≤ M)) ∨ j = M) : opQ f g a j = opQ f g a M := by
 have key : ∀ j, cntT (rnd f a j).2 = 0 → ∀ i, opQ f g a (j + i) = opQ f g a j := by
  intro j h i
  induction i with
  | zero => rfl
  | succ i ih =>
   show (opQ f g a (j + i) || g (rnd f a (j + i)).2) = _
   rw [ih, hg _ ((cz7 hf ha h).2 i), Bool.or_false]
 rcases h with ⟨h, hM⟩ | rfl
 ·by_cases hj : j ≤ M
  ·have := key j h (M - j)
   rw [show j + (M - j) = M by omega] at this
   exact this.symm
  ·have hM' : m + 1 ≤ M := by omega
   obtain ⟨k, hk, hc⟩ := dd7 hf ha
   have h1 := key k hc (j - k)
   have h2 := key k hc (M - k)
   rw [show k + (j - k) = j by omega] at h1
   rw [show k + (M - k) = M by omega] at h2
   rw [h1, h2]
 ·rfl
mutual
def bf3 (s : List UInt8) : RT → List Bool → Bool
 | .mk k w _ ts lo hi, a => if cntT a = 0 then false else if k = 1 then a.getD s.length false && !zset w else if k = 2 then bv1 s ts a else if k = 3 then bv2 s ts a else if k = 4 then de6 s ts lo hi a else false
def bv1 (s : List UInt8) : List RT → List Bool → Bool
 | [], _ => false
 | t :: ts, a => bf3 s t a || bv1 s ts (aa6 s t a)
def bv2 (s : List UInt8) : List RT → List Bool → Bool
 | [], _ => false
 | t :: ts, a => bf3 s t a || bv2 s ts a
def de6 (s : List UInt8) : List RT → Int → Int → List Bool → Bool
 | [], _, _, _ => false
 | t :: _, lo, hi, a => opP (aa6 s t) (bf3 s t) lo.toNat a || opQ (aa6 s t) (bf3 s t) (powN (aa6 s t) lo.toNat a) (if hi < 0 then s.length + 2 else (hi - lo).toNat)
end
theorem do3 (s : List UInt8) (t : RT) (a : List Bool) (h : cntT a = 0) : bf3 s t a = false := by
 cases t
 simp [bf3, h]
theorem ce3 {s : List UInt8} {t : RT} : ∀ {ts : List RT} {i : Nat} {a : List Bool}, ts[i]? = some t → bv1 s (ts.take (i + 1)) a = (bv1 s (ts.take i) a || bf3 s t (((ts.take i).map (aa6 s)).foldl (fun x f => f x) a))
 | [], i, a, h => by simp at h
 | u :: ts, 0, a, h => by
  simp only [List.getElem?_cons_zero, Option.some.injEq] at h
  subst h
  simp [bv1]
 | u :: ts, i + 1, a, h => by
  have ih := ce3 (s := s) (t := t) (ts := ts) (i := i) (a := aa6 s u a) (by simpa using h)
  simp only [List.take_succ_cons, bv1, ih, List.map_cons, List.foldl_cons, Bool.or_assoc]
theorem ce4 {s : List UInt8} {t : RT} : ∀ {ts : List RT} {i : Nat} {a : List Bool}, ts[i]? = some t → bv2 s (ts.take (i + 1)) a = (bv2 s (ts.take i) a || bf3 s t a)
 | [], i, a, h => by simp at h
 | u :: ts, 0, a, h => by
  simp only [List.getElem?_cons_zero, Option.some.injEq] at h
  subst h
  simp [bv2]
 | u :: ts, i + 1, a, h => by
  have ih := ce4 (s := s) (t := t) (ts := ts) (i := i) (a := a) (by simpa using h)
  simp only [List.take_succ_cons, bv2, ih, Bool.or_assoc]
def fitB (k : Int) (n : Nat) (lo hi : Int) : Bool := decide (0 ≤ k) && (decide (k ≤ 4) && (decide (k ≠ 4) || (decide (1 ≤ n) && (decide (0 ≤ lo) && (decide (lo ≤ 64) && decide (hi ≤ 64))))))
mutual
def fitT : RT → Bool
 | .mk k _ _ ts lo hi => fitB k ts.length lo hi && fitL ts
def fitL : List RT → Bool
 | [] => true
 | t :: ts => fitT t && fitL ts
end
theorem db1 : ∀ {ts : List RT}, fitL ts = true → ∀ t ∈ ts, fitT t = true
 | [], _, t, h => by simp at h
 | u :: ts, hn, t, h => by
  simp only [fitL, Bool.and_eq_true] at hn
  rcases List.mem_cons.1 h with rfl | h
  ·exact hn.1
  ·exact db1 hn.2 t h
theorem ed5 {k : Int} {w : Nat → Nat} {x : EV} {ts : List RT} {lo hi : Int} (h : bf4 (.mk k w x ts lo hi) = true) : fitB k ts.length lo hi = true := by
 unfold fitB
 simp only [Bool.and_eq_true, Bool.or_eq_true, decide_eq_true_eq]
 by_cases k0 : k = 0
 ·omega
 by_cases k1 : k = 1
 ·omega
 by_cases k2 : k = 2
 ·omega
 by_cases k3 : k = 3
 ·omega
 by_cases k4 : k = 4
 ·simp [bf4, k4] at h
  omega
 ·simp [bf4, k0, k1, k2, k3, k4] at h
theorem cm8 : ∀ {t : RT}, am5 t = true → fitT t = true := by
 intro t
 refine RT.rec (motive_1 := fun t => am5 t = true → fitT t = true) (motive_2 := fun ts => bl4 ts = true → fitL ts = true) ?_ ?_ ?_ t
 ·intro k w x ts lo hi ih h
  simp only [am5, Bool.and_eq_true] at h
  simp only [fitT, Bool.and_eq_true]
  exact ⟨ed5 h.1, ih h.2⟩
 ·intro _; simp [fitL]
 ·intro t ts h1 h2 h
  simp only [bl4, Bool.and_eq_true] at h
  simp only [fitL, Bool.and_eq_true]
  exact ⟨h1 h.1, h2 h.2⟩
section
variable {E : Env} [R : bt9 E]
theorem SlV.newP {sz : Nat} {x : EV} {es : List EV} (h : SlV sz x es) (L : Nat) : newP L x = false := by
 rcases h.shape with ⟨rfl, _⟩ | ⟨rfl, _⟩ | ⟨s, rfl⟩ <;> rfl
def dj7 (E : Env) [R : bt9 E] (s : List UInt8) (t : RT) : Prop := ∀ (x : EV) (a : List Bool) (k : Nat) (o : Bool) (H : Heap), am3 x (posL 0 a) → a.length = s.length + 1 → H[k]? = some (some (.row 2 [.agg [.str s, .bool o]])) →
 ∃ y, den E R.af7 [.ptr k 2 0 0, t.E, x] H = some (.ret y, H.set k (some (.row 2 [.agg [.str s, .bool (o || bf3 s t a)]]))) ∧ am3 y (posL 0 (aa6 s t a))
theorem dq6 (hS : ba3 E R.ab1) {m : Nat} (hm : m ≤ 100001) {x y : EV} {a b : List Bool} (hx : am3 x (posL 0 a)) (hy : am3 y (posL 0 b)) (ha : a.length = m) (hb : b.length = m) (H : Heap) :
  den E R.ae7 [x, y] H = some (.ret (outV (posL 0 (orL a b))), H) := by
 have l1 := as6 a 0
 have l2 := as6 b 0
 have c1 := bd5 a
 have c2 := bd5 b
 have h := dg0 (E := E) hS x y _ _ hx hy (by omega) H
 rwa [dq7 (by omega)] at h
theorem lessP {m : Nat} (hm : m ≤ 100001) {x y : EV} {a b : List Bool} (hx : am3 x (posL 0 a)) (hy : am3 y (posL 0 b)) (ha : a.length = m) (hb : b.length = m) :
  ∃ z, (∀ H, den E R.aj3 [x, y] H = some (.ret z, H)) ∧ am3 z (posL 0 (av4 a b)) := by
 have l1 := as6 a 0
 have l2 := as6 b 0
 have c1 := bd5 a
 have c2 := bd5 b
 have h := ed8 (E := E) x y _ _ hx hy (by omega) (by omega) (av1 _ _)
 rwa [ed7 (by omega)] at h
theorem el9 {m : Nat} (hm : m ≤ 100001) {a : List Bool} (ha : a.length = m) : am3 (outV (posL 0 a)) (posL 0 a) := by
 have l1 := as6 a 0
 have c1 := bd5 a
 exact do2 (by omega)
set_option maxHeartbeats 4000000 in
theorem dd9 (hS : ba3 E R.ab1) (s : List UInt8) (hs : s.length ≤ 100000) (w : Nat → Nat) (x0 : EV) (ts : List RT) (lo hi : Int) (hx0 : SlV 8 x0 (ts.map RT.E)) (t : RT) (ht0 : ts[0]? = some t) (hl : Lin (s.length + 1) (aa6 s t)) (hc : dj7 E s t)
  (hlo : 0 ≤ lo ∧ lo ≤ 64) (hhi : hi ≤ 64) (x : EV) (a : List Bool) (hx : am3 x (posL 0 a)) (ha : a.length = s.length + 1) (k : Nat) (o : Bool) (H : Heap) (hk : H[k]? = some (some (.row 2 [.agg [.str s, .bool o]]))) :
  ∃ y, den E R.ai1 [.ptr k 2 0 0, .agg [.int .i64 4, .int .u64 (w 0 : Nat), .int .u64 (w 1 : Nat), .int .u64 (w 2 : Nat), .int .u64 (w 3 : Nat), x0, .int .i64 lo, .int .i64 hi], x] H =
    some (.ret y, H.set k (some (.row 2 [.agg [.str s, .bool (o || de6 s ts lo hi a)]]))) ∧ am3 y (posL 0 (au7 s 4 w lo hi (ts.map (aa6 s)) a)) := by
 have hts : ∃ r, ts = t :: r := by
  cases ts with
  | nil => simp at ht0
  | cons u r => exact ⟨r, by simp at ht0; rw [ht0]⟩
 have hF : au7 s 4 w lo hi (ts.map (aa6 s)) a = sumN (aa6 s t) (powN (aa6 s t) lo.toNat a) (if hi < 0 then s.length + 1 else (hi - lo).toNat) := by
  obtain ⟨r, rfl⟩ := hts
  simp [au7]
 have hG : de6 s ts lo hi a = (opP (aa6 s t) (bf3 s t) lo.toNat a || opQ (aa6 s t) (bf3 s t) (powN (aa6 s t) lo.toNat a) (if hi < 0 then s.length + 2 else (hi - lo).toNat)) := by
  obtain ⟨r, rfl⟩ := hts
  simp [de6]
 rw [hF, hG]
 have hg0 := do3 s t
 have hf : dj7 E s t := hc
 unfold dj7 at hf
 generalize bf3 s t = g at hf hg0 ⊢
 generalize aa6 s t = f at hf hl ⊢
 clear hF hG hts hc
 have hat : bc8 8 0 x0 = some (.iptr t.E.cells 0) := hx0.atT ht0
 have hyl := RT.cells t
 have hyt : List.take 8 t.E.cells = t.E.cells := List.take_of_length_le (by omega)
 have hya : EV.agg t.E.cells = t.E := by cases t; rfl
 unfold EV.cells at hyt hyl hya hat
 have ox := hx0.one.2
 have cx := hx0.one.1
 obtain ⟨cf, oF⟩ := hx.one
 have hkl := aa3 hk
 have hself : H.set k (some (.row 2 [.agg [.str s, .bool o]])) = H := by
  apply List.ext_getElem?
  intro j
  by_cases hj : k = j
  ·subst hj; rw [List.getElem?_set_self hkl, hk]
  ·rw [List.getElem?_set_ne hj]
 have g1 : ∀ (b : Option EB) (G : Heap), (H.set k b ++ G)[k]? = some b := fun b G => by rw [List.getElem?_append_left (by simpa using hkl), List.getElem?_set_self hkl]
 have s1 : ∀ (b c : Option EB) (G : Heap), (H.set k b ++ G).set k c = H.set k c ++ G := fun b c G => by rw [List.set_append_left _ _ (by simpa using hkl), List.set_set]
 have a1 : ∀ (b c : Option EB), (H.set k b ++ [c])[H.length]? = some c := fun b c => by rw [List.getElem?_append_right (by simp)]; simp
 generalize hM : (if hi < 0 then s.length + 2 else (hi - lo).toNat) = M2
 generalize hM1 : (if hi < 0 then s.length + 1 else (hi - lo).toNat) = M1
 suffices h : ∃ r, den E R.ai1 [.ptr k 2 0 0, .agg [.int .i64 4, .int .u64 (w 0 : Nat), .int .u64 (w 1 : Nat), .int .u64 (w 2 : Nat), .int .u64 (w 3 : Nat), x0, .int .i64 lo, .int .i64 hi], x] H = some r ∧
   ∃ y, r = (.ret y, H.set k (some (.row 2 [.agg [.str s, .bool (o || opP f g lo.toNat a || opQ f g (powN f lo.toNat a) M2)]]))) ∧ am3 y (posL 0 (sumN f (powN f lo.toNat a) M1)) by
  rw [← Bool.or_assoc]
  obtain ⟨r, h1, y, rfl, h2⟩ := h
  exact ⟨y, h1, h2⟩
 refine cp6 R.aw0 (by simp) ?_
 unfold Gn.ao6 Gn.al1
 unfold EV.one at ox oF
 unfold EV.cells at cx cf
 repeat' first | (simp (disch := first | omega | assumption) only [go_sem, simprocAttr, *]) | refine aa0 (fun hb=>?_) fun hb=>?_ | refine aa1 (fun hb=>?_) fun hb=>?_
 all_goals (try simp only [FX] at *)
 all_goals first | omega | skip
 refine ak0 (ι := Nat × EV) (fun q => q.1 ≤ lo.toNat ∧ am3 q.2 (posL 0 (powN f q.1 a))) (fun q => lo.toNat - q.1) (fun q => [(0, .ptr k 2 0 0), (2, q.2), (4, .ptr H.length 8 0 0), (12, .int .i64 lo), (13, .int .i64 q.1)])
  (fun q => H.set k (some (.row 2 [.agg [.str s, .bool (o || opP f g q.1 a)]])) ++ [some (.row 8 [.agg [.int .i64 4, .int .u64 (w 0 : Nat), .int .u64 (w 1 : Nat), .int .u64 (w 2 : Nat), .int .u64 (w 3 : Nat), x0, .int .i64 lo, .int .i64 hi]])]) (0, x) ⟨by simp, hx⟩ ?_ ?_ ?_
 ·simp (disch := omega) only [go_sem, simprocAttr, Sl]
 ·simp [opP, hself]
 clear hself hk hx cf oF x
 rintro ⟨i, y⟩ t1 ⟨hi1, hy⟩ ht K hK
 simp only at hi1 hy ht
 simp (disch := omega) only [go_sem, simprocAttr, Sl] at ht
 obtain ⟨cy, oy⟩ := hy.one
 unfold EV.one at oy
 unfold EV.cells at cy
 have hpl := (bi5 hl i).len a ha
 by_cases hlt : i < lo.toNat
 ·obtain ⟨z, h1, h2⟩ := hf y (powN f i a) k (o || opP f g i a) (H.set k (some (.row 2 [.agg [.str s, .bool (o || opP f g i a)]])) ++ [some (.row 8 [.agg [.int .i64 4, .int .u64 (w 0 : Nat), .int .u64 (w 1 : Nat), .int .u64 (w 2 : Nat), .int .u64 (w 3 : Nat), x0, .int .i64 lo, .int .i64 hi]])]) hy hpl (g1 _ _)
  rw [s1] at h1
  have go := fun s' H' => hK (i + 1, z) s' H' ⟨by simp only; omega, h2⟩ (by simp only; omega)
  simp only [opP, ← Bool.or_assoc] at go
  clear hK
  obtain ⟨cz, oz⟩ := h2.one
  unfold EV.one at oz
  unfold EV.cells at cz
  repeat' first | (simp (disch := first | omega | assumption) only [go_sem, simprocAttr, *]) | refine aa0 (fun hb=>?_) fun hb=>?_ | refine aa1 (fun hb=>?_) fun hb=>?_
  all_goals (try simp only [FX] at *)
  all_goals first | omega | skip
  refine go _ _ ?_ rfl
  simp (disch := omega) only [go_sem, simprocAttr, Sl, ht, and_self, ac8]
 ·have hie : i = lo.toNat := by omega
  subst hie
  clear hK
  generalize opP f g lo.toNat a = op1 at ht ⊢
  generalize powN f lo.toNat a = b at hy hpl ⊢
  repeat' first | (simp (disch := first | omega | assumption) only [go_sem, simprocAttr, *]) | refine aa0 (fun hb=>?_) fun hb=>?_ | refine aa1 (fun hb=>?_) fun hb=>?_
  all_goals (try simp only [FX] at *)
  all_goals first | omega | skip
  generalize (o || op1) = O
  clear o hlt hi1 ha a
  have hmu : ∀ j, (rnd f b j).1.length = s.length + 1 ∧ (rnd f b j).2.length = s.length + 1 := fun j => ⟨(bf2 hl hpl j).1, (bf2 hl hpl j).2.1⟩
  refine ak0 (ι := Nat × EV × EV) (fun q => am3 q.2.1 (posL 0 (rnd f b q.1).1) ∧ am3 q.2.2 (posL 0 (rnd f b q.1).2) ∧ q.1 + (2 * (s.length + 1 - cntT (rnd f b q.1).1) + (if cntT (rnd f b q.1).2 = 0 then 0 else 1)) ≤ 2 * (s.length + 1) + 1 ∧ (0 ≤ hi → q.1 ≤ (hi - lo).toNat))
   (fun q => 2 * (s.length + 1 - cntT (rnd f b q.1).1) + (if cntT (rnd f b q.1).2 = 0 then 0 else 1)) (fun q => [(0, .ptr k 2 0 0), (4, .ptr H.length 8 0 0), (7, q.2.1), (8, q.2.2), (9, .int .i64 (lo + q.1))])
   (fun q => H.set k (some (.row 2 [.agg [.str s, .bool (O || opQ f g b q.1)]])) ++ [some (.row 8 [.agg [.int .i64 4, .int .u64 (w 0 : Nat), .int .u64 (w 1 : Nat), .int .u64 (w 2 : Nat), .int .u64 (w 3 : Nat), x0, .int .i64 lo, .int .i64 hi]])]) (0, y, y) ⟨hy, hy, ?_, by simp⟩ ?_ ?_ ?_
  ·simp only
   split <;> omega
  ·simp (disch := omega) only [go_sem, simprocAttr, Sl, ht, and_self, Int.natCast_zero, Int.add_zero]
  ·simp [opQ]
  clear ht hy cy oy y t1
  rintro ⟨j, ya, yf⟩ t1 ⟨hya', hyf, hj1, hj2⟩ ht K hK
  simp only at hya' hyf hj1 hj2 ht
  simp (disch := omega) only [go_sem, simprocAttr, Sl] at ht
  obtain ⟨cya, oya⟩ := hya'.one
  obtain ⟨cyf, oyf⟩ := hyf.one
  unfold EV.one at oya oyf
  unfold EV.cells at cya cyf
  have lyf := hyf.lenI
  rw [as6] at lyf
  obtain ⟨hL1, hL2⟩ := hmu j
  by_cases hcont : cntT (rnd f b j).2 ≠ 0 ∧ (hi < 0 ∨ lo + j < hi)
  ·obtain ⟨hc0, hc1⟩ := hcont
   obtain ⟨z, h1, h2⟩ := hf yf (rnd f b j).2 k (O || opQ f g b j) (H.set k (some (.row 2 [.agg [.str s, .bool (O || opQ f g b j)]])) ++ [some (.row 8 [.agg [.int .i64 4, .int .u64 (w 0 : Nat), .int .u64 (w 1 : Nat), .int .u64 (w 2 : Nat), .int .u64 (w 3 : Nat), x0, .int .i64 lo, .int .i64 hi]])]) hyf hL2 (g1 _ _)
   rw [s1] at h1
   obtain ⟨z2, h3, h4⟩ := lessP (E := E) (m := s.length + 1) (by omega) h2 hya' (hl.len _ hL2) hL1
   have hL3 : (av4 (f (rnd f b j).2) (rnd f b j).1).length = s.length + 1 := (hmu (j + 1)).2
   have h5 := dq6 (E := E) hS (m := s.length + 1) (by omega) hya' h4 hL1 hL3
   have h6 := el9 (m := s.length + 1) (by omega) (a := orL (rnd f b j).1 (av4 (f (rnd f b j).2) (rnd f b j).1)) (hmu (j + 1)).1
   have hless := eb3 hl hpl hc0
   have go := fun s' H' => hK (j + 1, outV (posL 0 (orL (rnd f b j).1 (av4 (f (rnd f b j).2) (rnd f b j).1))), z2) s' H' ⟨h6, h4, by simp only; omega, fun h => by simp only; omega⟩ hless
   simp only [opQ, ← Bool.or_assoc] at go
   generalize outV (posL 0 (orL (rnd f b j).1 (av4 (f (rnd f b j).2) (rnd f b j).1))) = z3 at go h5 h6
   obtain ⟨cz, oz⟩ := h2.one
   obtain ⟨cz2, oz2⟩ := h4.one
   obtain ⟨cz3, oz3⟩ := h6.one
   unfold EV.one at oz oz2 oz3
   unfold EV.cells at cz cz2 cz3
   have hcj : 0 < cntT (rnd f b j).2 := Nat.pos_of_ne_zero hc0
   generalize cntT (rnd f b j).2 = c at lyf hcj
   clear hK hless h2 h4 h6 hf hmu hya' hyf hj2
   rcases hc1 with hc1 | hc1
   ·repeat' first | (simp (disch := first | omega | assumption) only [go_sem, simprocAttr, *]) | refine aa0 (fun hb=>?_) fun hb=>?_ | refine aa1 (fun hb=>?_) fun hb=>?_
    all_goals (try simp only [FX] at *)
    all_goals first | omega | skip
    refine go _ _ ?_ rfl
    simp (disch := omega) only [go_sem, simprocAttr, Sl, ht, and_self, ac8, Int.add_assoc]
   ·have hi0 : ¬ hi < 0 := by omega
    repeat' first | (simp (disch := first | omega | assumption) only [go_sem, simprocAttr, *]) | refine aa0 (fun hb=>?_) fun hb=>?_ | refine aa1 (fun hb=>?_) fun hb=>?_
    all_goals (try simp only [FX] at *)
    all_goals first | omega | skip
    refine go _ _ ?_ rfl
    simp (disch := omega) only [go_sem, simprocAttr, Sl, ht, and_self, ac8, Int.add_assoc]
  ·have hall : (rnd f b j).1 = sumN f b M1 := by
    refine eb4 hl hpl ?_
    by_cases hc0 : cntT (rnd f b j).2 = 0
    ·refine .inl ⟨hc0, ?_⟩
     rw [← hM1]
     split <;> omega
    ·refine .inr ?_
     rw [← hM1]
     split <;> omega
   have hopn : opQ f g b j = opQ f g b M2 := by
    refine ec2 hl hpl hg0 ?_
    by_cases hc0 : cntT (rnd f b j).2 = 0
    ·refine .inl ⟨hc0, ?_⟩
     rw [← hM]
     split <;> omega
    ·refine .inr ?_
     rw [← hM]
     split <;> omega
   rw [hall] at hya'
   rw [hopn]
   generalize cntT (rnd f b j).2 = c at lyf hcont
   have hyok := hya'.ok H.length
   clear hK hall hopn hmu hf hyf hj1 hj2 hL1 hL2 hM hM1 hl hpl hS
   by_cases hc0 : c = 0
   ·subst hc0
    repeat' first | (simp (disch := first | omega | assumption) only [go_sem, simprocAttr, *]) | refine aa0 (fun hb=>?_) fun hb=>?_ | refine aa1 (fun hb=>?_) fun hb=>?_
    all_goals (try simp only [FX] at *)
    all_goals first | omega | skip
    exact ⟨_, be4 (hya'.newP _) (bf6 hyok) rfl rfl, ya, rfl, hya'⟩
   ·have h1 : ¬ hi < 0 := by omega
    have h2 : ¬ lo + j < hi := by omega
    have h3 : 0 < c := by omega
    repeat' first | (simp (disch := first | omega | assumption) only [go_sem, simprocAttr, *]) | refine aa0 (fun hb=>?_) fun hb=>?_ | refine aa1 (fun hb=>?_) fun hb=>?_
    all_goals (try simp only [FX] at *)
    all_goals first | omega | skip
    exact ⟨_, be4 (hya'.newP _) (bf6 hyok) rfl rfl, ya, rfl, hya'⟩
end
def boxT (ts : List RT) : Heap := ts.map fun t => some (.row 8 [t.E])
theorem RT.ones {t : RT} (h : t.Ok) : t.E.cells.all EV.one = true := by
 cases h with
 | mk k w x ts lo hi hw hx hts =>
  have := hx.one.2
  simp [RT.E, EV.cells, this]
  simp [EV.one]
section
variable {E : Env} [R : bt9 E]
set_option maxHeartbeats 4000000 in
theorem cn2 (hH : bs5 E R.ak5 .u8) (hS : ba3 E R.ab1) (s : List UInt8) (hs : s.length ≤ 100000) {t : RT} (ht : t.Ok) : fitT t = true → dj7 E s t := by
 induction ht with
 | mk kd w x0 ts lo hi hw hx0 hts ih =>
  intro hfit x a k o H hx ha hk
  simp only [fitT, Bool.and_eq_true] at hfit
  obtain ⟨hfb, hfl⟩ := hfit
  simp only [fitB, Bool.and_eq_true, Bool.or_eq_true, decide_eq_true_eq] at hfb
  have hsub := fun t hm => ih t hm (db1 hfl t hm)
  have hlin : ∀ t ∈ ts, Lin (s.length + 1) (aa6 s t) := fun t hm => av8 s (hts t hm)
  have hlT : Lin (s.length + 1) (aa6 s (.mk kd w x0 ts lo hi)) := av8 s (.mk kd w x0 ts lo hi hw hx0 hts)
  have he : aa6 s (.mk kd w x0 ts lo hi) a = au7 s kd w lo hi (ts.map (aa6 s)) a := by rw [aa6, ax8]
  have ho : bf3 s (.mk kd w x0 ts lo hi) a = if cntT a = 0 then false else if kd = 1 then a.getD s.length false && !zset w else if kd = 2 then bv1 s ts a else if kd = 3 then bv2 s ts a else if kd = 4 then de6 s ts lo hi a else false := by rw [bf3]
  have lx0 := hx0.len
  rw [List.length_map] at lx0
  have lex := hx0.le
  rw [List.length_map] at lex
  have ox := hx0.one.2
  have cx := hx0.one.1
  obtain ⟨cf, oF⟩ := hx.one
  have lf := hx.lenI
  rw [as6] at lf
  have hcle := bd5 a
  have hkl := aa3 hk
  have hself : H.set k (some (.row 2 [.agg [.str s, .bool o]])) = H := by
   apply List.ext_getElem?
   intro j
   by_cases hj : k = j
   ·subst hj; rw [List.getElem?_set_self hkl, hk]
   ·rw [List.getElem?_set_ne hj]
  have g1 : ∀ (b : Option EB) (G : Heap), (H.set k b ++ G)[k]? = some b := fun b G => by rw [List.getElem?_append_left (by simpa using hkl), List.getElem?_set_self hkl]
  have s1 : ∀ (b c : Option EB) (G : Heap), (H.set k b ++ G).set k c = H.set k c ++ G := fun b c G => by rw [List.set_append_left _ _ (by simpa using hkl), List.set_set]
  suffices h : ∃ r, den E R.af7 [.ptr k 2 0 0, .agg [.int .i64 kd, .int .u64 (w 0 : Nat), .int .u64 (w 1 : Nat), .int .u64 (w 2 : Nat), .int .u64 (w 3 : Nat), x0, .int .i64 lo, .int .i64 hi], x] H = some r ∧
    ∃ y, r = (.ret y, H.set k (some (.row 2 [.agg [.str s, .bool (o || bf3 s (.mk kd w x0 ts lo hi) a)]]))) ∧ am3 y (posL 0 (aa6 s (.mk kd w x0 ts lo hi) a)) by
   obtain ⟨r, h1, y, rfl, h2⟩ := h
   exact ⟨y, h1, h2⟩
  refine cp6 R.ba0 (by simp) ?_
  unfold Gn.as1 Gn.ao7
  by_cases hc0 : cntT a = 0
  ·have hz : a = falses (s.length + 1) := by rw [← ha]; exact bs0 hc0
   have e1 : posL 0 (aa6 s (.mk kd w x0 ts lo hi) a) = [] := by rw [hz, hlT.no, by6]
   have e2 : bf3 s (.mk kd w x0 ts lo hi) a = false := by rw [ho, if_pos hc0]
   rw [hc0] at lf
   rw [e1, e2, Bool.or_false, hself]
   clear ih hsub hlin hlT he ho e1 e2 hfl hfb hself s1 g1
   unfold EV.one at ox oF
   unfold EV.cells at cx cf
   repeat' first | (simp (disch := first | omega | assumption) only [go_sem, simprocAttr, *]) | refine aa0 (fun hb=>?_) fun hb=>?_ | refine aa1 (fun hb=>?_) fun hb=>?_
   all_goals (try simp only [FX] at *)
   all_goals first | omega | skip
   exact ⟨_, aa4 rfl rfl, .nilsl, rfl, .nil⟩
  have hcp : 0 < cntT a := Nat.pos_of_ne_zero hc0
  rw [if_neg hc0] at ho
  have g2 : ∀ (b : EB), (H ++ [some b])[k]? = some (some (.row 2 [.agg [.str s, .bool o]])) := fun b => by rw [List.getElem?_append_left hkl]; exact hk
  have s2 : ∀ (b : Option EB) (c : EB), (H ++ [some c]).set k b = H.set k b ++ [some c] := fun b c => List.set_append_left _ _ hkl
  rw [ho, he]
  by_cases k0 : kd = 0
  ·subst k0
   have e1 : au7 s 0 w lo hi (ts.map (aa6 s)) a = a := by simp [au7]
   have hxo := hx.ok H.length
   rw [e1]
   rw [if_neg (by omega), if_neg (by omega), if_neg (by omega), if_neg (by omega), Bool.or_false, hself]
   generalize cntT a = c at lf hcp
   clear ih hsub hlin hlT he ho e1 hfl hfb hself s1 g1 g2 s2 hc0 hcle
   unfold EV.one at ox oF
   unfold EV.cells at cx cf
   repeat' first | (simp (disch := first | omega | assumption) only [go_sem, simprocAttr, *]) | refine aa0 (fun hb=>?_) fun hb=>?_ | refine aa1 (fun hb=>?_) fun hb=>?_
   all_goals (try simp only [FX] at *)
   all_goals first | omega | skip
   exact ⟨_, aa4 hxo rfl, x, rfl, hx⟩
  by_cases k1 : kd = 1
  ·subst k1
   have e1 : au7 s 1 w lo hi (ts.map (aa6 s)) a = bs2 w s a := by simp [au7]
   rw [e1, if_pos rfl]
   have hb := eg6 (E := E) hH w hw s hs x (posL 0 a) hx (by rw [as6]; omega) (fun p hp => by have := by5 hp; omega) k o _ (g2 (.row 8 [.agg [.int .i64 1, .int .u64 (w 0 : Nat), .int .u64 (w 1 : Nat), .int .u64 (w 2 : Nat), .int .u64 (w 3 : Nat), x0, .int .i64 lo, .int .i64 hi]]))
   have hop : opB w s.length (posL 0 a) = (a.getD s.length false && !zset w) := by
    unfold opB
    congr 1
    rw [Bool.eq_iff_iff, List.any_eq_true]
    constructor
    ·rintro ⟨p, h1, h2⟩
     have h3 := (by5 h1).2.2
     simp only [decide_eq_true_eq] at h2
     rw [h2] at h3
     exact h3
    ·intro h
     exact ⟨s.length, ak7.2 ⟨s.length, h, by omega⟩, by simp⟩
   rw [ea3 w ha, hop, s2] at hb
   have hV := el9 (m := s.length + 1) (by omega) (a := bs2 w s a) (by rw [bi1 ha])
   have hVo := hV.ok H.length
   generalize (a.getD s.length false && !zset w) = ob at hb ⊢
   generalize outV (posL 0 (bs2 w s a)) = z at hb hV hVo
   generalize cntT a = c at lf hcp
   obtain ⟨cz, oz⟩ := hV.one
   clear ih hsub hlin hlT he ho e1 hfl hfb hself s1 g1 g2 s2 hc0 hcle
   unfold EV.one at ox oF oz
   unfold EV.cells at cx cf cz
   repeat' first | (simp (disch := first | omega | assumption) only [go_sem, simprocAttr, *]) | refine aa0 (fun hb=>?_) fun hb=>?_ | refine aa1 (fun hb=>?_) fun hb=>?_
   all_goals (try simp only [FX] at *)
   all_goals first | omega | skip
   exact ⟨_, be4 (hV.newP _) (bf6 hVo) rfl rfl, z, rfl, hV⟩
  by_cases k2 : kd = 2
  ·subst k2
   have e1 : au7 s 2 w lo hi (ts.map (aa6 s)) a = (ts.map (aa6 s)).foldl (fun x f => f x) a := by simp [au7]
   rw [e1, if_neg (by omega), if_pos rfl]
   have hcc : 0 < cntT a := hcp
   generalize hcd : cntT a = c at lf hcp
   clear ih hlT he ho e1 hfl hfb hc0 hcle
   unfold EV.one at ox oF
   unfold EV.cells at cx cf
   repeat' first | (simp (disch := first | omega | assumption) only [go_sem, simprocAttr, *]) | refine aa0 (fun hb=>?_) fun hb=>?_ | refine aa1 (fun hb=>?_) fun hb=>?_
   all_goals (try simp only [FX] at *)
   all_goals first | omega | skip
   refine ak0 (ι := Nat × EV) (fun q => q.1 ≤ ts.length ∧ am3 q.2 (posL 0 (((ts.take q.1).map (aa6 s)).foldl (fun x f => f x) a))) (fun q => ts.length - q.1) (fun q => [(0, .ptr k 2 0 0), (2, q.2), (27, x0), (28, .int .i64 ts.length), (29, .int .i64 q.1)])
    (fun q => H.set k (some (.row 2 [.agg [.str s, .bool (o || bv1 s (ts.take q.1) a)]])) ++ some (.row 8 [.agg [.int .i64 2, .int .u64 (w 0 : Nat), .int .u64 (w 1 : Nat), .int .u64 (w 2 : Nat), .int .u64 (w 3 : Nat), x0, .int .i64 lo, .int .i64 hi]]) :: boxT (ts.take q.1)) (0, x) ⟨by simp, hx⟩ ?_ ?_ ?_
   ·simp (disch := omega) only [go_sem, simprocAttr, Sl]
   ·simp [bv1, boxT, hself]
   clear hself hk hx cf oF g2 s2 lf x
   rintro ⟨i, y⟩ t1 ⟨hi1, hy⟩ ht K hK
   simp only at hi1 hy ht
   simp (disch := omega) only [go_sem, simprocAttr, Sl] at ht
   obtain ⟨cy, oy⟩ := hy.one
   unfold EV.one at oy
   unfold EV.cells at cy
   by_cases hlt : i < ts.length
   ·obtain ⟨u, hu⟩ := ac4 hlt
    have hum := List.mem_of_getElem? hu
    have hat := hx0.atT hu
    have hyl := RT.cells u
    have hyt : List.take 8 u.E.cells = u.E.cells := List.take_of_length_le (by omega)
    have hya : EV.agg u.E.cells = u.E := by cases u; rfl
    have hal : (((ts.take i).map (aa6 s)).foldl (fun x f => f x) a).length = s.length + 1 := (ca1 fun f hf => by
     obtain ⟨t, h1, rfl⟩ := List.mem_map.1 hf
     exact hlin t (List.mem_of_mem_take h1)).len a ha
    have hon := ce3 (s := s) (a := a) hu
    have hfn : ((ts.take (i + 1)).map (aa6 s)).foldl (fun x f => f x) a = aa6 s u (((ts.take i).map (aa6 s)).foldl (fun x f => f x) a) := by
     rw [List.take_add_one, hu, List.map_append, List.foldl_append]
     rfl
    have hbn : boxT (ts.take (i + 1)) = boxT (ts.take i) ++ [some (.row 8 [u.E])] := by
     unfold boxT
     rw [List.take_add_one, hu, List.map_append]
     rfl
    have hbl : (boxT (ts.take i)).length = i := by unfold boxT; rw [List.length_map, List.length_take]; omega
    have hI := hsub u hum
    unfold dj7 at hI
    obtain ⟨z, h1, h2⟩ := hI y _ k (o || bv1 s (ts.take i) a) (H.set k (some (.row 2 [.agg [.str s, .bool (o || bv1 s (ts.take i) a)]])) ++ some (.row 8 [.agg [.int .i64 2, .int .u64 (w 0 : Nat), .int .u64 (w 1 : Nat), .int .u64 (w 2 : Nat), .int .u64 (w 3 : Nat), x0, .int .i64 lo, .int .i64 hi]]) :: (boxT (ts.take i) ++ [some (.row 8 [u.E])])) hy hal (g1 _ _)
    rw [s1] at h1
    have go := fun s' H' => hK (i + 1, z) s' H' ⟨by simp only; omega, by simp only; rw [hfn]; exact h2⟩ (by simp only; omega)
    simp only [hon, hbn, ← Bool.or_assoc] at go
    obtain ⟨cz, oz⟩ := h2.one
    have hyo := RT.ones (hts u hum)
    unfold EV.one at oz
    unfold EV.cells at hyt hyl hya hat cz hyo
    generalize boxT (ts.take i) = G at h1 go hbl ⊢
    have a1 : ∀ (b c d : Option EB), (H.set k b ++ c :: (G ++ [d]))[H.length + (i + 1)]? = some d := fun b c d => by
     rw [List.getElem?_append_right (by simp), List.length_set, Nat.add_sub_cancel_left, List.getElem?_cons_succ, List.getElem?_append_right (by omega), hbl, Nat.sub_self]
     rfl
    have a2 : ∀ (b c d e : Option EB), (H.set k b ++ c :: (G ++ [d])).set (H.length + (i + 1)) e = H.set k b ++ c :: (G ++ [e]) := fun b c d e => by
     rw [List.set_append_right _ _ (by simp), List.length_set, Nat.add_sub_cancel_left, List.set_cons_succ, List.set_append_right _ _ (by omega), hbl, Nat.sub_self]
     rfl
    generalize bv1 s (ts.take i) a = oc at h1 go ⊢
    generalize bf3 s u (((ts.take i).map (aa6 s)).foldl (fun x f => f x) a) = ou at h1 go
    clear hK hI hsub hlin hon hfn hbn
    repeat' first | (simp (disch := first | omega | assumption) only [go_sem, simprocAttr, *]) | refine aa0 (fun hb=>?_) fun hb=>?_ | refine aa1 (fun hb=>?_) fun hb=>?_
    all_goals (try simp only [FX] at *)
    all_goals first | omega | skip
    refine go _ _ ?_ rfl
    simp (disch := omega) only [go_sem, simprocAttr, Sl, ht, and_self, ac8]
   ·have hie : i = ts.length := by omega
    subst hie
    rw [List.take_length] at hy ⊢
    have hyok := hy.ok H.length
    generalize boxT ts = G
    clear hK hsub hlin
    repeat' first | (simp (disch := first | omega | assumption) only [go_sem, simprocAttr, *]) | refine aa0 (fun hb=>?_) fun hb=>?_ | refine aa1 (fun hb=>?_) fun hb=>?_
    all_goals (try simp only [FX] at *)
    all_goals first | omega | skip
    exact ⟨_, be4 (hy.newP _) (bf6 hyok) rfl rfl, y, rfl, hy⟩
  by_cases k3 : kd = 3
  ·subst k3
   have e1 : au7 s 3 w lo hi (ts.map (aa6 s)) a = (ts.map (aa6 s)).foldl (fun o f => orL o (f a)) (falses (s.length + 1)) := by simp [au7]
   rw [e1, if_neg (by omega), if_neg (by omega), if_pos rfl]
   generalize hcd : cntT a = c at lf hcp
   clear ih hlT he ho e1 hfl hfb hc0 hcle
   unfold EV.one at ox oF
   unfold EV.cells at cx cf
   repeat' first | (simp (disch := first | omega | assumption) only [go_sem, simprocAttr, *]) | refine aa0 (fun hb=>?_) fun hb=>?_ | refine aa1 (fun hb=>?_) fun hb=>?_
   all_goals (try simp only [FX] at *)
   all_goals first | omega | skip
   refine ak0 (ι := Nat × EV) (fun q => q.1 ≤ ts.length ∧ am3 q.2 (posL 0 (((ts.take q.1).map (aa6 s)).foldl (fun o f => orL o (f a)) (falses (s.length + 1))))) (fun q => ts.length - q.1) (fun q => [(0, .ptr k 2 0 0), (2, x), (9, q.2), (42, x0), (43, .int .i64 ts.length), (44, .int .i64 q.1)])
    (fun q => H.set k (some (.row 2 [.agg [.str s, .bool (o || bv2 s (ts.take q.1) a)]])) ++ some (.row 8 [.agg [.int .i64 3, .int .u64 (w 0 : Nat), .int .u64 (w 1 : Nat), .int .u64 (w 2 : Nat), .int .u64 (w 3 : Nat), x0, .int .i64 lo, .int .i64 hi]]) :: boxT (ts.take q.1)) (0, .nilsl) ⟨by simp, by simp only [List.take_zero, List.map_nil, List.foldl_nil, by6]; exact .nil⟩ ?_ ?_ ?_
   ·simp (disch := omega) only [go_sem, simprocAttr, Sl]
   ·simp [bv2, boxT, hself]
   clear hself hk g2 s2 lf
   rintro ⟨i, y⟩ t1 ⟨hi1, hy⟩ ht K hK
   simp only at hi1 hy ht
   simp (disch := omega) only [go_sem, simprocAttr, Sl] at ht
   obtain ⟨cy, oy⟩ := hy.one
   unfold EV.one at oy
   unfold EV.cells at cy
   by_cases hlt : i < ts.length
   ·obtain ⟨u, hu⟩ := ac4 hlt
    have hum := List.mem_of_getElem? hu
    have hat := hx0.atT hu
    have hyl := RT.cells u
    have hyt : List.take 8 u.E.cells = u.E.cells := List.take_of_length_le (by omega)
    have hya : EV.agg u.E.cells = u.E := by cases u; rfl
    have hal : (((ts.take i).map (aa6 s)).foldl (fun o f => orL o (f a)) (falses (s.length + 1))).length = s.length + 1 := (ca2 (g := fun _ => falses (s.length + 1)) (cq3 _) fun f hf => by
     obtain ⟨t, h1, rfl⟩ := List.mem_map.1 hf
     exact hlin t (List.mem_of_mem_take h1)).len a ha
    have hel := (hlin u hum).len a ha
    have hon := ce4 (s := s) (a := a) hu
    have hfn : ((ts.take (i + 1)).map (aa6 s)).foldl (fun o f => orL o (f a)) (falses (s.length + 1)) = orL (((ts.take i).map (aa6 s)).foldl (fun o f => orL o (f a)) (falses (s.length + 1))) (aa6 s u a) := by
     rw [List.take_add_one, hu, List.map_append, List.foldl_append]
     rfl
    have hbn : boxT (ts.take (i + 1)) = boxT (ts.take i) ++ [some (.row 8 [u.E])] := by
     unfold boxT
     rw [List.take_add_one, hu, List.map_append]
     rfl
    have hbl : (boxT (ts.take i)).length = i := by unfold boxT; rw [List.length_map, List.length_take]; omega
    have hI := hsub u hum
    unfold dj7 at hI
    obtain ⟨z, h1, h2⟩ := hI x _ k (o || bv2 s (ts.take i) a) (H.set k (some (.row 2 [.agg [.str s, .bool (o || bv2 s (ts.take i) a)]])) ++ some (.row 8 [.agg [.int .i64 3, .int .u64 (w 0 : Nat), .int .u64 (w 1 : Nat), .int .u64 (w 2 : Nat), .int .u64 (w 3 : Nat), x0, .int .i64 lo, .int .i64 hi]]) :: (boxT (ts.take i) ++ [some (.row 8 [u.E])])) hx ha (g1 _ _)
    rw [s1] at h1
    have h3 := dq6 (E := E) hS (m := s.length + 1) (by omega) hy h2 hal hel
    have h4 := el9 (m := s.length + 1) (by omega) (a := orL (((ts.take i).map (aa6 s)).foldl (fun o f => orL o (f a)) (falses (s.length + 1))) (aa6 s u a)) (by rw [ah8 (by omega)]; exact hal)
    have go := fun s' H' => hK (i + 1, outV (posL 0 (orL (((ts.take i).map (aa6 s)).foldl (fun o f => orL o (f a)) (falses (s.length + 1))) (aa6 s u a)))) s' H' ⟨by simp only; omega, by simp only; rw [hfn]; exact h4⟩ (by simp only; omega)
    simp only [hon, hbn, ← Bool.or_assoc] at go
    obtain ⟨cz, oz⟩ := h2.one
    have hyo := RT.ones (hts u hum)
    unfold EV.one at oz
    unfold EV.cells at hyt hyl hya hat cz hyo
    generalize boxT (ts.take i) = G at h1 go hbl ⊢
    have a1 : ∀ (b c d : Option EB), (H.set k b ++ c :: (G ++ [d]))[H.length + (i + 1)]? = some d := fun b c d => by
     rw [List.getElem?_append_right (by simp), List.length_set, Nat.add_sub_cancel_left, List.getElem?_cons_succ, List.getElem?_append_right (by omega), hbl, Nat.sub_self]
     rfl
    have a2 : ∀ (b c d e : Option EB), (H.set k b ++ c :: (G ++ [d])).set (H.length + (i + 1)) e = H.set k b ++ c :: (G ++ [e]) := fun b c d e => by
     rw [List.set_append_right _ _ (by simp), List.length_set, Nat.add_sub_cancel_left, List.set_cons_succ, List.set_append_right _ _ (by omega), hbl, Nat.sub_self]
     rfl
    generalize bv2 s (ts.take i) a = oc at h1 go ⊢
    generalize bf3 s u a = ou at h1 go
    generalize outV (posL 0 (orL (((ts.take i).map (aa6 s)).foldl (fun o f => orL o (f a)) (falses (s.length + 1))) (aa6 s u a))) = z4 at h3 h4 go
    obtain ⟨cz4, oz4⟩ := h4.one
    unfold EV.one at oz4
    unfold EV.cells at cz4
    clear hK hI hsub hlin hon hfn hbn
    repeat' first | (simp (disch := first | omega | assumption) only [go_sem, simprocAttr, *]) | refine aa0 (fun hb=>?_) fun hb=>?_ | refine aa1 (fun hb=>?_) fun hb=>?_
    all_goals (try simp only [FX] at *)
    all_goals first | omega | skip
    refine go _ _ ?_ rfl
    simp (disch := omega) only [go_sem, simprocAttr, Sl, ht, and_self, ac8]
   ·have hie : i = ts.length := by omega
    subst hie
    rw [List.take_length] at hy ⊢
    have hyok := hy.ok H.length
    generalize boxT ts = G
    clear hK hsub hlin
    repeat' first | (simp (disch := first | omega | assumption) only [go_sem, simprocAttr, *]) | refine aa0 (fun hb=>?_) fun hb=>?_ | refine aa1 (fun hb=>?_) fun hb=>?_
    all_goals (try simp only [FX] at *)
    all_goals first | omega | skip
    exact ⟨_, be4 (hy.newP _) (bf6 hyok) rfl rfl, y, rfl, hy⟩
  have k4 : kd = 4 := by omega
  subst k4
  rw [if_neg (by omega), if_neg (by omega), if_neg (by omega), if_pos rfl]
  obtain ⟨u, hu⟩ := ac4 (l := ts) (i := 0) (by omega)
  have hum := List.mem_of_getElem? hu
  obtain ⟨y, h1, h2⟩ := dd9 (E := E) hS s hs w x0 ts lo hi hx0 u hu (hlin u hum) (hsub u hum) (by omega) (by omega) x a hx ha k o _ (g2 (.row 8 [.agg [.int .i64 4, .int .u64 (w 0 : Nat), .int .u64 (w 1 : Nat), .int .u64 (w 2 : Nat), .int .u64 (w 3 : Nat), x0, .int .i64 lo, .int .i64 hi]]))
  rw [s2] at h1
  have hyok := h2.ok H.length
  obtain ⟨cy, oy⟩ := h2.one
  generalize cntT a = c at lf hcp
  generalize de6 s ts lo hi a = ou at h1 ⊢
  clear ih hsub hlin hlT he ho hfl hfb hself s1 g1 g2 s2 hc0 hcle
  unfold EV.one at ox oF oy
  unfold EV.cells at cx cf cy
  repeat' first | (simp (disch := first | omega | assumption) only [go_sem, simprocAttr, *]) | refine aa0 (fun hb=>?_) fun hb=>?_ | refine aa1 (fun hb=>?_) fun hb=>?_
  all_goals (try simp only [FX] at *)
  all_goals first | omega | skip
  exact ⟨_, be4 (h2.newP _) (bf6 hyok) rfl rfl, y, rfl, h2⟩
end
mutual
def nodW : RT → Int
 | .mk _ _ _ ts _ _ => nodL ts 1
def nodL : List RT → Int → Int
 | [], n => n
 | t :: ts, n => nodL ts (IntKind.i64.wrap (n + nodW t))
end
mutual
def depT : RT → Nat
 | .mk _ _ _ ts _ _ => depL ts 0 + 1
def depL : List RT → Nat → Nat
 | [], d => d
 | t :: ts, d => depL ts (if d < depT t then depT t else d)
end
def capW (v : Int) : Int := if 1000000 < v then 1000000 else v
def wN (k hi n : Int) : Int := if k = 4 ∧ hi < 0 then capW ((if k = 4 ∧ 1 < hi ∧ hi ≤ 64 then capW (n * hi) else n) * 40) else if k = 4 ∧ 1 < hi ∧ hi ≤ 64 then capW (n * hi) else n
mutual
def wT : RT → Int
 | .mk k _ _ ts _ hi => wN k hi (wL ts 1)
def wL : List RT → Int → Int
 | [], n => n
 | t :: ts, n => wL ts (capW (n + wT t))
end
theorem cn0 : ∀ {ts : List RT} {i : Nat} {t : RT} (n : Int), ts[i]? = some t → nodL (ts.take (i + 1)) n = IntKind.i64.wrap (nodL (ts.take i) n + nodW t)
 | [], i, t, n, h => by simp at h
 | u :: ts, 0, t, n, h => by
  simp only [List.getElem?_cons_zero, Option.some.injEq] at h
  subst h
  simp [nodL]
 | u :: ts, i + 1, t, n, h => by
  have ih := cn0 (ts := ts) (i := i) (t := t) (IntKind.i64.wrap (n + nodW u)) (by simpa using h)
  simp only [List.take_succ_cons, nodL, ih]
theorem cp5 : ∀ {ts : List RT} {i : Nat} {t : RT} (d : Nat), ts[i]? = some t → depL (ts.take (i + 1)) d = if depL (ts.take i) d < depT t then depT t else depL (ts.take i) d
 | [], i, t, d, h => by simp at h
 | u :: ts, 0, t, d, h => by
  simp only [List.getElem?_cons_zero, Option.some.injEq] at h
  subst h
  simp [depL]
 | u :: ts, i + 1, t, d, h => by
  have ih := cp5 (ts := ts) (i := i) (t := t) (if d < depT u then depT u else d) (by simpa using h)
  simp only [List.take_succ_cons, depL, ih]
theorem dk5 : ∀ {ts : List RT} {i : Nat} {t : RT} (n : Int), ts[i]? = some t → wL (ts.take (i + 1)) n = capW (wL (ts.take i) n + wT t)
 | [], i, t, n, h => by simp at h
 | u :: ts, 0, t, n, h => by
  simp only [List.getElem?_cons_zero, Option.some.injEq] at h
  subst h
  simp [wL]
 | u :: ts, i + 1, t, n, h => by
  have ih := dk5 (ts := ts) (i := i) (t := t) (capW (n + wT u)) (by simpa using h)
  simp only [List.take_succ_cons, wL, ih]
theorem cx1 : ∀ (ts : List RT) (d : Nat), d ≤ depL ts d ∧ ∀ t ∈ ts, depT t ≤ depL ts d
 | [], d => ⟨Nat.le_refl _, fun t h => by simp at h⟩
 | u :: ts, d => by
  obtain ⟨h1, h2⟩ := cx1 ts (if d < depT u then depT u else d)
  have h3 : d ≤ (if d < depT u then depT u else d) ∧ depT u ≤ (if d < depT u then depT u else d) := by split <;> omega
  simp only [depL]
  refine ⟨by omega, fun t h => ?_⟩
  rcases List.mem_cons.1 h with rfl | h
  ·omega
  ·exact h2 t h
theorem dw1 (ts : List RT) (i : Nat) : depL (ts.take i) 0 ≤ depL ts 0 := by
 have key : ∀ (a b : List RT) (d : Nat), depL (a ++ b) d = depL b (depL a d) := by
  intro a
  induction a with
  | nil => intro b d; rfl
  | cons u a ih => intro b d; simp only [List.cons_append, depL, ih]
 have := key (ts.take i) (ts.drop i) 0
 rw [List.take_append_drop] at this
 rw [this]
 exact (cx1 _ _).1
theorem dx1 {v : Int} (h : 1 ≤ v) : 1 ≤ capW v ∧ capW v ≤ 1000000 ∧ capW v ≤ v := by unfold capW; split <;> omega
theorem wN_b {k hi n : Int} (h : 1 ≤ n ∧ n ≤ 1000000) : 1 ≤ wN k hi n ∧ wN k hi n ≤ 1000000 ∧ (wN k hi n < 1000000 → n ≤ wN k hi n) := by
 have h1 : ∀ m : Int, 1 ≤ m → m ≤ 1000000 → 1 ≤ capW (m * 40) ∧ capW (m * 40) ≤ 1000000 ∧ (capW (m * 40) < 1000000 → m ≤ capW (m * 40)) := fun m h _ => by unfold capW; split <;> omega
 have h2 : 1 < hi → n ≤ n * hi := fun h' => by
  have := Int.mul_le_mul_of_nonneg_left (show (1 : Int) ≤ hi by omega) (show 0 ≤ n by omega)
  omega
 unfold wN
 split
 ·rename_i hc
  rw [if_neg (by omega)]
  exact h1 n h.1 h.2
 ·split
  ·rename_i hc
   have h3 := h2 hc.2.1
   unfold capW
   split <;> omega
  ·omega
theorem w_b : ∀ t : RT, 1 ≤ wT t ∧ wT t ≤ 1000000 := by
 intro t
 refine RT.rec (motive_1 := fun t => 1 ≤ wT t ∧ wT t ≤ 1000000) (motive_2 := fun ts => ∀ n, 1 ≤ n ∧ n ≤ 1000000 → 1 ≤ wL ts n ∧ wL ts n ≤ 1000000) ?_ ?_ ?_ t
 ·intro k w x ts lo hi ih
  have := wN_b (k := k) (hi := hi) (ih 1 (by omega))
  simp only [wT]
  exact ⟨this.1, this.2.1⟩
 ·intro n h; exact h
 ·intro t ts h1 h2 n hn
  simp only [wL]
  have := dx1 (v := n + wT t) (by omega)
  exact h2 _ ⟨this.1, this.2.1⟩
theorem wL_b : ∀ (ts : List RT) (n : Int), 1 ≤ n ∧ n ≤ 1000000 → 1 ≤ wL ts n ∧ wL ts n ≤ 1000000
 | [], n, h => h
 | t :: ts, n, h => by
  have := w_b t
  have h2 := dx1 (v := n + wT t) (by omega)
  simp only [wL]
  exact wL_b ts _ ⟨h2.1, h2.2.1⟩
mutual
def szT : RT → Nat
 | .mk _ _ _ ts _ _ => szL ts + 1
def szL : List RT → Nat
 | [] => 0
 | t :: ts => szT t + szL ts
end
theorem sz_w : ∀ t : RT, wT t < 1000000 → (szT t : Int) ≤ wT t := by
 intro t
 refine RT.rec (motive_1 := fun t => wT t < 1000000 → (szT t : Int) ≤ wT t) (motive_2 := fun ts => ∀ n, 1 ≤ n ∧ n ≤ 1000000 → wL ts n < 1000000 → n + szL ts ≤ wL ts n) ?_ ?_ ?_ t
 ·intro k w x ts lo hi ih h
  simp only [wT] at h ⊢
  have hb := wL_b ts 1 (by omega)
  have h2 := (wN_b (k := k) (hi := hi) hb).2.2 h
  have h3 := ih 1 (by omega) (by omega)
  simp only [szT]
  omega
 ·intro n hn h
  simp [wL, szL]
 ·intro t ts h1 h2 n hn h
  simp only [wL] at h ⊢
  have hw := w_b t
  have hb := dx1 (v := n + wT t) (by omega)
  have h3 := h2 _ ⟨hb.1, hb.2.1⟩ h
  have h4 : capW (n + wT t) = n + wT t := by
   by_cases hc : 1000000 < n + wT t
   ·have e : capW (n + wT t) = 1000000 := if_pos hc
    rw [e] at h3 h
    omega
   ·exact if_neg hc
  rw [h4] at h3 h ⊢
  have h5 := h1 (by omega)
  simp only [szL]
  omega
theorem cm9 : ∀ t : RT, szT t ≤ 1000000 → nodW t = szT t := by
 intro t
 refine RT.rec (motive_1 := fun t => szT t ≤ 1000000 → nodW t = szT t) (motive_2 := fun ts => ∀ n : Int, 1 ≤ n → n + szL ts ≤ 1000001 → nodL ts n = n + szL ts) ?_ ?_ ?_ t
 ·intro k w x ts lo hi ih h
  simp only [szT] at h
  simp only [nodW, szT]
  rw [ih 1 (by omega) (by omega)]
  omega
 ·intro n hn h
  simp [nodL, szL]
 ·intro t ts h1 h2 n hn h
  simp only [szL] at h
  simp only [nodL, szL]
  have hz : szT t ≤ 1000000 := by omega
  rw [h1 hz]
  have : IntKind.i64.wrap (n + szT t) = n + szT t := bv9 (by omega) (by omega)
  rw [this, h2 _ (by omega) (by omega)]
  omega
theorem ej5 : ∀ t : RT, depT t ≤ szT t := by
 intro t
 refine RT.rec (motive_1 := fun t => depT t ≤ szT t) (motive_2 := fun ts => ∀ d, depL ts d ≤ d + szL ts) ?_ ?_ ?_ t
 ·intro k w x ts lo hi ih
  have := ih 0
  simp only [depT, szT]
  omega
 ·intro d; simp [depL, szL]
 ·intro t ts h1 h2 d
  simp only [depL, szL]
  have := h2 (if d < depT t then depT t else d)
  split at this <;> split <;> omega
theorem cj0 : ∀ (ts : List RT) (e : Nat), depL ts e = max e (depL ts 0)
 | [], e => by simp [depL]
 | t :: ts, e => by
  have h1 := cj0 ts (if e < depT t then depT t else e)
  have h2 := cj0 ts (if 0 < depT t then depT t else 0)
  simp only [depL]
  rw [h1, h2]
  split <;> split <;> omega
theorem ek4 : ∀ t : RT, ∀ (d : Nat) (n m : Int), 0 ≤ n → n + szT t ≤ 1000000 → d + szT t ≤ 1000001 → 1 ≤ d → bn7 t d (n, m) = (n + szT t, max m ((d : Int) + depT t - 1)) := by
 intro t
 refine RT.rec (motive_1 := fun t => ∀ (d : Nat) (n m : Int), 0 ≤ n → n + szT t ≤ 1000000 → d + szT t ≤ 1000001 → 1 ≤ d → bn7 t d (n, m) = (n + szT t, max m ((d : Int) + depT t - 1)))
  (motive_2 := fun ts => ∀ (d : Nat) (n m : Int), 0 ≤ n → n + szL ts ≤ 1000000 → d + szL ts ≤ 1000001 → 1 ≤ d → (d : Int) - 1 ≤ m → bk0 ts d (n, m) = (n + szL ts, max m ((d : Int) - 1 + depL ts 0))) ?_ ?_ ?_ t
 ·intro k w x ts lo hi ih d n m hn h1 h2 h3
  simp only [szT] at h1 h2
  simp only [bn7, szT, depT]
  have e1 : IntKind.i64.wrap ((d : Int) + 1) = ((d + 1 : Nat) : Int) := by rw [bv9 (by omega) (by omega)]; rfl
  have e2 : IntKind.i64.wrap (n + 1) = n + 1 := bv9 (by omega) (by omega)
  rw [e1, e2, ih (d + 1) _ _ (by omega) (by omega) (by omega) (by omega) (by split <;> omega)]
  rw [Prod.mk.injEq]
  refine ⟨by omega, ?_⟩
  split <;> omega
 ·intro d n m hn h1 h2 h3 h4
  simp only [bk0, szL, depL]
  rw [Prod.mk.injEq]
  exact ⟨by omega, by omega⟩
 ·intro t ts h1 h2 d n m hn h3 h4 h5 h6
  simp only [szL] at h3 h4
  simp only [bk0, szL, depL]
  rw [h1 d n m hn (by omega) (by omega) h5, h2 d _ _ (by omega) (by omega) (by omega) h5 (by omega), cj0 ts (if 0 < depT t then depT t else 0)]
  rw [Prod.mk.injEq]
  refine ⟨by omega, ?_⟩
  split <;> omega
theorem ej3 {t : RT} (h : szT t ≤ 100000) : mayT t = (decide (nodW t ≤ 300) && (decide ((depT t : Int) ≤ 30) && am5 t)) := by
 have h1 := ek4 t 1 0 0 (by omega) (by omega) (by omega) (by omega)
 have h2 := cm9 t (by omega)
 unfold mayT
 rw [show ((1 : Nat) : Int) = 1 from rfl] at h1
 rw [h1, h2]
 have e1 : decide ((0 : Int) + szT t ≤ 300) = decide ((szT t : Int) ≤ 300) := by rw [Int.zero_add]
 have e2 : decide (max 0 ((1 : Int) + depT t - 1) ≤ 30) = decide ((depT t : Int) ≤ 30) := by
  rw [Bool.eq_iff_iff, decide_eq_true_eq, decide_eq_true_eq]
  omega
 simp only [e1, e2]
theorem cc6 : bp1 fun _ => 0 := fun i => by simp
def Le (k : Nat) (a b : List Bool) : Prop := ∀ i, a.getD i false = true → b.getD (k + i) false = true
def Emb2 (k m M : Nat) (f F : List Bool → List Bool) : Prop := ∀ a b, a.length = m → b.length = M → Le k a b → Le k (f a) (F b)
theorem Le.or {k : Nat} {a b c d : List Bool} (h1 : Le k a b) (h2 : Le k c d) (hl : a.length = c.length) (hr : b.length = d.length) : Le k (orL a c) (orL b d) := fun i hi => by
 rw [af1 hl, Bool.or_eq_true] at hi
 rw [af1 hr]
 rcases hi with hi | hi
 ·rw [h1 i hi, Bool.true_or]
 ·rw [h2 i hi, Bool.or_true]
theorem Le.left {k : Nat} {a b d : List Bool} (h : Le k a b) (hr : b.length = d.length) : Le k a (orL b d) := fun i hi => by rw [af1 hr, h i hi, Bool.true_or]
theorem Le.right {k : Nat} {a b d : List Bool} (h : Le k a d) (hr : b.length = d.length) : Le k a (orL b d) := fun i hi => by rw [af1 hr, h i hi, Bool.or_true]
theorem Le.falses {k m : Nat} {b : List Bool} : Le k (falses m) b := fun i hi => by rw [an5] at hi; simp at hi
section
variable {k m M : Nat} {f F : List Bool → List Bool}
theorem dv9 (hf : Lin m f) (hF : Lin M F) (h : Emb2 k m M f F) {a b : List Bool} (ha : a.length = m) (hb : b.length = M) (hl : Le k a b) : ∀ n, Le k (powN f n a) (powN F n b)
 | 0 => hl
 | n + 1 => h _ _ ((bi5 hf n).len _ ha) ((bi5 hF n).len _ hb) (dv9 hf hF h ha hb hl n)
theorem dv8 (hf : Lin m f) (hF : Lin M F) (h : Emb2 k m M f F) {a b : List Bool} (ha : a.length = m) (hb : b.length = M) (hl : Le k a b) : ∀ n, Le k (sumN f a n) (sumN F b n)
 | 0 => hl
 | n + 1 => by
  have ih := dv8 hf hF h ha hb hl n
  have l1 := bi3 hf ha n
  have l2 := bi3 hF hb n
  exact ih.or (h _ _ l1 l2 ih) (by rw [hf.len _ l1, l1]) (by rw [hF.len _ l2, l2])
theorem db3 (hF : Lin M F) {a b : List Bool} (hb : b.length = M) {n : Nat} (hl : Le k a (sumN F b n)) : ∀ j, Le k a (sumN F b (n + j))
 | 0 => hl
 | j + 1 => by
  have l2 := bi3 hF hb (n + j)
  exact (db3 hF hb hl j).left (show (sumN F b (n + j)).length = (F (sumN F b (n + j))).length by rw [hF.len _ l2, l2])
end
theorem db2 {k : Nat} {s S : List UInt8} (hE : ∀ i b, s[i]? = some b → S[k + i]? = some b) (hk : k + s.length ≤ S.length) {t : RT} (ht : t.Ok) : Emb2 k (s.length + 1) (S.length + 1) (aa6 s t) (aa6 S t) := by
 induction ht with
 | mk kd w x ts lo hi hw hx hts ih =>
  have e1 : ∀ s : List UInt8, aa6 s (.mk kd w x ts lo hi) = au7 s kd w lo hi (ts.map (aa6 s)) := fun s => by funext a; rw [aa6, ax8]
  rw [e1, e1]
  have hl1 : ∀ t ∈ ts, Lin (s.length + 1) (aa6 s t) := fun t h => av8 s (hts t h)
  have hl2 : ∀ t ∈ ts, Lin (S.length + 1) (aa6 S t) := fun t h => av8 S (hts t h)
  clear e1 hx hts
  intro a b ha hb hab
  unfold au7
  by_cases k0 : kd = 0
  ·rw [if_pos k0, if_pos k0]; exact hab
  rw [if_neg k0, if_neg k0]
  by_cases k1 : kd = 1
  ·rw [if_pos k1, if_pos k1]
   intro i hi
   cases i with
   | zero => rw [bh9] at hi; simp at hi
   | succ i =>
    by_cases hs : i < s.length
    ·obtain ⟨c, hc⟩ := ac4 hs
     rw [au6 hc, Bool.and_eq_true] at hi
     rw [show k + (i + 1) = (k + i) + 1 by omega, au6 (hE i c hc), hab i hi.1, hi.2]
     rfl
    ·rw [bi0 (by omega)] at hi
     simp at hi
  rw [if_neg k1, if_neg k1]
  by_cases k2 : kd = 2
  ·rw [if_pos k2, if_pos k2]
   clear k0 k1 k2
   induction ts generalizing a b with
   | nil => exact hab
   | cons t ts ih2 =>
    simp only [List.map_cons, List.foldl_cons]
    exact ih2 (fun u hu => ih u (by simp [hu])) (fun u hu => hl1 u (by simp [hu])) (fun u hu => hl2 u (by simp [hu])) _ _ ((hl1 t (by simp)).len _ ha) ((hl2 t (by simp)).len _ hb) (ih t (by simp) a b ha hb hab)
  rw [if_neg k2, if_neg k2]
  by_cases k3 : kd = 3
  ·rw [if_pos k3, if_pos k3]
   clear k0 k1 k2 k3
   have key : ∀ (us : List RT), (∀ t ∈ us, t ∈ ts) → ∀ o O, o.length = s.length + 1 → O.length = S.length + 1 → Le k o O →
     Le k ((us.map (aa6 s)).foldl (fun o f => orL o (f a)) o) ((us.map (aa6 S)).foldl (fun o f => orL o (f b)) O) := by
    intro us
    induction us with
    | nil => intro _ o O _ _ h; exact h
    | cons t us ih2 =>
     intro hm o O h1 h2 h
     have m1 := (hl1 t (hm t (by simp))).len _ ha
     have m2 := (hl2 t (hm t (by simp))).len _ hb
     simp only [List.map_cons, List.foldl_cons]
     exact ih2 (fun u hu => hm u (by simp [hu])) _ _ (by rw [ah8 (by omega), h1]) (by rw [ah8 (by omega), h2]) (h.or (ih t (hm t (by simp)) a b ha hb hab) (by omega) (by omega))
   exact key ts (fun _ h => h) _ _ (aj2 _) (aj2 _) .falses
  rw [if_neg k3, if_neg k3]
  have hh : ∃ f F, (ts.map (aa6 s)).headD (fun a => a) = f ∧ (ts.map (aa6 S)).headD (fun a => a) = F ∧ Lin (s.length + 1) f ∧ Lin (S.length + 1) F ∧ Emb2 k (s.length + 1) (S.length + 1) f F := by
   cases ts with
   | nil => exact ⟨_, _, rfl, rfl, Lin.id _, Lin.id _, fun _ _ _ _ h => h⟩
   | cons t ts => exact ⟨_, _, rfl, rfl, hl1 t (by simp), hl2 t (by simp), ih t (by simp)⟩
  obtain ⟨f, F, e1, e2, h1, h2, h3⟩ := hh
  rw [e1, e2]
  have p1 := (bi5 h1 lo.toNat).len _ ha
  have p2 := (bi5 h2 lo.toNat).len _ hb
  have hs := dv8 h1 h2 h3 p1 p2 (dv9 h1 h2 h3 ha hb hab lo.toNat)
  by_cases hn : hi < 0
  ·rw [if_pos hn, if_pos hn]
   have := db3 h2 p2 (hs (s.length + 1)) (S.length - s.length)
   rw [show s.length + 1 + (S.length - s.length) = S.length + 1 by omega] at this
   exact this
  ·rw [if_neg hn, if_neg hn]
   exact hs _
theorem ca7 {s0 s1 : List UInt8} {a b : RT} (ha : a.Ok) (hb : b.Ok) (h0 : (aa6 s0 a (atL s0.length 0)).getD s0.length false = true) (h1 : (aa6 s1 b (atL s1.length 0)).getD s1.length false = true) {x : List Bool}
  (hx : x.length = (s0 ++ s1).length + 1) (hl : Le 0 (aa6 (s0 ++ s1) a (atL (s0 ++ s1).length 0)) x) : (aa6 (s0 ++ s1) b x).getD (s0 ++ s1).length false = true := by
 have g0 : (aa6 (s0 ++ s1) a (atL (s0 ++ s1).length 0)).getD s0.length false = true := by
  have := db2 (k := 0) (s := s0) (S := s0 ++ s1) (fun i b h => by rw [Nat.zero_add, List.getElem?_append_left (aa3 h)]; exact h) (by simp) ha (atL s0.length 0) (atL (s0 ++ s1).length 0) (ba2 _ _) (ba2 _ _)
   (fun i hi => by
    rw [cc0 (by omega), decide_eq_true_eq] at hi
    rw [hi, cc0 (by omega)]; rfl) _ h0
  rwa [Nat.zero_add] at this
 have g1 := db2 (k := s0.length) (s := s1) (S := s0 ++ s1) (fun i b h => by rw [List.getElem?_append_right (by omega), Nat.add_sub_cancel_left]; exact h) (by simp) hb (atL s1.length 0) x (ba2 _ _) hx
   (fun i hi => by
    rw [cc0 (by omega), decide_eq_true_eq] at hi
    rw [hi, Nat.add_zero]
    have := hl _ g0
    rwa [Nat.zero_add] at this) _ h1
 rw [List.length_append]
 exact g1
structure Add (m : Nat) (g : List Bool → Bool) : Prop where
 or : ∀ a b, a.length = m → b.length = m → g (orL a b) = (g a || g b)
 no : g (falses m) = false
section
variable {m : Nat} {f : List Bool → List Bool} {g h : List Bool → Bool}
theorem Add.comp (hg : Add m g) (hf : Lin m f) : Add m fun a => g (f a) := ⟨fun a b ha hb => by rw [hf.or a b ha hb, hg.or _ _ (hf.len a ha) (hf.len b hb)], by rw [hf.no, hg.no]⟩
theorem Add.sum (hg : Add m g) (hh : Add m h) : Add m fun a => g a || h a := ⟨fun a b ha hb => by
 show (g (orL a b) || h (orL a b)) = _
 rw [hg.or a b ha hb, hh.or a b ha hb]
 cases g a <;> cases g b <;> cases h a <;> cases h b <;> rfl, by rw [hg.no, hh.no]; rfl⟩
theorem Add.congr (hh : Add m h) (e : ∀ a, a.length = m → g a = h a) : Add m g := ⟨fun a b ha hb => by rw [e _ (by rw [ah8 (by omega)]; exact ha), e _ ha, e _ hb, hh.or a b ha hb], by rw [e _ (aj2 m), hh.no]⟩
end
mutual
def bg0 : RT → Bool
 | .mk k w _ ts lo _ => if k = 0 then false else if k = 1 then zset w else if k = 2 then bb2 ts else if k = 3 then cr9 ts else decide (0 < lo) && eq7 ts
def bb2 : List RT → Bool
 | [] => false
 | t :: ts => bg0 t || bb2 ts
def cr9 : List RT → Bool
 | [] => true
 | t :: ts => bg0 t && cr9 ts
def eq7 : List RT → Bool
 | [] => false
 | t :: _ => bg0 t
end
theorem ck4 : ∀ {ts : List RT}, bb2 ts = false → ∀ t ∈ ts, bg0 t = false
 | [], _, t, h => by simp at h
 | u :: ts, hn, t, h => by
  simp only [bb2, Bool.or_eq_false_iff] at hn
  rcases List.mem_cons.1 h with rfl | h
  ·exact hn.1
  ·exact ck4 hn.2 t h
theorem bs8 : ∀ {ts : List RT}, bl4 ts = true → ∀ t ∈ ts, am5 t = true
 | [], _, t, h => by simp at h
 | u :: ts, hn, t, h => by
  simp only [bl4, Bool.and_eq_true] at hn
  rcases List.mem_cons.1 h with rfl | h
  ·exact hn.1
  ·exact bs8 hn.2 t h
/-! ### The program's tree -/
def slT : List RT → EV
 | [] => .nilsl
 | t :: ts => .imm 8 ((t :: ts).map RT.E)
theorem er0 {l : List RT} (h : ∀ t ∈ l, t.Ok) (hl : l.length ≤ 9223372036854775807) : SlV 8 (slT l) (l.map RT.E) := by
 cases l with
 | nil => exact .nil
 | cons t ts =>
  refine .imm (fun n => ?_) (by simpa using hl)
  have : ∀ us : List RT, (∀ t ∈ us, t.Ok) → okL n (us.map RT.E) = true := by
   intro us
   induction us with
   | nil => intro _; rfl
   | cons u us ih => intro h; simp [okL, RT.ok (h u (by simp)), ih fun v hv => h v (by simp [hv])]
  exact this _ h
def ak3 (l : List (RT × Bool)) : List RT := (l.filter fun p => p.2).map fun p => p.1
def alH : List (RT × Bool) → (Nat → Nat) → Int → Int → RT × Bool
 | [], _, _, _ => (.mk 0 (fun _ => 0) .nilsl [] 0 0, true)
 | p :: _, w, lo, hi => if p.2 = true then (.mk 4 w (.imm 8 [p.1.E]) [p.1] lo hi, true) else (.mk 0 (fun _ => 0) .nilsl [] 0 0, decide (lo = 0))
mutual
def alT : RT → RT × Bool
 | .mk k w x ts lo hi =>
  if k = 1 then (.mk k w x ts lo hi, !zset w)
  else if k = 2 then if (alL ts).all (fun p => p.2) = true then (.mk 2 (fun _ => 0) (slT (ak3 (alL ts))) (ak3 (alL ts)) 0 0, decide (0 < (ak3 (alL ts)).length)) else (.mk k w x ts lo hi, false)
  else if k = 3 then (.mk 3 (fun _ => 0) (slT (ak3 (alL ts))) (ak3 (alL ts)) 0 0, decide (0 < (ak3 (alL ts)).length))
  else if k = 4 then alH (alL ts) w lo hi
  else (.mk k w x ts lo hi, true)
def alL : List RT → List (RT × Bool)
 | [] => []
 | t :: ts => alT t :: alL ts
end
theorem bj4 : ∀ ts : List RT, alL ts = ts.map alT
 | [] => by simp [alL]
 | t :: ts => by simp [alL, bj4 ts]
theorem co2 {l : List (RT × Bool)} {t : RT} : t ∈ ak3 l ↔ ∃ p ∈ l, p.2 = true ∧ p.1 = t := by
 unfold ak3
 simp only [List.mem_map, List.mem_filter]
 exact ⟨fun ⟨p, ⟨h1, h2⟩, h3⟩ => ⟨p, h1, h2, h3⟩, fun ⟨p, h1, h2, h3⟩ => ⟨p, ⟨h1, h2⟩, h3⟩⟩
theorem ca0 (l : List (RT × Bool)) : (ak3 l).length ≤ l.length := by
 unfold ak3
 rw [List.length_map]
 exact List.length_filter_le ..
theorem co1 {p : RT × Bool} {l : List (RT × Bool)} (h : p.2 = true) : ak3 (p :: l) = p.1 :: ak3 l := by simp [ak3, h]
theorem ee5 {p : RT × Bool} {l : List (RT × Bool)} (h : p.2 = false) : ak3 (p :: l) = ak3 l := by simp [ak3, h]
theorem cy6 : ∀ {ts : List RT}, (∀ t ∈ ts, (alT t).2 = !bg0 t) → ((alL ts).all (fun p => p.2) = !bb2 ts) ∧ (decide (0 < (ak3 (alL ts)).length) = !cr9 ts) ∧ (bb2 ts = false → (ak3 (alL ts)).length = ts.length)
 | [], _ => by simp [alL, bb2, cr9, ak3]
 | t :: ts, h => by
  obtain ⟨h1, h2, h3⟩ := cy6 (ts := ts) fun u hu => h u (by simp [hu])
  have ht := h t (by simp)
  cases hv : bg0 t with
  | true =>
   rw [hv] at ht
   refine ⟨?_, ?_, ?_⟩
   ·simp only [alL, List.all_cons, ht, bb2, hv]; rfl
   ·simp only [alL, ee5 ht, h2, cr9, hv, Bool.true_and]
   ·simp [bb2, hv]
  | false =>
   rw [hv] at ht
   have ht : (alT t).2 = true := ht
   refine ⟨?_, ?_, ?_⟩
   ·simp only [alL, List.all_cons, ht, bb2, hv, h1, Bool.true_and, Bool.false_or]
   ·simp [alL, co1 ht, cr9, hv]
   ·simp only [alL, co1 ht, bb2, hv, Bool.false_or, List.length_cons]
    intro h; rw [h3 h]
theorem et5 {t : RT} (ht : t.Ok) : am5 t = true → (alT t).1.Ok ∧ fitT (alT t).1 = true ∧ (alT t).2 = !bg0 t := by
 induction ht with
 | mk k w x ts lo hi hw hx hts ih =>
  intro hn
  have hself := RT.Ok.mk k w x ts lo hi hw hx hts
  have hfit := cm8 hn
  have hn0 := hn
  simp only [am5, Bool.and_eq_true] at hn
  obtain ⟨hn, hnl⟩ := hn
  have hm := bs8 hnl
  have hlen := hx.le
  rw [List.length_map] at hlen
  have hl := cy6 (ts := ts) fun t h => (ih t h (hm t h)).2.2
  have hg : ∀ t ∈ ak3 (alL ts), t.Ok ∧ fitT t = true := fun t h => by
   obtain ⟨p, h1, _, rfl⟩ := co2.1 h
   rw [bj4] at h1
   obtain ⟨u, hu, rfl⟩ := List.mem_map.1 h1
   have := ih u hu (hm u hu)
   exact ⟨this.1, this.2.1⟩
  have hgl : (ak3 (alL ts)).length ≤ ts.length := by
   have := ca0 (alL ts)
   rw [bj4] at this ⊢
   simpa using this
  have hfl : ∀ us : List RT, (∀ t ∈ us, fitT t = true) → fitL us = true := by
   intro us
   induction us with
   | nil => intro _; rfl
   | cons u us ih => intro h; simp [fitL, h u (by simp), ih fun v hv => h v (by simp [hv])]
  have mk : ∀ kk : Int, kk = 2 ∨ kk = 3 → (RT.mk kk (fun _ => 0) (slT (ak3 (alL ts))) (ak3 (alL ts)) 0 0).Ok ∧ fitT (.mk kk (fun _ => 0) (slT (ak3 (alL ts))) (ak3 (alL ts)) 0 0) = true := fun kk hk => by
   refine ⟨.mk _ _ _ _ _ _ cc6 (er0 (fun t h => (hg t h).1) (by omega)) fun t h => (hg t h).1, ?_⟩
   simp only [fitT, hfl _ fun t h => (hg t h).2, Bool.and_true, fitB]
   rcases hk with rfl | rfl <;> simp
  by_cases k0 : k = 0
  ·subst k0
   have e : alT (.mk 0 w x ts lo hi) = (.mk 0 w x ts lo hi, true) := by rw [alT]; simp
   rw [e]
   exact ⟨hself, hfit, by simp [bg0]⟩
  by_cases k1 : k = 1
  ·subst k1
   have e : alT (.mk 1 w x ts lo hi) = (.mk 1 w x ts lo hi, !zset w) := by rw [alT]; simp
   rw [e]
   exact ⟨hself, hfit, by simp [bg0]⟩
  by_cases k2 : k = 2
  ·subst k2
   have hv : bg0 (.mk 2 w x ts lo hi) = bb2 ts := by simp [bg0]
   rw [alT, if_neg (by omega), if_pos rfl, hv]
   cases hc : bb2 ts with
   | true =>
    rw [hc] at hl
    rw [if_neg (by rw [hl.1]; simp)]
    exact ⟨hself, hfit, rfl⟩
   | false =>
    rw [hc] at hl
    rw [if_pos (by rw [hl.1]; rfl)]
    refine ⟨(mk 2 (.inl rfl)).1, (mk 2 (.inl rfl)).2, ?_⟩
    simp [bf4] at hn
    have h1 := hl.2.2 rfl
    show decide (0 < (ak3 (alL ts)).length) = true
    rw [decide_eq_true_eq, h1]
    omega
  by_cases k3 : k = 3
  ·subst k3
   have hv : bg0 (.mk 3 w x ts lo hi) = cr9 ts := by simp [bg0]
   rw [alT, if_neg (by omega), if_neg (by omega), if_pos rfl, hv]
   exact ⟨(mk 3 (.inr rfl)).1, (mk 3 (.inr rfl)).2, hl.2.1⟩
  by_cases k4 : k = 4
  ·subst k4
   simp [bf4] at hn
   obtain ⟨hn1, hz, hlo, hlo2, hhi⟩ := hn
   match ts, hn1 with
   | [t0], _ =>
    have h0 := ih t0 (by simp) (hm t0 (by simp))
    have hv : bg0 (.mk 4 w x [t0] lo hi) = (decide (0 < lo) && bg0 t0) := by simp [bg0, eq7]
    rw [alT, if_neg (by omega), if_neg (by omega), if_neg (by omega), if_pos rfl, hv, alL, alH]
    cases hc : bg0 t0 with
    | true =>
     rw [hc] at h0
     rw [if_neg (by rw [h0.2.2]; simp)]
     refine ⟨.mk _ _ _ _ _ _ cc6 .nil fun t h => by simp at h, by simp [fitT, fitB, fitL], ?_⟩
     show decide (lo = 0) = _
     by_cases h : lo = 0
     ·subst h; rfl
     ·rw [decide_eq_false h, decide_eq_true (show 0 < lo by omega)]; rfl
    | false =>
     rw [hc] at h0
     rw [if_pos (by rw [h0.2.2]; rfl)]
     refine ⟨.mk _ _ _ _ _ _ hw (.imm (es := [(alT t0).1.E]) (fun n => by simp [okL, RT.ok h0.1]) (by simp)) fun t h => by
      simp only [List.mem_cons, List.not_mem_nil, or_false] at h
      subst h; exact h0.1, ?_, by simp⟩
     simp only [fitT, fitL, h0.2.1, Bool.and_true]
     simp only [fitT, Bool.and_eq_true] at hfit
     exact hfit.1
  ·simp [bf4, k0, k1, k2, k3, k4] at hn
section
variable {E : Env} [R : EndR E]
theorem bo1 {t : RT} (ht : t.Ok) : ∀ H, den E R.ae4 [t.E] H = some (.ret (.int .i64 (nodW t)), H) := by
 induction ht with
 | mk kd w x ts lo hi hw hx hts ih =>
  intro H
  have lx := hx.len
  rw [List.length_map] at lx
  have lex := hx.le
  rw [List.length_map] at lex
  obtain ⟨cx, ox⟩ := hx.one
  rw [show nodW (.mk kd w x ts lo hi) = nodL ts 1 by simp [nodW]]
  refine af6 R.au1 (by simp) ?_
  unfold Gn.an0 Gn.aj6
  show @Hd E ⟨_⟩ ⟨am4 [.agg [.int .i64 kd, .int .u64 (w 0 : Nat), .int .u64 (w 1 : Nat), .int .u64 (w 2 : Nat), .int .u64 (w 3 : Nat), x, .int .i64 lo, .int .i64 hi]]⟩ ⟨_⟩ ⟨_⟩
  unfold EV.one at ox
  unfold EV.cells at cx
  repeat' first | (simp (disch := first | omega | assumption) only [go_sem, simprocAttr, *]) | refine aa0 (fun hb=>?_) fun hb=>?_ | refine aa1 (fun hb=>?_) fun hb=>?_
  all_goals (try simp only [FX] at *)
  refine ak0 (ι := Nat) (fun i => i ≤ ts.length) (fun i => ts.length - i) (fun i => [(1, .ptr H.length 8 0 0), (3, .int .i64 (nodL (ts.take i) 1)), (4, .int .i64 i)])
   (fun i => H ++ [some (.row 8 [.agg [.int .i64 kd, .int .u64 (w 0 : Nat), .int .u64 (w 1 : Nat), .int .u64 (w 2 : Nat), .int .u64 (w 3 : Nat), x, .int .i64 lo, .int .i64 hi]])]) 0 (by omega) ?_ rfl ?_
  ·simp (disch := omega) only [go_sem, simprocAttr, Sl, List.take_zero, nodL]
  rintro i t hi ht K hK
  simp (disch := omega) only [go_sem, simprocAttr, Sl] at ht
  by_cases hlt : i < ts.length
  ·obtain ⟨y, hy⟩ := ac4 hlt
   have hat := hx.atT hy
   have hyl := RT.cells y
   have hyt : List.take 8 y.E.cells = y.E.cells := List.take_of_length_le (by omega)
   have hya : EV.agg y.E.cells = y.E := by cases y; rfl
   have hih := ih y (List.mem_of_getElem? hy)
   have go := fun s' H' => hK (i + 1) s' H' (by omega) (by omega)
   rw [cn0 1 hy] at go
   clear hK ih
   unfold EV.cells at hyt hyl hya hat
   repeat' first | (simp (disch := first | omega | assumption) only [go_sem, simprocAttr, *]) | refine aa0 (fun hb=>?_) fun hb=>?_ | refine aa1 (fun hb=>?_) fun hb=>?_
   all_goals (try simp only [FX] at *)
   all_goals first | omega | skip
   refine go _ _ ?_ rfl
   simp (disch := omega) only [go_sem, simprocAttr, Sl, ht, and_self, ac8]
  ·have hie : i = ts.length := by omega
   subst hie
   rw [List.take_length] at ht
   clear hK ih
   repeat' first | (simp (disch := first | omega | assumption) only [go_sem, simprocAttr, *]) | refine aa0 (fun hb=>?_) fun hb=>?_ | refine aa1 (fun hb=>?_) fun hb=>?_
   all_goals (try simp only [FX] at *)
   all_goals first | omega | skip
   exact aa4 rfl rfl
theorem cg1 {t : RT} (ht : t.Ok) : depT t ≤ 1000000 → ∀ H, den E R.ag4 [t.E] H = some (.ret (.int .i64 (depT t)), H) := by
 induction ht with
 | mk kd w x ts lo hi hw hx hts ih =>
  intro hd H
  rw [show depT (.mk kd w x ts lo hi) = depL ts 0 + 1 by simp [depT]] at hd ⊢
  have lx := hx.len
  rw [List.length_map] at lx
  have lex := hx.le
  rw [List.length_map] at lex
  obtain ⟨cx, ox⟩ := hx.one
  refine af6 R.aw4 (by simp) ?_
  unfold Gn.ap1 Gn.al5
  show @Hd E ⟨_⟩ ⟨am4 [.agg [.int .i64 kd, .int .u64 (w 0 : Nat), .int .u64 (w 1 : Nat), .int .u64 (w 2 : Nat), .int .u64 (w 3 : Nat), x, .int .i64 lo, .int .i64 hi]]⟩ ⟨_⟩ ⟨_⟩
  unfold EV.one at ox
  unfold EV.cells at cx
  repeat' first | (simp (disch := first | omega | assumption) only [go_sem, simprocAttr, *]) | refine aa0 (fun hb=>?_) fun hb=>?_ | refine aa1 (fun hb=>?_) fun hb=>?_
  all_goals (try simp only [FX] at *)
  refine ak0 (ι := Nat) (fun i => i ≤ ts.length) (fun i => ts.length - i) (fun i => [(1, .ptr H.length 8 0 0), (3, .int .i64 (depL (ts.take i) 0)), (4, .int .i64 i)])
   (fun i => H ++ [some (.row 8 [.agg [.int .i64 kd, .int .u64 (w 0 : Nat), .int .u64 (w 1 : Nat), .int .u64 (w 2 : Nat), .int .u64 (w 3 : Nat), x, .int .i64 lo, .int .i64 hi]])]) 0 (by omega) ?_ rfl ?_
  ·simp (disch := omega) only [go_sem, simprocAttr, Sl, List.take_zero, depL, Int.natCast_zero]
  rintro i t hi ht K hK
  simp (disch := omega) only [go_sem, simprocAttr, Sl] at ht
  by_cases hlt : i < ts.length
  ·obtain ⟨y, hy⟩ := ac4 hlt
   have hat := hx.atT hy
   have hyl := RT.cells y
   have hyt : List.take 8 y.E.cells = y.E.cells := List.take_of_length_le (by omega)
   have hya : EV.agg y.E.cells = y.E := by cases y; rfl
   have hyd := (cx1 ts 0).2 y (List.mem_of_getElem? hy)
   have hih := ih y (List.mem_of_getElem? hy) (by omega)
   have hld := dw1 ts i
   have go := fun s' H' => hK (i + 1) s' H' (by omega) (by omega)
   rw [cp5 0 hy] at go
   clear hK ih
   unfold EV.cells at hyt hyl hya hat
   generalize depL (ts.take i) 0 = d at ht go hld
   generalize depT y = e at hih go hyd
   by_cases hc : d < e
   ·rw [if_pos hc] at go
    repeat' first | (simp (disch := first | omega | assumption) only [go_sem, simprocAttr, *]) | refine aa0 (fun hb=>?_) fun hb=>?_ | refine aa1 (fun hb=>?_) fun hb=>?_
    all_goals (try simp only [FX] at *)
    all_goals first | omega | skip
    refine go _ _ ?_ rfl
    simp (disch := omega) only [go_sem, simprocAttr, Sl, ht, and_self, ac8]
   ·rw [if_neg hc] at go
    repeat' first | (simp (disch := first | omega | assumption) only [go_sem, simprocAttr, *]) | refine aa0 (fun hb=>?_) fun hb=>?_ | refine aa1 (fun hb=>?_) fun hb=>?_
    all_goals (try simp only [FX] at *)
    all_goals first | omega | skip
    refine go _ _ ?_ rfl
    simp (disch := omega) only [go_sem, simprocAttr, Sl, ht, and_self, ac8]
  ·have hie : i = ts.length := by omega
   subst hie
   rw [List.take_length] at ht
   clear hK ih
   repeat' first | (simp (disch := first | omega | assumption) only [go_sem, simprocAttr, *]) | refine aa0 (fun hb=>?_) fun hb=>?_ | refine aa1 (fun hb=>?_) fun hb=>?_
   all_goals (try simp only [FX] at *)
   all_goals first | omega | skip
   exact aa4 rfl rfl
end
section
variable {E : Env} [R : bt9 E]
theorem ds6 {t : RT} (ht : t.Ok) (H : Heap) : den E R.aj5 [t.E] H = some (.ret (.bool (decide (nodW t > 400))), H) := by
 have h1 := fun H => bo1 (E := E) ht H
 cases ht with
 | mk kd w x ts lo hi hw hx hts =>
 obtain ⟨cx, ox⟩ := hx.one
 generalize nodW (.mk kd w x ts lo hi) = n at h1 ⊢
 refine af6 R.au3 (by simp) ?_
 unfold Gn.an4 Gn.aj9
 unfold RT.E at h1 ⊢
 unfold EV.one at ox
 unfold EV.cells at cx
 simp only at h1
 repeat' first | (simp (disch := first | omega | assumption) only [go_sem, simprocAttr, *]) | refine aa0 (fun hb=>?_) fun hb=>?_ | refine aa1 (fun hb=>?_) fun hb=>?_
 all_goals (try simp only [FX] at *)
 all_goals first | omega | exact aa4 rfl rfl
theorem dc4 {t : RT} (ht : t.Ok) : ∀ H, den E R.ag7 [t.E] H = some (.ret (.int .i64 (wT t)), H) := by
 induction ht with
 | mk kd w x ts lo hi hw hx hts ih =>
  intro H
  have lx := hx.len
  rw [List.length_map] at lx
  have lex := hx.le
  rw [List.length_map] at lex
  obtain ⟨cx, ox⟩ := hx.one
  have hcap : ∀ v : Int, evMM false (.int .i64 v) (.int .i64 1000000) = some (.int .i64 (capW v)) := fun _ => rfl
  rw [show wT (.mk kd w x ts lo hi) = wN kd hi (wL ts 1) by simp [wT]]
  refine af6 R.ar6 (by simp) ?_
  unfold Gn.al6 Gn.ai8
  show @Hd E ⟨_⟩ ⟨am4 [.agg [.int .i64 kd, .int .u64 (w 0 : Nat), .int .u64 (w 1 : Nat), .int .u64 (w 2 : Nat), .int .u64 (w 3 : Nat), x, .int .i64 lo, .int .i64 hi]]⟩ ⟨_⟩ ⟨_⟩
  unfold EV.one at ox
  unfold EV.cells at cx
  repeat' first | (simp (disch := first | omega | assumption) only [go_sem, simprocAttr, *]) | refine aa0 (fun hb=>?_) fun hb=>?_ | refine aa1 (fun hb=>?_) fun hb=>?_
  all_goals (try simp only [FX] at *)
  refine ak0 (ι := Nat) (fun i => i ≤ ts.length) (fun i => ts.length - i) (fun i => [(1, .ptr H.length 8 0 0), (3, .int .i64 (wL (ts.take i) 1)), (4, .int .i64 i)])
   (fun i => H ++ [some (.row 8 [.agg [.int .i64 kd, .int .u64 (w 0 : Nat), .int .u64 (w 1 : Nat), .int .u64 (w 2 : Nat), .int .u64 (w 3 : Nat), x, .int .i64 lo, .int .i64 hi]])]) 0 (by omega) ?_ rfl ?_
  ·simp (disch := omega) only [go_sem, simprocAttr, Sl, List.take_zero, wL]
  rintro i t hil ht K hK
  simp (disch := omega) only [go_sem, simprocAttr, Sl] at ht
  by_cases hlt : i < ts.length
  ·obtain ⟨y, hy⟩ := ac4 hlt
   have hat := hx.atT hy
   have hyl := RT.cells y
   have hyt : List.take 8 y.E.cells = y.E.cells := List.take_of_length_le (by omega)
   have hya : EV.agg y.E.cells = y.E := by cases y; rfl
   have hih := ih y (List.mem_of_getElem? hy)
   have hb1 := w_b y
   have hb2 := wL_b (ts.take i) 1 (by omega)
   have go := fun s' H' => hK (i + 1) s' H' (by omega) (by omega)
   rw [dk5 1 hy] at go
   generalize wL (ts.take i) 1 = n at ht go hb2
   generalize wT y = m at hih go hb1
   clear hK ih
   unfold EV.cells at hyt hyl hya hat
   repeat' first | (simp (disch := first | omega | assumption) only [go_sem, simprocAttr, *]) | refine aa0 (fun hb=>?_) fun hb=>?_ | refine aa1 (fun hb=>?_) fun hb=>?_
   all_goals (try simp only [FX] at *)
   all_goals first | omega | skip
   refine go _ _ ?_ rfl
   simp (disch := omega) only [go_sem, simprocAttr, Sl, ht, and_self, ac8]
  ·have hie : i = ts.length := by omega
   subst hie
   rw [List.take_length] at ht
   have hb := wL_b ts 1 (by omega)
   generalize wL ts 1 = n at ht hb ⊢
   clear hK ih
   by_cases k4 : kd = 4
   ·subst k4
    by_cases h1 : 1 < hi ∧ hi ≤ 64
    ·have hp : n ≤ n * hi ∧ n * hi ≤ 64000000 := by
      have h2 := Int.mul_le_mul_of_nonneg_left (show (1 : Int) ≤ hi by omega) (show 0 ≤ n by omega)
      have h3 := Int.mul_le_mul_of_nonneg_left (show hi ≤ (64 : Int) by omega) (show 0 ≤ n by omega)
      omega
     have hr : wN 4 hi n = capW (n * hi) := by unfold wN; rw [if_neg (by omega), if_pos ⟨rfl, h1⟩]
     have h5 : ¬ hi < 0 := by omega
     obtain ⟨h1, h4⟩ := h1
     rw [hr]
     clear hr
     generalize hnh : n * hi = p at hp ⊢
     repeat' first | (simp (disch := first | omega | assumption) only [go_sem, simprocAttr, *]) | refine aa0 (fun hb=>?_) fun hb=>?_ | refine aa1 (fun hb=>?_) fun hb=>?_
     all_goals (try simp only [FX] at *)
     all_goals first | omega | skip
     exact aa4 rfl rfl
    ·by_cases h5 : hi < 0
     ·have hr : wN 4 hi n = capW (n * 40) := by unfold wN; rw [if_pos ⟨rfl, h5⟩, if_neg (fun h => h1 h.2)]
      have h6 : ¬ hi > 1 := by omega
      rw [hr]
      clear hr h1
      repeat' first | (simp (disch := first | omega | assumption) only [go_sem, simprocAttr, *]) | refine aa0 (fun hb=>?_) fun hb=>?_ | refine aa1 (fun hb=>?_) fun hb=>?_
      all_goals (try simp only [FX] at *)
      all_goals first | omega | skip
      exact aa4 rfl rfl
     ·have hr : wN 4 hi n = n := by unfold wN; rw [if_neg (by omega), if_neg (fun h => h1 h.2)]
      rw [hr]
      clear hr
      by_cases h6 : hi > 1
      ·have h7 : ¬ hi ≤ 64 := by omega
       clear h1
       repeat' first | (simp (disch := first | omega | assumption) only [go_sem, simprocAttr, *]) | refine aa0 (fun hb=>?_) fun hb=>?_ | refine aa1 (fun hb=>?_) fun hb=>?_
       all_goals (try simp only [FX] at *)
       all_goals first | omega | skip
       exact aa4 rfl rfl
      ·clear h1
       repeat' first | (simp (disch := first | omega | assumption) only [go_sem, simprocAttr, *]) | refine aa0 (fun hb=>?_) fun hb=>?_ | refine aa1 (fun hb=>?_) fun hb=>?_
       all_goals (try simp only [FX] at *)
       all_goals first | omega | skip
       exact aa4 rfl rfl
   ·have hr : wN kd hi n = n := by unfold wN; rw [if_neg (fun h => k4 h.1), if_neg (fun h => k4 h.1)]
    rw [hr]
    clear hr
    repeat' first | (simp (disch := first | omega | assumption) only [go_sem, simprocAttr, *]) | refine aa0 (fun hb=>?_) fun hb=>?_ | refine aa1 (fun hb=>?_) fun hb=>?_
    all_goals (try simp only [FX] at *)
    all_goals first | omega | skip
    exact aa4 rfl rfl
def cf4 (t : RT) : Bool := decide (nodW t > 400) || decide (wT t > 20000)
theorem co0 {t : RT} (ht : t.Ok) (H : Heap) : den E R.aj4 [t.E] H = some (.ret (.bool (cf4 t)), H) := by
 have h1 := fun H => ds6 (E := E) ht H
 have h2 := fun H => dc4 (E := E) ht H
 unfold cf4
 cases ht with
 | mk kd w x ts lo hi hw hx hts =>
 obtain ⟨cx, ox⟩ := hx.one
 generalize nodW (.mk kd w x ts lo hi) = n at h1 ⊢
 generalize wT (.mk kd w x ts lo hi) = m at h2 ⊢
 refine af6 R.au2 (by simp) ?_
 unfold Gn.an2 Gn.aj7
 unfold RT.E at h1 h2 ⊢
 unfold EV.one at ox
 unfold EV.cells at cx
 simp only at h1 h2
 by_cases c1 : n > 400
 ·rw [decide_eq_true c1] at h1 ⊢
  repeat' first | (simp (disch := first | omega | assumption) only [go_sem, simprocAttr, *]) | refine aa0 (fun hb=>?_) fun hb=>?_ | refine aa1 (fun hb=>?_) fun hb=>?_
  all_goals (try simp only [FX] at *)
  all_goals first | omega | exact aa4 rfl rfl
 ·rw [decide_eq_false c1] at h1 ⊢
  repeat' first | (simp (disch := first | omega | assumption) only [go_sem, simprocAttr, *]) | refine aa0 (fun hb=>?_) fun hb=>?_ | refine aa1 (fun hb=>?_) fun hb=>?_
  all_goals (try simp only [FX] at *)
  all_goals first | omega | exact aa4 rfl rfl
theorem db0 {t : RT} (h : cf4 t = false) : szT t ≤ 20000 := by
 unfold cf4 at h
 simp only [Bool.or_eq_false_iff, decide_eq_false_iff_not] at h
 have := sz_w t (by omega)
 omega
end
section
variable {E : Env} [R : bt9 E]
theorem cu7 {t : RT} (ht : t.Ok) (s : List UInt8) (hs : s.length ≤ 100000) (p : Int) (h : ¬ (mayT t = true ∧ 0 ≤ p ∧ p ≤ s.length)) (H : Heap) :
  den E R.at7 [t.E, .str s, .int .i64 p] H = some (.ret (.tup [.nilsl, .int .i64 1]), H) := by
 have h1 := fun H => ci0 (E := E) ht H
 generalize mayT t = b at h h1
 cases ht with
 | mk kd w x0 ts lo hi hw hx0 hts =>
 obtain ⟨cx, ox⟩ := hx0.one
 refine af6 R.bd0 (by simp) ?_
 unfold Gn.bc6 Gn.at9
 unfold RT.E at h1 ⊢
 unfold EV.one at ox
 unfold EV.cells at cx
 simp only at h1
 cases b with
 | false =>
  repeat' first | (simp (disch := first | omega | assumption) only [go_sem, simprocAttr, *]) | refine aa0 (fun hb=>?_) fun hb=>?_ | refine aa1 (fun hb=>?_) fun hb=>?_
  all_goals (try simp only [FX] at *)
  all_goals first | omega | exact aa4 rfl rfl
 | true =>
  simp only [true_and] at h
  by_cases c : p < 0
  ·repeat' first | (simp (disch := first | omega | assumption) only [go_sem, simprocAttr, *]) | refine aa0 (fun hb=>?_) fun hb=>?_ | refine aa1 (fun hb=>?_) fun hb=>?_
   all_goals (try simp only [FX] at *)
   all_goals first | omega | exact aa4 rfl rfl
  ·have c2 : p > s.length := by omega
   repeat' first | (simp (disch := first | omega | assumption) only [go_sem, simprocAttr, *]) | refine aa0 (fun hb=>?_) fun hb=>?_ | refine aa1 (fun hb=>?_) fun hb=>?_
   all_goals (try simp only [FX] at *)
   all_goals first | omega | exact aa4 rfl rfl
theorem bu6 (hH : bs5 E R.ak5 .u8) (hS : ba3 E R.ab1) {t : RT} (ht : t.Ok) (hm : mayT t = true) (s : List UInt8) (hs : s.length ≤ 100000) (p : Nat) (hp : p ≤ s.length) (H : Heap) :
  ∃ y, den E R.at7 [t.E, .str s, .int .i64 p] H = some (.ret (.tup [y, .int .i64 0]), H) ∧ am3 y (posL 0 (aa6 s t (atL s.length p))) := by
 have h1 := fun H => ci0 (E := E) ht H
 rw [hm] at h1
 have hn : am5 t = true := by
  unfold mayT at hm
  simp only [Bool.and_eq_true] at hm
  exact hm.2.2
 have hA : am3 (.imm 1 [.int .i64 p]) (posL 0 (atL s.length p)) := by
  rw [do1 _ _ hp]
  exact bn0 (l := [(p : Int)]) (by simp)
 obtain ⟨y, h2, h3⟩ := cn2 (E := E) hH hS s hs ht (cm8 hn) (.imm 1 [.int .i64 p]) (atL s.length p) (H.length + 1) false (H ++ [some (.row 8 [t.E]), some (.row 2 [.agg [.str s, .bool false]])]) hA (ba2 _ _) (by rw [List.getElem?_append_right (by omega), Nat.add_sub_cancel_left]; rfl)
 rw [List.set_append_right _ _ (by omega), Nat.add_sub_cancel_left] at h2
 simp only [List.set_cons_succ, List.set_cons_zero, Bool.false_or] at h2
 have hll : (posL 0 (aa6 s t (atL s.length p))).length ≤ 1000000 := by
  have := (av8 s ht).len _ (ba2 s.length p)
  have h4 := bd5 (aa6 s t (atL s.length p))
  rw [as6]
  omega
 generalize bf3 s t (atL s.length p) = op at h2
 have hcl := cg3 (E := E) y _ (H ++ [some (.row 8 [t.E]), some (.row 2 [.agg [.str s, .bool op]])]) (h3.arg _) hll
 generalize posL 0 (aa6 s t (atL s.length p)) = l at h3 hll hcl ⊢
 obtain ⟨cy, oy⟩ := h3.one
 cases ht with
 | mk kd w x0 ts lo hi hw hx0 hts =>
 obtain ⟨cx, ox⟩ := hx0.one
 unfold RT.E at h1 h2 hcl ⊢
 unfold EV.one at ox oy
 unfold EV.cells at cx cy
 simp only at h1 h2 hcl
 clear hm hn hA
 rcases hcl with ⟨rfl, z, hcl, hz⟩ | ⟨hne, hcl⟩
 ·refine ⟨z, ?_, by rcases hz with rfl | rfl; exact .nil; exact .zsl⟩
  refine af6 R.bd0 (by simp) ?_
  unfold Gn.bc6 Gn.at9
  rcases hz with rfl | rfl
  ·repeat' first | (simp (disch := first | omega | assumption) only [go_sem, simprocAttr, *]) | refine aa0 (fun hb=>?_) fun hb=>?_ | refine aa1 (fun hb=>?_) fun hb=>?_
   all_goals (try simp only [FX] at *)
   all_goals first | omega | exact aa4 rfl rfl
  ·repeat' first | (simp (disch := first | omega | assumption) only [go_sem, simprocAttr, *]) | refine aa0 (fun hb=>?_) fun hb=>?_ | refine aa1 (fun hb=>?_) fun hb=>?_
   all_goals (try simp only [FX] at *)
   all_goals first | omega | exact aa4 rfl rfl
 ·refine ⟨.imm 1 (aa9 l), ?_, bn0 (by omega)⟩
  refine af6 R.bd0 (by simp) ?_
  unfold Gn.bc6 Gn.at9
  simp only [List.length_append, List.length_cons, List.length_nil, List.append_assoc, List.cons_append, List.nil_append] at hcl
  repeat' first | (simp (disch := first | omega | assumption) only [go_sem, simprocAttr, *]) | refine aa0 (fun hb=>?_) fun hb=>?_ | refine aa1 (fun hb=>?_) fun hb=>?_
  all_goals (try simp only [FX] at *)
  all_goals first | omega | skip
  refine ca3 rfl ?_ rfl
  have hz := co3 (L := H.length) (H := H ++ [some (.row 8 [.agg [.int .i64 kd, .int .u64 (w 0 : Nat), .int .u64 (w 1 : Nat), .int .u64 (w 2 : Nat), .int .u64 (w 3 : Nat), x0, .int .i64 lo, .int .i64 hi]]), some (.row 2 [.agg [.str s, .bool op]]), some (.row 1 (aa9 l))]) (n := 6) (b := H.length + 2) (sz := 1) (off := 0) (len := l.length) (es := aa9 l) (by omega) (by rw [List.getElem?_append_right (by omega), Nat.add_sub_cancel_left]; rfl) (by rw [ab4]; omega) (bq4 _ _)
  rw [List.drop_zero, List.take_of_length_le (by rw [ab4]; exact Nat.le_refl _)] at hz
  have hi0 : Abs.fz H.length (H ++ [some (.row 8 [.agg [.int .i64 kd, .int .u64 (w 0 : Nat), .int .u64 (w 1 : Nat), .int .u64 (w 2 : Nat), .int .u64 (w 3 : Nat), x0, .int .i64 lo, .int .i64 hi]]), some (.row 2 [.agg [.str s, .bool op]]), some (.row 1 (aa9 l))]) 7 (.int .i64 0) = some (.int .i64 0) := bf6 rfl
  unfold Abs.fz
  rw [if_neg (by simp [EV.ok, okL])]
  simp only [mapO, hz, hi0]
  rfl
end
section
variable {E : Env} [R : bt9 E]
theorem dd1 (x y : EV) (la lb : List Int) (hx : am3 x la) (hy : am3 y lb) (hl : la.length ≤ 1000000) (hl2 : lb.length ≤ 1000000) (H : Heap) :
  den E R.ak9 [x, y] H = some (.ret (.bool (decide (la = lb))), H) := by
 have lx := hx.lenI
 have ly := hy.lenI
 obtain ⟨cx, ox⟩ := hx.one
 obtain ⟨cy, oy⟩ := hy.one
 generalize hr : decide (la = lb) = r
 refine af6 R.aw3 (by simp) ?_
 unfold Gn.ap0 Gn.al4
 unfold EV.one at ox oy
 unfold EV.cells at cx cy
 by_cases hle : la.length = lb.length
 ·have he0 : ∀ n : Int, (n != n) = false := fun n => bne_self_eq_false n
  repeat' first | (simp (disch := first | omega | assumption) only [go_sem, simprocAttr, *]) | refine aa0 (fun hb=>?_) fun hb=>?_ | refine aa1 (fun hb=>?_) fun hb=>?_
  all_goals (try simp only [FX] at *)
  all_goals first | omega | skip
  refine ak0 (ι := Nat) (fun i => i ≤ la.length ∧ la.take i = lb.take i) (fun i => la.length - i) (fun i => [(0, x), (1, y), (5, .int .i64 i)]) (fun _ => H) 0 ⟨by omega, by simp⟩ ?_ rfl ?_
  ·simp (disch := omega) only [go_sem, simprocAttr, Sl]
  rintro i t ⟨hil, hn⟩ ht K hK
  simp (disch := omega) only [go_sem, simprocAttr, Sl] at ht
  by_cases hlt : i < la.length
  ·obtain ⟨v, hv⟩ := ac4 hlt
   obtain ⟨u, hu⟩ := ac4 (l := lb) (i := i) (by omega)
   have hat := hx.at hv
   have hbt := hy.at hu
   by_cases e : v = u
   ·subst e
    have go := fun s' H' => hK (i + 1) s' H' ⟨by omega, by rw [List.take_add_one, List.take_add_one, hn, hv, hu]⟩ (by omega)
    clear hK hn
    repeat' first | (simp (disch := first | omega | assumption) only [go_sem, simprocAttr, *]) | refine aa0 (fun hb=>?_) fun hb=>?_ | refine aa1 (fun hb=>?_) fun hb=>?_
    all_goals (try simp only [FX] at *)
    all_goals first | omega | skip
    all_goals first | exact absurd trivial ‹¬True› | skip
    all_goals refine go _ _ ?_ rfl
    all_goals simp (disch := omega) only [go_sem, simprocAttr, Sl, ht, and_self, ac8]
   ·have hrf : r = false := by
     rw [← hr]
     refine decide_eq_false fun h => ?_
     subst h
     rw [hv] at hu
     simp only [Option.some.injEq] at hu
     exact e hu
    rw [hrf]
    have he : (v != u) = true := by simpa using e
    clear hK hn hr
    repeat' first | (simp (disch := first | omega | assumption) only [go_sem, simprocAttr, *]) | refine aa0 (fun hb=>?_) fun hb=>?_ | refine aa1 (fun hb=>?_) fun hb=>?_
    all_goals (try simp only [FX] at *)
    all_goals first | omega | skip
    exact ac5 rfl rfl
  ·have hie : i = la.length := by omega
   subst hie
   rw [List.take_length, hle, List.take_length] at hn
   have hrt : r = true := by rw [← hr]; exact decide_eq_true hn
   rw [hrt]
   clear hK hn hr
   repeat' first | (simp (disch := first | omega | assumption) only [go_sem, simprocAttr, *]) | refine aa0 (fun hb=>?_) fun hb=>?_ | refine aa1 (fun hb=>?_) fun hb=>?_
   all_goals (try simp only [FX] at *)
   all_goals first | omega | skip
   exact ac5 rfl rfl
 ·have hrf : r = false := by
   rw [← hr]
   refine decide_eq_false fun h => ?_
   subst h
   exact hle rfl
  rw [hrf]
  have hne : ((la.length : Int) != (lb.length : Int)) = true := by
   simp
   omega
  clear hr
  repeat' first | (simp (disch := first | omega | assumption) only [go_sem, simprocAttr, *]) | refine aa0 (fun hb=>?_) fun hb=>?_ | refine aa1 (fun hb=>?_) fun hb=>?_
  all_goals (try simp only [FX] at *)
  all_goals first | omega | skip
  exact ac5 rfl rfl
end
theorem er1 (l : List RT) : slT l = slE 8 (l.map RT.E) := by cases l <;> rfl
theorem RT.boxed {t : RT} (ht : t.Ok) : t.E.cells.length = 8 ∧ t.E.cells.all EV.one = true ∧ EV.agg t.E.cells = t.E ∧ List.take 8 t.E.cells = t.E.cells := by
 have := RT.cells t
 exact ⟨this, RT.ones ht, by cases t; rfl, List.take_of_length_le (by omega)⟩
theorem ej1 {n : Nat} : ∀ {us : List RT}, (∀ t ∈ us, t.Ok) → okL n (us.map RT.E) = true
 | [], _ => rfl
 | u :: us, h => by
  have := ej1 (n := n) (us := us) fun v hv => h v (by simp [hv])
  simp only [List.map_cons, okL, RT.ok (h u (by simp)), this, Bool.and_self]
theorem dp8 {n : Nat} : ∀ {l : List EV}, okL n l = true → ∀ x ∈ l, x.ok n = true
 | [], _, x, h => by simp at h
 | a :: l, h, x, hx => by
  simp only [okL, Bool.and_eq_true] at h
  rcases List.mem_cons.1 hx with rfl | hx
  ·exact h.1
  ·exact dp8 h.2 x hx
theorem et1 {L : Nat} {W : Heap} {k lo hi : Int} {X Y : EV} {b : Bool} (h : Abs.fz L W 6 X = some Y) : Abs.fz L W 8 (.tup [.agg [.int .i64 k, .int .u64 0, .int .u64 0, .int .u64 0, .int .u64 0, X, .int .i64 lo, .int .i64 hi], .bool b]) =
  some (.tup [.agg [.int .i64 k, .int .u64 0, .int .u64 0, .int .u64 0, .int .u64 0, Y, .int .i64 lo, .int .i64 hi], .bool b]) := by
 by_cases ho : X.ok L = true
 ·have := bf6 (L := L) (H := W) (n := 6) ho
  rw [h] at this
  obtain rfl := Option.some.inj this
  exact bf6 (by simp [EV.ok, okL, ho])
 ·have ho : X.ok L = false := by simpa using ho
  have i1 : ∀ (κ : IntKind) (m : Int), Abs.fz L W 6 (.int κ m) = some (.int κ m) := fun κ m => bf6 rfl
  have e7 : Abs.fz L W 7 (.agg [.int .i64 k, .int .u64 0, .int .u64 0, .int .u64 0, .int .u64 0, X, .int .i64 lo, .int .i64 hi]) = some (.agg [.int .i64 k, .int .u64 0, .int .u64 0, .int .u64 0, .int .u64 0, Y, .int .i64 lo, .int .i64 hi]) := by
   unfold Abs.fz
   rw [if_neg (by simp [EV.ok, okL, ho])]
   simp only [mapO, i1, h]
   rfl
  have b7 : Abs.fz L W 7 (.bool b) = some (.bool b) := bf6 rfl
  unfold Abs.fz
  rw [if_neg (by simp [EV.ok, okL, ho])]
  simp only [mapO, e7, b7]
  rfl
def owA (L k : Nat) : Nat := if k < L then 0 else if k = L then 1 else 2
theorem owA_0 (L : Nat) : owA L L = 1 := by unfold owA; rw [if_neg (by omega), if_pos rfl]
theorem owA_1 (L : Nat) : owA L (L + 1) = 2 := by unfold owA; rw [if_neg (by omega), if_neg (by omega)]
theorem dl1 : ∀ {ts : List RT} {t : RT}, t ∈ ts → szT t ≤ szL ts
 | u :: ts, t, h => by
  simp only [szL]
  rcases List.mem_cons.1 h with rfl | h
  ·omega
  ·have := dl1 h; omega
theorem dl2 : ∀ ts : List RT, ts.length ≤ szL ts
 | [] => Nat.le_refl _
 | t :: ts => by
  have := dl2 ts
  cases t with
  | mk k w x us lo hi =>
   simp only [szL, szT, List.length_cons]
   omega
theorem dc8 {ts : List RT} {i : Nat} {u : RT} (h : ts[i]? = some u) : bb2 (ts.take (i + 1)) = (bb2 (ts.take i) || bg0 u) := by
 rw [List.take_add_one, h]
 generalize ts.take i = l
 induction l with
 | nil => simp [bb2]
 | cons v l ih => simp only [List.cons_append, bb2, Option.toList_some] at ih ⊢; rw [ih, Bool.or_assoc]
theorem dc7 {ts : List RT} {u : RT} (h : u ∈ ts) (hv : bg0 u = true) : bb2 ts = true := by
 cases hc : bb2 ts with
 | true => rfl
 | false => rw [ck4 hc u h] at hv; simp at hv
theorem er7 (H G : Heap) : Bs H (H ++ G) (owA H.length) := ⟨by simp, by simp, fun k hk => by unfold owA; rw [if_pos hk]⟩
theorem eo8 {ts : List RT} {i : Nat} {u : RT} (h : ts[i]? = some u) : ak3 (alL (ts.take (i + 1))) = if (alT u).2 = true then ak3 (alL (ts.take i)) ++ [(alT u).1] else ak3 (alL (ts.take i)) := by
 rw [List.take_add_one, h, bj4, List.map_append, ← bj4]
 unfold ak3
 rw [List.filter_append, List.map_append]
 split
 ·rename_i e; simp [e]
 ·rename_i e; simp [e]
section
variable {E : Env} [R : bt9 E]
set_option maxHeartbeats 4000000 in
theorem et6 {t : RT} (ht : t.Ok) : am5 t = true → szT t ≤ 100000 → ∀ H, den E R.au5 [t.E] H = some (.ret (.tup [(alT t).1.E, .bool (alT t).2]), H) := by
 induction ht with
 | mk kd w x0 ts lo hi hw hx0 hts ih =>
  intro hn hsz H
  simp only [szT] at hsz
  have hsl := dl2 ts
  simp only [am5, Bool.and_eq_true] at hn
  obtain ⟨hnb, hnl⟩ := hn
  have hm := bs8 hnl
  have hih := fun u hu => ih u hu (hm u hu) (by have := dl1 hu; omega)
  have hok := fun u hu => et5 (hts u hu) (hm u hu)
  have lx0 := hx0.len
  rw [List.length_map] at lx0
  have lex := hx0.le
  rw [List.length_map] at lex
  have ox := hx0.one.2
  have cx := hx0.one.1
  have hxo := hx0.ok H.length
  have hself : ∀ b, EV.ok H.length (.tup [.agg [.int .i64 kd, .int .u64 (w 0 : Nat), .int .u64 (w 1 : Nat), .int .u64 (w 2 : Nat), .int .u64 (w 3 : Nat), x0, .int .i64 lo, .int .i64 hi], .bool b]) = true := fun b => by simp [EV.ok, okL, hxo]
  refine af6 R.bl9 (by simp) ?_
  unfold Gn.bg8 Gn.az2
  rw [show (RT.mk kd w x0 ts lo hi).E = .agg [.int .i64 kd, .int .u64 (w 0 : Nat), .int .u64 (w 1 : Nat), .int .u64 (w 2 : Nat), .int .u64 (w 3 : Nat), x0, .int .i64 lo, .int .i64 hi] from rfl]
  unfold EV.one at ox
  unfold EV.cells at cx
  clear ih
  by_cases k1 : kd = 1
  ·subst k1
   have e : alT (.mk 1 w x0 ts lo hi) = (.mk 1 w x0 ts lo hi, !zset w) := by rw [alT]; simp
   rw [e]
   rw [show (RT.mk 1 w x0 ts lo hi).E = .agg [.int .i64 1, .int .u64 (w 0 : Nat), .int .u64 (w 1 : Nat), .int .u64 (w 2 : Nat), .int .u64 (w 3 : Nat), x0, .int .i64 lo, .int .i64 hi] from rfl]
   have hz := cy8 w
   generalize zset w = z at hz ⊢
   clear hih hok hm hnl hnb
   repeat' first | (simp (disch := first | omega | assumption) only [go_sem, simprocAttr, *]) | refine aa0 (fun hb=>?_) fun hb=>?_ | refine aa1 (fun hb=>?_) fun hb=>?_
   all_goals (try simp only [FX] at *)
   all_goals first | omega | skip
   refine dc1 (h := by
    simp (disch := omega) only [go_sem, simprocAttr, dsF, fbOf, Option.getD_some, Option.getD_none, ox, cx, hz]
    exact rfl) ?_ ?_
   ·simp [cj6]
   repeat' first | (simp (disch := first | omega | assumption) only [go_sem, simprocAttr, *]) | refine aa0 (fun hb=>?_) fun hb=>?_ | refine aa1 (fun hb=>?_) fun hb=>?_
   all_goals (try simp only [FX] at *)
   exact aa4 (hself _) rfl
  by_cases k0 : kd = 0
  ·subst k0
   have e : alT (.mk 0 w x0 ts lo hi) = (.mk 0 w x0 ts lo hi, true) := by rw [alT]; simp
   rw [e]
   rw [show (RT.mk 0 w x0 ts lo hi).E = .agg [.int .i64 0, .int .u64 (w 0 : Nat), .int .u64 (w 1 : Nat), .int .u64 (w 2 : Nat), .int .u64 (w 3 : Nat), x0, .int .i64 lo, .int .i64 hi] from rfl]
   clear hih hok hm hnl hnb
   repeat' first | (simp (disch := first | omega | assumption) only [go_sem, simprocAttr, *]) | refine aa0 (fun hb=>?_) fun hb=>?_ | refine aa1 (fun hb=>?_) fun hb=>?_
   all_goals (try simp only [FX] at *)
   all_goals first | omega | skip
   exact aa4 (hself _) rfl
  by_cases k4 : kd = 4
  ·subst k4
   simp [bf4] at hnb
   obtain ⟨hn1, hz, hlo, hlo2, hhi⟩ := hnb
   match ts, hn1 with
   | [t0], _ =>
    have h0 := hih t0 (by simp)
    have hk0 := hok t0 (by simp)
    have hat := hx0.atT (i := 0) (t := t0) rfl
    have hat : bc8 8 0 x0 = some (.iptr t0.E.cells 0) := hat
    obtain ⟨hyl, hyo, hya, hyt⟩ := RT.boxed (hts t0 (by simp))
    obtain ⟨hzl, hzo, hza, hzt⟩ := RT.boxed hk0.1
    have hzok := fun n => RT.ok hk0.1 n
    have e : alT (.mk 4 w x0 [t0] lo hi) = alH [alT t0] w lo hi := by rw [alT, if_neg (by omega), if_neg (by omega), if_neg (by omega), if_pos rfl, alL, alL]
    rw [e, alH]
    clear hih hok hm hnl e
    generalize (alT t0).1 = y at h0 hzl hzo hza hzt hzok ⊢
    generalize (alT t0).2 = b at h0 ⊢
    generalize hu : t0.E = u at *
    cases b with
    | true =>
     rw [if_pos rfl]
     rw [show (RT.mk 4 w (.imm 8 [y.E]) [y] lo hi).E = .agg [.int .i64 4, .int .u64 (w 0 : Nat), .int .u64 (w 1 : Nat), .int .u64 (w 2 : Nat), .int .u64 (w 3 : Nat), .imm 8 [y.E], .int .i64 lo, .int .i64 hi] from rfl]
     generalize y.E = z at *
     unfold EV.cells at hyl hyo hya hyt hzl hzo hza hzt
     repeat' first | (simp (disch := first | omega | assumption) only [go_sem, simprocAttr, *]) | refine aa0 (fun hb=>?_) fun hb=>?_ | refine aa1 (fun hb=>?_) fun hb=>?_
     all_goals (try simp only [FX] at *)
     all_goals first | omega | skip
     exact aa4 (by simp [EV.ok, okL, hzok]) rfl
    | false =>
     rw [if_neg (by simp)]
     rw [show (RT.mk 0 (fun _ => 0) .nilsl [] 0 0).E = .agg [.int .i64 0, .int .u64 0, .int .u64 0, .int .u64 0, .int .u64 0, .nilsl, .int .i64 0, .int .i64 0] from rfl]
     generalize y.E = z at *
     unfold EV.cells at hyl hyo hya hyt hzl hzo hza hzt
     repeat' first | (simp (disch := first | omega | assumption) only [go_sem, simprocAttr, *]) | refine aa0 (fun hb=>?_) fun hb=>?_ | refine aa1 (fun hb=>?_) fun hb=>?_
     all_goals (try simp only [FX] at *)
     refine dc1 (h := by
      simp (disch := omega) only [go_sem, simprocAttr, dsF, fbOf, Option.getD_some, Option.getD_none, ox, cx, hzl, hzo, hza, hzt]
      exact rfl) ?_ ?_
     ·simp [cj6]
     repeat' first | (simp (disch := first | omega | assumption) only [go_sem, simprocAttr, *]) | refine aa0 (fun hb=>?_) fun hb=>?_ | refine aa1 (fun hb=>?_) fun hb=>?_
     all_goals (try simp only [FX] at *)
     exact aa4 rfl rfl
  have hkd : kd = 2 ∨ kd = 3 := by
   by_cases k2 : kd = 2
   ·exact .inl k2
   by_cases k3 : kd = 3
   ·exact .inr k3
   ·simp [bf4, k0, k1, k2, k3, k4] at hnb
  have hnlen : ts.length < 9223372036854775808 := by omega
  have hlist := cy6 (ts := ts) fun u hu => (hok u hu).2.2
  have hLen : (ak3 (alL ts)).length ≤ ts.length := by
   have := ca0 (alL ts)
   rw [bj4] at this ⊢
   simpa using this
  have hEnd : (kd = 2 → bb2 ts = false) → alT (.mk kd w x0 ts lo hi) = (.mk kd (fun _ => 0) (slT (ak3 (alL ts))) (ak3 (alL ts)) 0 0, decide (0 < (ak3 (alL ts)).length)) := fun hv => by
   rcases hkd with rfl | rfl
   ·rw [alT, if_neg (by omega), if_pos rfl, if_pos (by rw [hlist.1, hv rfl]; rfl)]
   ·rw [alT, if_neg (by omega), if_neg (by omega), if_pos rfl]
  have hNo : kd = 2 → bb2 ts = true → alT (.mk kd w x0 ts lo hi) = (.mk kd w x0 ts lo hi, false) := fun e hv => by
   subst e
   rw [alT, if_neg (by omega), if_pos rfl, if_neg (by rw [hlist.1, hv]; simp)]
  generalize alT (.mk kd w x0 ts lo hi) = res at hEnd hNo ⊢
  clear k0 k1 k4
  have hk1 : ((kd : Int) == 1) = false := by rcases hkd with rfl | rfl <;> rfl
  have go0 : ∀ d e : Option EB, ((H ++ [d, e])[H.length]? = some d) ∧ ((H ++ [d, e])[H.length + 1]? = some e) := fun d e => ⟨by rw [List.getElem?_append_right (by omega), Nat.sub_self]; rfl, by rw [List.getElem?_append_right (by omega), Nat.add_sub_cancel_left]; rfl⟩
  clear hnb hnl
  repeat' first | (simp (disch := first | omega | assumption) only [go_sem, simprocAttr, *]) | refine aa0 (fun hb=>?_) fun hb=>?_ | refine aa1 (fun hb=>?_) fun hb=>?_
  all_goals (try simp only [FX] at *)
  all_goals first | omega | skip
  all_goals
   refine ak0 (ι := Nat × EV × Heap × (Nat → Nat)) (fun q => q.1 ≤ ts.length ∧ Bs H q.2.2.1 q.2.2.2 ∧ At q.2.2.1 q.2.2.2 1 H.length (.row 8 [.agg [.int .i64 kd, .int .u64 (w 0 : Nat), .int .u64 (w 1 : Nat), .int .u64 (w 2 : Nat), .int .u64 (w 3 : Nat), x0, .int .i64 lo, .int .i64 hi]]) ∧
     At q.2.2.1 q.2.2.2 2 (H.length + 1) (.row 8 [.agg [.int .i64 0, .int .u64 0, .int .u64 0, .int .u64 0, .int .u64 0, .nilsl, .int .i64 0, .int .i64 0]]) ∧ Hl q.2.2.1 q.2.2.2 3 8 q.2.1 ((ak3 (alL (ts.take q.1))).map RT.E) ∧ (kd = 2 → bb2 (ts.take q.1) = false))
    (fun q => ts.length - q.1) (fun q => [(1, .ptr H.length 8 0 0), (2, .ptr (H.length + 1) 8 0 0), (4, q.2.1), (24, x0), (25, .int .i64 ts.length), (26, .int .i64 q.1)]) (fun q => q.2.2.1) (0, .nilsl, _, owA H.length) ?_ ?_ rfl ?_
   ·exact ⟨by simp, er7 _ _, ⟨(go0 _ _).1, owA_0 _⟩, ⟨(go0 _ _).2, owA_1 _⟩, .inl ⟨rfl, by simp [alL, ak3]⟩, fun _ => by simp [bb2]⟩
   ·simp (disch := omega) only [go_sem, simprocAttr, Sl]
   clear go0
   rintro ⟨i, X, W, ow⟩ t1 ⟨hi1, hbs, ha1, ha2, hX, hvd⟩ ht K hK
   simp only at hi1 hbs ha1 ha2 hX hvd ht
   simp (disch := omega) only [go_sem, simprocAttr, Sl] at ht
   have hWl := hbs.len
   have g1 : ∀ G : Heap, (W ++ G)[H.length]? = some (some (.row 8 [.agg [.int .i64 kd, .int .u64 (w 0 : Nat), .int .u64 (w 1 : Nat), .int .u64 (w 2 : Nat), .int .u64 (w 3 : Nat), x0, .int .i64 lo, .int .i64 hi]])) := fun G => by rw [List.getElem?_append_left (aa3 ha1.1)]; exact ha1.1
   have g2 : ∀ G : Heap, (W ++ G)[H.length + 1]? = some (some (.row 8 [.agg [.int .i64 0, .int .u64 0, .int .u64 0, .int .u64 0, .int .u64 0, .nilsl, .int .i64 0, .int .i64 0]])) := fun G => by rw [List.getElem?_append_left (aa3 ha2.1)]; exact ha2.1
   have g3 := ha1.1
   have g4 := ha2.1
   obtain ⟨oX, cX⟩ := hX.one
   have lX := hX.len
   rw [List.length_map] at lX
   unfold EV.one at oX
   unfold EV.cells at cX
   by_cases hlt : i < ts.length
   ·obtain ⟨u, hu⟩ := ac4 hlt
    have hum := List.mem_of_getElem? hu
    have hat := hx0.atT hu
    have h0 := hih u hum
    have hk0 := hok u hum
    have hnx := eo8 hu
    have hvx := dc8 hu
    obtain ⟨hyl, hyo, hya, hyt⟩ := RT.boxed (hts u hum)
    obtain ⟨hzl, hzo, hza, hzt⟩ := RT.boxed hk0.1
    have b1 := hbs.new 4 (.row 8 [u.E])
    have b2 := b1.new 4 (.row 8 [(alT u).1.E])
    have k1 := Kp.new (W := W) ow 4 5 (.row 8 [u.E])
    have k2 := Kp.new (W := W ++ [some (.row 8 [u.E])]) (fun k => if k = W.length then 4 else ow k) 4 5 (.row 8 [(alT u).1.E])
    have hX2 := k2.hl (k1.hl hX (by omega)) (by omega)
    have ha12 := k2.at (k1.at ha1 (by omega)) (by omega)
    have ha22 := k2.at (k1.at ha2 (by omega)) (by omega)
    have hgl : (ak3 (alL (ts.take i))).length ≤ 100000 := by
     have := ca0 (alL (ts.take i))
     rw [bj4, List.length_map, List.length_take] at this
     rw [bj4]
     omega
    generalize (fun k => if k = (W ++ [some (EB.row 8 [u.E])]).length then 4 else if k = W.length then 4 else ow k) = ow2 at b2 hX2 ha12 ha22
    simp only [List.append_assoc, List.cons_append, List.nil_append] at b2 hX2 ha12 ha22
    clear b1 k1 k2
    have hnv : bg0 u = !(alT u).2 := by rw [hk0.2.2, Bool.not_not]
    cases hb2 : (alT u).2 with
    | true =>
     rw [hb2] at h0 hnv
     rw [hb2, if_pos rfl] at hnx
     obtain ⟨X', W', ow', hap, hX', hkp, hbs'⟩ := hX2.append b2 (by omega) (alT u).1.E 80 (by omega) hzl hzo (by rw [List.length_map]; omega) (by omega)
     have go := fun s' H' => hK (i + 1, X', W', ow') s' H' ⟨by simp only; omega, hbs', hkp.at ha12 (by omega), hkp.at ha22 (by omega), by simp only; rw [hnx, List.map_append]; exact hX', fun e => by simp only; rw [hvx, hvd e, hnv]; rfl⟩ (by simp only; omega)
     clear hK hX2 hX' hkp hbs' hnx hvx hvd hih hok hm
     generalize (alT u).1.E = z at *
     generalize u.E = y at *
     unfold EV.cells at hyl hyo hya hyt hzl hzo hza hzt
     repeat' first | (simp (disch := first | omega | assumption) only [go_sem, simprocAttr, *]) | refine aa0 (fun hb=>?_) fun hb=>?_ | refine aa1 (fun hb=>?_) fun hb=>?_
     all_goals (try simp only [FX] at *)
     all_goals first | omega | skip
     refine go _ _ ?_ rfl
     simp (disch := omega) only [go_sem, simprocAttr, Sl, ht, and_self, ac8]
    | false =>
     rw [hb2] at h0 hnv
     rw [hb2, if_neg (by simp)] at hnx
     rcases hkd with e | e
     ·have hno := hNo e (dc7 hum hnv)
      rw [hno]
      rw [show (RT.mk kd w x0 ts lo hi).E = .agg [.int .i64 kd, .int .u64 (w 0 : Nat), .int .u64 (w 1 : Nat), .int .u64 (w 2 : Nat), .int .u64 (w 3 : Nat), x0, .int .i64 lo, .int .i64 hi] from rfl]
      have hfin := fun b => b2.set ha22 (by omega) b
      have g6 : ∀ b : Option EB, ((W ++ [some (EB.row 8 [u.E]), some (EB.row 8 [(alT u).1.E])]).set (H.length + 1) b)[H.length + 1]? = some b := fun b => List.getElem?_set_self (aa3 ha22.1)
      subst e
      clear hK hX2 hnx hvx hvd hih hok hm hNo hEnd hno
      generalize (alT u).1.E = z at *
      generalize u.E = y at *
      unfold EV.cells at hyl hyo hya hyt hzl hzo hza hzt
      repeat' first | (simp (disch := first | omega | assumption) only [go_sem, simprocAttr, *]) | refine aa0 (fun hb=>?_) fun hb=>?_ | refine aa1 (fun hb=>?_) fun hb=>?_
      all_goals (try simp only [FX] at *)
      all_goals first | omega | skip
      all_goals exact (hfin _).drop (hself _) rfl
     ·have go := fun s' H' => hK (i + 1, X, _, ow2) s' H' ⟨by simp only; omega, b2, ha12, ha22, by simp only; rw [hnx]; exact hX2, fun e2 => by omega⟩ (by simp only; omega)
      clear hK hX2 hnx hvx hvd hih hok hm hNo hEnd
      generalize (alT u).1.E = z at *
      generalize u.E = y at *
      unfold EV.cells at hyl hyo hya hyt hzl hzo hza hzt
      repeat' first | (simp (disch := first | omega | assumption) only [go_sem, simprocAttr, *]) | refine aa0 (fun hb=>?_) fun hb=>?_ | refine aa1 (fun hb=>?_) fun hb=>?_
      all_goals (try simp only [FX] at *)
      all_goals first | omega | skip
      all_goals refine go _ _ ?_ rfl
      all_goals simp (disch := omega) only [go_sem, simprocAttr, Sl, ht, and_self, ac8]
   ·have hie : i = ts.length := by omega
    subst hie
    rw [List.take_length] at hX hvd lX
    have hfl := fun b => hbs.set ha2 (by omega) b
    have hXs := fun b => (Kp.set ha2 b).hl hX (by omega)
    have hes : okL H.length ((ak3 (alL ts)).map RT.E) = true := ej1 fun t h => by
     obtain ⟨p, h1, _, rfl⟩ := co2.1 h
     rw [bj4] at h1
     obtain ⟨u, hu, rfl⟩ := List.mem_map.1 h1
     exact (hok u hu).1
    rw [hEnd hvd]
    rw [show (RT.mk kd (fun _ => 0) (slT (ak3 (alL ts))) (ak3 (alL ts)) 0 0).E = .agg [.int .i64 kd, .int .u64 0, .int .u64 0, .int .u64 0, .int .u64 0, slT (ak3 (alL ts)), .int .i64 0, .int .i64 0] from rfl, er1]
    have hlz : (ak3 (alL ts)).length ≤ 100000 := by omega
    have hfin : ∀ b : Option EB, Abs.fz H.length (W.set (H.length + 1) b) 6 X = some (slE 8 ((ak3 (alL ts)).map RT.E)) := fun b => (hXs b).fz (fun k hk => by
     rcases Nat.lt_or_ge k H.length with h | h
     ·have := hbs.ow0 k h; omega
     ·exact h) (bq8 fun x hx => bf6 (dp8 hes x hx))
    generalize slE 8 ((ak3 (alL ts)).map RT.E) = Y at hfin ⊢
    generalize (ak3 (alL ts)).length = m at hlz lX ⊢
    have g5 : ∀ b : Option EB, (W.set (H.length + 1) b)[H.length + 1]? = some b := fun b => List.getElem?_set_self (aa3 ha2.1)
    clear hK hXs hes hNo hEnd hih hok hm hX
    repeat' first | (simp (disch := first | omega | assumption) only [go_sem, simprocAttr, *]) | refine aa0 (fun hb=>?_) fun hb=>?_ | refine aa1 (fun hb=>?_) fun hb=>?_
    all_goals (try simp only [FX] at *)
    all_goals first | omega | skip
    exact (hfl _).fz rfl (et1 (hfin _)) (by simp)
end
def bz7 (l : List Int) : Int := l.getLast?.getD (-1)
theorem bz6 {l : List Int} (h : l ≠ []) : l[l.length - 1]? = some (bz7 l) := by
 unfold bz7
 rw [← List.getLast?_eq_getElem?]
 obtain ⟨v, hv⟩ := Option.isSome_iff_exists.1 (by rw [List.getLast?_isSome]; exact h)
 rw [hv]; rfl
theorem dr5 {a : List Bool} {n : Nat} (h : a.length = n + 1) : decide (bz7 (posL 0 a) = (n : Int)) = a.getD n false := by
 rw [Bool.eq_iff_iff, decide_eq_true_eq]
 constructor
 ·intro e
  have hne : posL 0 a ≠ [] := fun e2 => by
   rw [e2] at e
   simp [bz7] at e
  have hm := List.mem_of_getElem? (bz6 hne)
  have := (by5 hm).2.2
  rw [e] at this
  exact this
 ·intro e
  have hm : ((n : Nat) : Int) ∈ posL 0 a := ak7.2 ⟨n, e, by omega⟩
  have hne : posL 0 a ≠ [] := fun e2 => by rw [e2] at hm; simp at hm
  have hg := bz6 hne
  obtain ⟨i, hi⟩ := List.mem_iff_getElem?.1 hm
  have hlt := aa3 hi
  have hlast := by5 (List.mem_of_getElem? hg)
  by_cases he : i = (posL 0 a).length - 1
  ·subst he
   rw [hi] at hg
   exact (Option.some.inj hg).symm
  ·have hp := av1 a 0
   rw [List.pairwise_iff_getElem] at hp
   have h1 := hp i ((posL 0 a).length - 1) hlt (by omega) (by omega)
   have e1 := (List.getElem?_eq_some_iff.1 hi).2
   have e2 := (List.getElem?_eq_some_iff.1 hg).2
   rw [e1, e2] at h1
   omega
section
variable {E : Env} [R : bt9 E]
theorem dg3 {t : RT} (ht : t.Ok) (hm : mayT t = false) (s : List UInt8) (hs : s.length ≤ 100000) (H : Heap) :
  den E R.aj0 [t.E, .str s] H = some (.ret (.int .i64 (-1)), H) := by
 have h1 := fun H => cu7 (E := E) ht s hs 0 (by rw [hm]; simp) H
 cases ht with
 | mk kd w x0 ts lo hi hw hx0 hts =>
 obtain ⟨cx, ox⟩ := hx0.one
 refine af6 R.as4 (by simp) ?_
 unfold Gn.aq6 Gn.am0
 unfold RT.E at h1 ⊢
 unfold EV.one at ox
 unfold EV.cells at cx
 simp only at h1
 repeat' first | (simp (disch := first | omega | assumption) only [go_sem, simprocAttr, *]) | refine aa0 (fun hb=>?_) fun hb=>?_ | refine aa1 (fun hb=>?_) fun hb=>?_
 all_goals (try simp only [FX] at *)
 all_goals first | omega | exact aa4 rfl rfl
theorem bz3 (hH : bs5 E R.ak5 .u8) (hS : ba3 E R.ab1) {t : RT} (ht : t.Ok) (hm : mayT t = true) (s : List UInt8) (hs : s.length ≤ 100000) (H : Heap) :
  den E R.aj0 [t.E, .str s] H = some (.ret (.int .i64 (bz7 (posL 0 (aa6 s t (atL s.length 0))))), H) := by
 obtain ⟨y, h1, h4⟩ := bu6 (E := E) hH hS ht hm s hs 0 (by omega) (H ++ [some (.row 8 [t.E])])
 rw [show ((0 : Nat) : Int) = 0 from rfl] at h1
 have lf := h4.lenI
 have hll : (posL 0 (aa6 s t (atL s.length 0))).length ≤ 1000000 := by
  have := (av8 s ht).len _ (ba2 s.length 0)
  have h4 := bd5 (aa6 s t (atL s.length 0))
  rw [as6]
  omega
 generalize posL 0 (aa6 s t (atL s.length 0)) = l at h1 h4 lf hll ⊢
 obtain ⟨cy, oy⟩ := h4.one
 by_cases he : l = []
 ·subst he
  rw [show bz7 [] = -1 from rfl]
  cases ht with
  | mk kd w x0 ts lo hi hw hx0 hts =>
  obtain ⟨cx, ox⟩ := hx0.one
  refine af6 R.as4 (by simp) ?_
  unfold Gn.aq6 Gn.am0
  unfold RT.E at h1 ⊢
  unfold EV.one at ox oy
  unfold EV.cells at cx cy
  simp only [List.length_nil] at h1 lf
  repeat' first | (simp (disch := first | omega | assumption) only [go_sem, simprocAttr, *]) | refine aa0 (fun hb=>?_) fun hb=>?_ | refine aa1 (fun hb=>?_) fun hb=>?_
  all_goals (try simp only [FX] at *)
  all_goals first | omega | exact aa4 rfl rfl
 ·have hg := bz6 he
  have hlp := List.length_pos_iff.2 he
  have hat := h4.at hg
  rw [show ((l.length - 1 : Nat) : Int) = (l.length : Int) - 1 by omega] at hat
  generalize bz7 l = r at hat hg ⊢
  cases ht with
  | mk kd w x0 ts lo hi hw hx0 hts =>
  obtain ⟨cx, ox⟩ := hx0.one
  refine af6 R.as4 (by simp) ?_
  unfold Gn.aq6 Gn.am0
  unfold RT.E at h1 ⊢
  unfold EV.one at ox oy
  unfold EV.cells at cx cy
  simp only at h1
  repeat' first | (simp (disch := first | omega | assumption) only [go_sem, simprocAttr, *]) | refine aa0 (fun hb=>?_) fun hb=>?_ | refine aa1 (fun hb=>?_) fun hb=>?_
  all_goals (try simp only [FX] at *)
  all_goals first | omega | exact aa4 rfl rfl
end
section
variable {E : Env} [R : TakR E]
theorem bh0 (hH : bs5 E R.ak5 .u8) (hS : ba3 E R.ab1) {t : RT} (ht : t.Ok) (s : List UInt8) (hs : s.length ≤ 100000) (H : Heap) :
  den E R.be1 [t.E, .str s] H = some (.ret (.bool (mayT t && (aa6 s t (atL s.length 0)).getD s.length false)), H) := by
 have h1 : ∀ H, den E R.aj0 [t.E, .str s] H = some (.ret (.int .i64 (if mayT t = true then bz7 (posL 0 (aa6 s t (atL s.length 0))) else -1)), H) := fun H => by
  by_cases hm : mayT t = true
  ·rw [if_pos hm]; exact bz3 (E := E) hH hS ht hm s hs H
  ·rw [if_neg hm]; exact dg3 (E := E) ht (by simpa using hm) s hs H
 have hv : (mayT t && (aa6 s t (atL s.length 0)).getD s.length false) = decide ((if mayT t = true then bz7 (posL 0 (aa6 s t (atL s.length 0))) else -1) = (s.length : Int)) := by
  by_cases hm : mayT t = true
  ·rw [if_pos hm, hm, Bool.true_and, dr5 ((av8 s ht).len _ (ba2 _ _))]
  ·rw [if_neg hm]
   have : mayT t = false := by simpa using hm
   rw [this, Bool.false_and]
   symm
   exact decide_eq_false (by omega)
 rw [hv]
 clear hv
 generalize (if mayT t = true then bz7 (posL 0 (aa6 s t (atL s.length 0))) else -1) = v at h1 ⊢
 cases ht with
 | mk kd w x0 ts lo hi hw hx0 hts =>
 obtain ⟨cx, ox⟩ := hx0.one
 refine af6 R.bu9 (by simp) ?_
 unfold Gn.bg9 Gn.az3
 unfold RT.E at h1 ⊢
 unfold EV.one at ox
 unfold EV.cells at cx
 simp only at h1
 repeat' first | (simp (disch := first | omega | assumption) only [go_sem, simprocAttr, *]) | refine aa0 (fun hb=>?_) fun hb=>?_ | refine aa1 (fun hb=>?_) fun hb=>?_
 all_goals (try simp only [FX] at *)
 all_goals first | omega | exact aa4 rfl rfl
end
end Abs
