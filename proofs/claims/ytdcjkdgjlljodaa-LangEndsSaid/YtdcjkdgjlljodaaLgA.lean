/- A part. -/
import Derived.Test.YtdcjkdgjlljodaaTrD
set_option linter.all false
namespace Abs
open Go
set_option maxRecDepth 20000
section
variable {E : Env} [R : SlcR E]
theorem dg8 (f : EV) (p : Int → Bool) (b : Nat) (l : List Int) (H : Heap) (hb : H[b]? = some (some (.row 1 (aa8 l)))) (hf : eq7 E f p l H) (hl : l.length ≤ 9223372036854775806) :
  den E R.ac4 [.own b 1 0 l.length, f] H = some (.ret (.int .i64 (idxI p l 0)), H) := by
 refine ae7 R.ai0 (by simp) ?_
 unfold Gn.ae5 Gn.ad9
 simp (disch := omega) only [go_sem, simprocAttr, *]
 refine af8 (ι := Nat) (fun i => i ≤ l.length ∧ idxI p l 0 = idxI p (l.drop i) i) (fun i => l.length - i) (fun i => [(0, .own b 1 0 l.length), (1, f), (7, .int .i64 l.length), (8, .int .i64 i)]) (fun _ => H) 0 ⟨by omega, rfl⟩ ?_ rfl ?_
 ·simp (disch := omega) only [go_sem, simprocAttr, Sl]
 ·rintro i t ⟨hi, hr⟩ ht K hK
  simp (disch := omega) only [go_sem, simprocAttr, Sl] at ht
  by_cases hlt : i < l.length
  ·obtain ⟨v, hv⟩ := ab2 hlt
   have hg := aw5 hv
   have hc := hf v (List.mem_of_getElem? hv)
   have hlen := ab6 l
   rw [bs5 hv] at hr
   simp only [idxI] at hr
   have go : p v = false → _ := fun h s' H' => hK (i + 1) s' H' ⟨by omega, by rw [hr, if_neg (by simp [h])]; rfl⟩ (by omega)
   cases hp : p v with
   | true =>
    rw [hp] at hc hr
    rw [if_pos rfl] at hr
    rw [hr]
    clear go hK hf hr
    repeat' first | (simp (disch := first | omega | assumption) only [go_sem, simprocAttr, *]) | refine aa0 (fun hb=>?_) fun hb=>?_ | refine aa1 (fun hb=>?_) fun hb=>?_
    all_goals (try simp only [FX] at *)
    all_goals first | omega | exact ac8 rfl rfl
   | false =>
    rw [hp] at hc
    replace go := go hp
    clear hK hf hr
    repeat' first | (simp (disch := first | omega | assumption) only [go_sem, simprocAttr, *]) | refine aa0 (fun hb=>?_) fun hb=>?_ | refine aa1 (fun hb=>?_) fun hb=>?_
    all_goals (try simp only [FX] at *)
    all_goals first
     | omega
     | (refine go _ _ ?_ rfl; simp (disch := omega) only [go_sem, simprocAttr, Sl, ht, and_self, ab0])
  ·have : i = l.length := by omega
   subst this
   have he : idxI p l 0 = -1 := by rw [hr]; simp [idxI]
   rw [he]
   clear hK hf hr
   repeat' first | (simp (disch := first | omega | assumption) only [go_sem, simprocAttr, *]) | refine aa0 (fun hb=>?_) fun hb=>?_ | refine aa1 (fun hb=>?_) fun hb=>?_
   all_goals (try simp only [FX] at *)
   all_goals first | omega | exact ac8 rfl rfl
theorem cx8 (f : EV) (p : Int → Bool) (b : Nat) (l : List Int) (H : Heap) (hb : H[b]? = some (some (.row 1 (aa8 l)))) (hf : ∀ r, eq7 E f p l (H.set b (some (.row 1 r)))) (hl : l.length ≤ 9223372036854775806) :
  den E R.ad5 [.own b 1 0 l.length, f] H = some (.ret (.own b 1 0 (l.filter fun v => !p v).length), H.set b (some (.row 1 (aa8 (if idxI p l 0 = -1 then l else rowD (fun v => !p v) l))))) := by
 have hbl := (List.getElem?_eq_some_iff.1 hb).1
 have hself : H.set b (some (.row 1 (aa8 l))) = H := by
  apply List.ext_getElem?
  intro k
  by_cases hk : b = k
  ·subst hk; rw [List.getElem?_set_self hbl, hb]
  ·rw [List.getElem?_set_ne hk]
 have hf0 : eq7 E f p l H := by have := hf (aa8 l); rwa [hself] at this
 have hx := dg8 (E := E) f p b l H hb hf0 hl
 refine ae7 R.ah3 (by simp) ?_
 unfold Gn.ae2 Gn.ad3
 by_cases hi : idxI p l 0 = -1
 ·rw [if_pos hi, hself, (br8 (p := p) (l := l) (i := 0)).1 ⟨hi, by omega⟩]
  rw [hi] at hx
  clear hf hf0
  repeat' first | (simp (disch := first | omega | assumption) only [go_sem, simprocAttr, *]) | refine aa0 (fun hb=>?_) fun hb=>?_ | refine aa1 (fun hb=>?_) fun hb=>?_
  exact ac8 (by simp [EV.ok]; exact hbl) rfl
 ·rw [if_neg hi]
  obtain ⟨k, hk, hik, htk⟩ := (br8 (p := p) (l := l) (i := 0)).2 (by omega) hi
  rw [hik] at hx
  have hx' : den E R.ac4 [.own b 1 0 l.length, f] H = some (.ret (.int .i64 k), H) := by rw [hx]; simp
  clear hx
  let q : Int → Bool := fun v => !p v
  let hp : Nat → Heap := fun j => H.set b (some (.row 1 (aa8 (rowK q l j))))
  have hrow0 : hp (k + 1) = H := by
   have : rowK q l (k + 1) = l := by
    unfold rowK
    rw [show (l.take (k + 1)).filter q = l.take k from htk]
    simp [Nat.min_eq_left (Nat.le_of_lt hk)]
   show H.set b (some (.row 1 (aa8 (rowK q l (k + 1))))) = H
   rw [this]; exact hself
  have hkn : ((k : Int) == -1) = false := by rw [beq_eq_false_iff_ne]; omega
  simp (disch := omega) only [go_sem, simprocAttr, hx', hkn]
  refine af8 (ι := Nat) (fun j => k + 1 ≤ j ∧ j ≤ l.length) (fun j => l.length - j) (fun j => [(0, .own b 1 0 l.length), (1, f), (5, .int .i64 ((l.take j).filter q).length), (6, .int .i64 j)]) hp (k + 1) ⟨by omega, by omega⟩ ?_ hrow0.symm ?_
  ·have hk0 : ((l.take (k + 1)).filter q).length = k := by rw [show (l.take (k + 1)).filter q = l.take k from htk]; simp; omega
   simp (disch := omega) only [go_sem, simprocAttr, Sl, hk0, ab0]
  ·rintro j t ⟨hj1, hj2⟩ ht K hK
   simp (disch := omega) only [go_sem, simprocAttr, Sl] at ht
   have hle := ci4 (q := q) hj2
   have hlen : (aa8 (rowK q l j)).length = l.length := by rw [ab6, da0 hj2]
   have hgb : (H.set b (some (EB.row 1 (aa8 (rowK q l j)))))[b]? = some (some (.row 1 (aa8 (rowK q l j)))) := List.getElem?_set_self hbl
   by_cases hlt : j < l.length
   ·obtain ⟨v, hv⟩ := ab2 hlt
    have hg := aw5 (eb6 (q := q) hv)
    have hc := hf (aa8 (rowK q l j)) v (List.mem_of_getElem? hv)
    clear hf hf0 hx'
    cases hpv : p v with
    | true =>
     have hqv : q v = false := by simp [q, hpv]
     have hs := bs2 (q := q) hv
     rw [hqv] at hs
     simp only [Bool.false_eq_true, if_false, List.append_nil] at hs
     have hk' := hK (j + 1)
     rw [hs, show hp (j + 1) = hp j by show H.set b _ = H.set b _; rw [dn0 hv hqv]] at hk'
     rw [hpv] at hc
     clear hs hqv hpv
     show @Hd E ⟨_⟩ ⟨_⟩ ⟨H.set b (some (.row 1 (aa8 (rowK q l j))))⟩ ⟨_⟩
     repeat' first | (simp (disch := first | omega | assumption) only [go_sem, simprocAttr, *]) | refine aa0 (fun hb=>?_) fun hb=>?_ | refine aa1 (fun hb=>?_) fun hb=>?_
     all_goals (try simp only [FX] at *)
     all_goals first
      | omega
      | skip
     refine hk' _ _ ⟨by omega, by omega⟩ (by omega) ?_ rfl
     simp (disch := omega) only [go_sem, simprocAttr, Sl, ht, and_self, ab0]
    | false =>
     have hqv : q v = true := by simp [q, hpv]
     have hs := bs2 (q := q) hv
     rw [hqv] at hs
     simp only [if_true] at hs
     have hlt2 : ((l.take j).filter q).length < (rowK q l j).length := by rw [da0 hj2]; omega
     obtain ⟨w, hw⟩ := ab2 hlt2
     have hgw := aw5 hw
     have hst : (aa8 (rowK q l j)).set ((l.take j).filter q).length (.int .i64 v) = aa8 (rowK q l (j + 1)) := by
      rw [← dm9 hv hqv]
      unfold aa8
      rw [List.map_set]
     have hk' := hK (j + 1)
     rw [hs] at hk'
     simp only [List.length_append, List.length_cons, List.length_nil, Nat.zero_add] at hk'
     have hss : ∀ x y : Option EB, (H.set b x).set b y = H.set b y := fun x y => List.set_set ..
     rw [hpv] at hc
     clear hs hqv hpv
     show @Hd E ⟨_⟩ ⟨_⟩ ⟨H.set b (some (.row 1 (aa8 (rowK q l j))))⟩ ⟨_⟩
     repeat' first | (simp (disch := first | omega | assumption) only [go_sem, simprocAttr, *]) | refine aa0 (fun hb=>?_) fun hb=>?_ | refine aa1 (fun hb=>?_) fun hb=>?_
     all_goals (try simp only [FX] at *)
     all_goals first
      | omega
      | skip
     refine hk' _ _ ⟨by omega, by omega⟩ (by omega) ?_ rfl
     simp (disch := omega) only [go_sem, simprocAttr, Sl, ht, and_self, ab0]
   ·have hjl : j = l.length := by omega
    subst hjl
    have htl : (l.take l.length).filter q = l.filter q := by rw [List.take_length]
    rw [htl] at ht hle
    have hrd : (aa8 (rowK q l l.length)).take (l.filter q).length ++ List.replicate (l.length - (l.filter q).length) (EV.int .i64 0) ++ (aa8 (rowK q l l.length)).drop ((l.filter q).length + (l.length - (l.filter q).length)) = aa8 (rowD q l) := by
     unfold rowK rowD
     rw [htl, br7, br7, ds6]
     rw [List.take_append_of_le_length (by rw [ab6]; exact Nat.le_refl _), List.take_of_length_le (by rw [ab6]; exact Nat.le_refl _)]
     rw [List.drop_of_length_le (by rw [List.length_append, ab6, ab6, List.length_drop]; omega), List.append_nil]
    have hss : ∀ x y : Option EB, (H.set b x).set b y = H.set b y := fun x y => List.set_set ..
    have hcl : bp1 1 (.int .i64 0) (.own b 1 (l.filter q).length (l.length - (l.filter q).length)) (H.set b (some (EB.row 1 (aa8 (rowK q l l.length))))) = some (H.set b (some (.row 1 (aa8 (if (l.length - (l.filter q).length) = 0 then rowK q l l.length else rowD q l))))) := by
     unfold bp1
     by_cases hz : l.length - (l.filter q).length = 0
     ·simp only [if_pos hz]
     ·simp only [if_neg hz, hgb]
      rw [if_pos ⟨trivial, trivial, by rw [hlen]; omega⟩, hrd, hss]
    have hsame : (if (l.length - (l.filter q).length) = 0 then rowK q l l.length else rowD q l) = rowD q l := by
     split
     ·rename_i hz
      unfold rowK rowD
      rw [htl, hz]
      simp only [List.replicate_zero, List.append_nil]
      rw [List.drop_of_length_le (by omega), List.append_nil]
     ·rfl
    rw [hsame] at hcl
    have hfin : ∀ v, v.ok H.length = true → finV H v ER.ret (H.set b (some (.row 1 (aa8 (rowD q l))))) = some (.ret v, H.set b (some (.row 1 (aa8 (rowD q l))))) := fun v hv => by
     exact co6 hv (by simp) rfl
    clear hf hf0 hx' hK hsame hrd hgb
    show @Hd E ⟨_⟩ ⟨_⟩ ⟨H.set b (some (.row 1 (aa8 (rowK q l l.length))))⟩ ⟨_⟩
    repeat' first | (simp (disch := first | omega | assumption) only [go_sem, simprocAttr, *]) | refine aa0 (fun hb=>?_) fun hb=>?_ | refine aa1 (fun hb=>?_) fun hb=>?_
    all_goals (try simp only [FX] at *)
    all_goals first
     | omega
     | exact hfin _ (by simp [EV.ok]; exact hbl)
theorem cg0 (x : EV) (l : List Int) (H : Heap) (hx : ArgI H x l) (hl : l.length ≤ 1000000) : (l = [] ∧ ∃ y, den E R.ad2 [x] H = some (.ret y, H) ∧ (y = .nilsl ∨ y = .zsl)) ∨ (l ≠ [] ∧ den E R.ad2 [x] H = some (.ret (.own H.length 1 0 l.length), H ++ [some (.row 1 (aa8 l))])) := by
 have hels := hx.els
 have hall : (aa8 l).all (fun e => e.cells.length == 1 && e.cells.all EV.one) = true := by
  rw [List.all_eq_true]
  intro e he
  obtain ⟨v, _, rfl⟩ := List.mem_map.1 he
  rfl
 rcases hx with ⟨rfl, this⟩ | ⟨rfl, this⟩ | ⟨s, rfl⟩ | ⟨b, rfl, hb⟩
 ·refine .inl ⟨this, .nilsl, ?_, .inl rfl⟩
  refine ay7 R.ab4 (by simp) ?_
  unfold Gn.ab1 Gn.aa6
  repeat' first | (simp (disch := first | omega | assumption) only [go_sem, simprocAttr, *]) | refine aa0 (fun hb=>?_) fun hb=>?_ | refine aa1 (fun hb=>?_) fun hb=>?_
 ·refine .inl ⟨this, .zsl, ?_, .inr rfl⟩
  have hap : ac0 1 8 .zsl .zsl H = some (.zsl, H) := by unfold ac0; rw [hels, this]; simp [aa8]
  refine ay7 R.ab4 (by simp) ?_
  unfold Gn.ab1 Gn.aa6
  repeat' first | (simp (disch := first | omega | assumption) only [go_sem, simprocAttr, *]) | refine aa0 (fun hb=>?_) fun hb=>?_ | refine aa1 (fun hb=>?_) fun hb=>?_
 ·cases hl0 : l with
  | nil =>
   subst hl0
   refine .inl ⟨rfl, .zsl, ?_, .inr rfl⟩
   have hap : ac0 1 8 .zsl (.imm s (aa8 [])) H = some (.zsl, H) := by unfold ac0; rw [hels]; simp [aa8]
   refine ay7 R.ab4 (by simp) ?_
   unfold Gn.ab1 Gn.aa6
   repeat' first | (simp (disch := first | omega | assumption) only [go_sem, simprocAttr, *]) | refine aa0 (fun hb=>?_) fun hb=>?_ | refine aa1 (fun hb=>?_) fun hb=>?_
  | cons v r =>
   refine .inr ⟨by simp, ?_⟩
   rw [← hl0]
   have hne : ¬ (aa8 l).length = 0 := by rw [ab6, hl0]; simp
   have hap : ac0 1 8 .zsl (.imm s (aa8 l)) H = some (.own H.length 1 0 l.length, H ++ [some (.row 1 (aa8 l))]) := by
    unfold ac0
    rw [hels]
    simp only [hall, and_true]
    rw [if_pos (by omega), if_neg hne, ab6, if_pos ⟨by omega, by omega⟩]
   clear hl0 hne
   refine ay7 R.ab4 (by simp) ?_
   unfold Gn.ab1 Gn.aa6
   repeat' first | (simp (disch := first | omega | assumption) only [go_sem, simprocAttr, *]) | refine aa0 (fun hb=>?_) fun hb=>?_ | refine aa1 (fun hb=>?_) fun hb=>?_
 ·cases hl0 : l with
  | nil =>
   subst hl0
   refine .inl ⟨rfl, .zsl, ?_, .inr rfl⟩
   have hap : ac0 1 8 .zsl (.own b 1 0 0) H = some (.zsl, H) := by unfold ac0; rw [show elems H (.own b 1 0 0) = some (aa8 []) from hels]; simp [aa8]
   refine ay7 R.ab4 (by simp) ?_
   unfold Gn.ab1 Gn.aa6
   repeat' first | (simp (disch := first | omega | assumption) only [go_sem, simprocAttr, *]) | refine aa0 (fun hb=>?_) fun hb=>?_ | refine aa1 (fun hb=>?_) fun hb=>?_
  | cons v r =>
   refine .inr ⟨by simp, ?_⟩
   rw [← hl0]
   have hne : ¬ (aa8 l).length = 0 := by rw [ab6, hl0]; simp
   have hap : ac0 1 8 .zsl (.own b 1 0 l.length) H = some (.own H.length 1 0 l.length, H ++ [some (.row 1 (aa8 l))]) := by
    unfold ac0
    rw [hels]
    simp only [hall, and_true]
    rw [if_pos (by omega), if_neg hne, ab6, if_pos ⟨by omega, by omega⟩]
   clear hl0 hne
   refine ay7 R.ab4 (by simp) ?_
   unfold Gn.ab1 Gn.aa6
   repeat' first | (simp (disch := first | omega | assumption) only [go_sem, simprocAttr, *]) | refine aa0 (fun hb=>?_) fun hb=>?_ | refine aa1 (fun hb=>?_) fun hb=>?_
theorem dj1 (x : EV) (hx : an2 x []) : ∃ y, (∀ H, den E R.ad2 [x] H = some (.ret y, H)) ∧ (y = .nilsl ∨ y = .zsl) := by
 rcases hx.shape with ⟨rfl, _⟩ | ⟨rfl, _⟩ | ⟨s, rfl⟩
 ·refine ⟨.nilsl, fun H => ?_, .inl rfl⟩
  refine ay7 R.ab4 (by simp) ?_
  unfold Gn.ab1 Gn.aa6
  repeat' first | (simp (disch := first | omega | assumption) only [go_sem, simprocAttr, *]) | refine aa0 (fun hb=>?_) fun hb=>?_ | refine aa1 (fun hb=>?_) fun hb=>?_
 ·refine ⟨.zsl, fun H => ?_, .inr rfl⟩
  have hap : ac0 1 8 .zsl .zsl H = some (.zsl, H) := by unfold ac0; rw [hx.els]; simp [aa8]
  refine ay7 R.ab4 (by simp) ?_
  unfold Gn.ab1 Gn.aa6
  repeat' first | (simp (disch := first | omega | assumption) only [go_sem, simprocAttr, *]) | refine aa0 (fun hb=>?_) fun hb=>?_ | refine aa1 (fun hb=>?_) fun hb=>?_
 ·refine ⟨.zsl, fun H => ?_, .inr rfl⟩
  have hap : ac0 1 8 .zsl (.imm s (aa8 [])) H = some (.zsl, H) := by unfold ac0; rw [hx.els]; simp [aa8]
  refine ay7 R.ab4 (by simp) ?_
  unfold Gn.ab1 Gn.aa6
  repeat' first | (simp (disch := first | omega | assumption) only [go_sem, simprocAttr, *]) | refine aa0 (fun hb=>?_) fun hb=>?_ | refine aa1 (fun hb=>?_) fun hb=>?_
theorem cx7 (y : EV) (hy : y = .nilsl ∨ y = .zsl) (f : EV) (H : Heap) : den E R.ad5 [y, f] H = some (.ret y, H) := by
 have h1 : den E R.ac4 [y, f] H = some (.ret (.int .i64 (-1)), H) := by
  refine ae7 R.ai0 (by simp) ?_
  unfold Gn.ae5 Gn.ad9
  rcases hy with rfl | rfl
  ·simp (disch := omega) only [go_sem, simprocAttr]
   refine ar5 ?_
   repeat' first | (simp (disch := first | omega | assumption) only [go_sem, simprocAttr, *]) | refine aa0 (fun hb=>?_) fun hb=>?_ | refine aa1 (fun hb=>?_) fun hb=>?_
   exact ac8 rfl rfl
  ·simp (disch := omega) only [go_sem, simprocAttr]
   refine ar5 ?_
   repeat' first | (simp (disch := first | omega | assumption) only [go_sem, simprocAttr, *]) | refine aa0 (fun hb=>?_) fun hb=>?_ | refine aa1 (fun hb=>?_) fun hb=>?_
   exact ac8 rfl rfl
 refine ae7 R.ah3 (by simp) ?_
 unfold Gn.ae2 Gn.ad3
 rcases hy with rfl | rfl
 ·repeat' first | (simp (disch := first | omega | assumption) only [go_sem, simprocAttr, *]) | refine aa0 (fun hb=>?_) fun hb=>?_ | refine aa1 (fun hb=>?_) fun hb=>?_
  exact ac8 rfl rfl
 ·repeat' first | (simp (disch := first | omega | assumption) only [go_sem, simprocAttr, *]) | refine aa0 (fun hb=>?_) fun hb=>?_ | refine aa1 (fun hb=>?_) fun hb=>?_
  exact ac8 rfl rfl
theorem ds5 (v : Int) (H : Heap) : den E R.as1 [.int .i64 v] H = some (.ret (.bool false), H) := by
 refine ae7 R.be9 (by simp) ?_
 unfold Gn.ax6 Gn.as3
 repeat' first | (simp (disch := first | omega | assumption) only [go_sem, simprocAttr, *]) | refine aa0 (fun hb=>?_) fun hb=>?_ | refine aa1 (fun hb=>?_) fun hb=>?_
 all_goals (try simp only [FX] at *)
 exact ac8 rfl (by rw [bne_self_eq_false])
theorem dg7 (v : Int) (H : Heap) : den E R.al6 [.int .i64 v] H = some (.ret (.bool false), H) := by
 refine ae7 R.aw7 (by simp) ?_
 unfold Gn.ap3 Gn.al5
 repeat' first | (simp (disch := first | omega | assumption) only [go_sem, simprocAttr, *]) | refine aa0 (fun hb=>?_) fun hb=>?_ | refine aa1 (fun hb=>?_) fun hb=>?_
 all_goals (try simp only [FX] at *)
 exact ac8 rfl (by rw [bne_self_eq_false])
theorem dr8 (v u : Int) (H : Heap) : den E R.at7 [.int .i64 v, .int .i64 u] H = some (.ret (.bool (decide (v < u))), H) := by
 have h := fun H => ds5 (E := E) v H
 refine ae7 R.bg8 (by simp) ?_
 unfold Gn.ba6 Gn.au2
 repeat' first | (simp (disch := first | omega | assumption) only [go_sem, simprocAttr, *]) | refine aa0 (fun hb=>?_) fun hb=>?_ | refine aa1 (fun hb=>?_) fun hb=>?_
 all_goals (try simp only [FX] at *)
 exact ac8 rfl rfl
end
def posL : Nat → List Bool → List Int
 | _, [] => []
 | k, b :: a => if b = true then (k : Int) :: posL (k + 1) a else posL (k + 1) a
theorem an3 : ∀ {a : List Bool} {k : Nat} {v : Int}, v ∈ posL k a ↔ ∃ i : Nat, a.getD i false = true ∧ v = k + i
 | [], k, v => by simp [posL]
 | b :: a, k, v => by
  have ih := an3 (a := a) (k := k + 1) (v := v)
  have key : (∃ i : Nat, (b :: a).getD i false = true ∧ v = k + i) ↔ (b = true ∧ v = k) ∨ ∃ i : Nat, a.getD i false = true ∧ v = ((k + 1 : Nat) : Int) + i := by
   constructor
   ·rintro ⟨i, h1, h2⟩
    cases i with
    | zero => exact .inl ⟨by simpa using h1, by simpa using h2⟩
    | succ i => exact .inr ⟨i, by simpa using h1, by omega⟩
   ·rintro (⟨h1, h2⟩ | ⟨i, h1, h2⟩)
    ·exact ⟨0, by simpa using h1, by simpa using h2⟩
    ·exact ⟨i + 1, by simpa using h1, by omega⟩
  rw [key, ← ih]
  simp only [posL]
  cases b <;> simp
theorem em3 {a : List Bool} {k : Nat} {v : Int} (h : v ∈ posL k a) : (k : Int) ≤ v := by
 obtain ⟨i, _, h2⟩ := an3.1 h
 omega
theorem az9 : ∀ (a : List Bool) (k : Nat), (posL k a).Pairwise (· < ·)
 | [], _ => by simp [posL]
 | b :: a, k => by
  have ih := az9 a (k + 1)
  unfold posL
  split
  ·refine List.pairwise_cons.2 ⟨fun v hv => ?_, ih⟩
   have := em3 hv
   omega
  ·exact ih
theorem ar2 : ∀ (a : List Bool) (k : Nat), (posL k a).length = cntT a
 | [], _ => rfl
 | b :: a, k => by
  have ih := ar2 a (k + 1)
  unfold cntT at ih ⊢
  unfold posL
  rw [List.countP_cons]
  cases b <;> simp [ih]
theorem cu2 {a : List Bool} {v : Int} (h : v ∈ posL 0 a) : 0 ≤ v ∧ v < a.length ∧ a.getD v.toNat false = true := by
 obtain ⟨i, h1, h2⟩ := an3.1 h
 have e : v.toNat = i := by omega
 rw [e]
 refine ⟨by omega, ?_, h1⟩
 by_cases hi : i < a.length
 ·omega
 ·rw [List.getD_eq_getElem?_getD, List.getElem?_eq_none (by omega)] at h1
  simp at h1
theorem by9 (n k : Nat) : posL k (ac3 n) = [] := by
 refine List.eq_nil_iff_forall_not_mem.2 fun v hv => ?_
 obtain ⟨i, h1, _⟩ := an3.1 hv
 rw [ao6] at h1
 simp at h1
theorem do7 (n p : Nat) (hp : p ≤ n) : posL 0 (atL n p) = [(p : Int)] := by
 have h1 := az9 (atL n p) 0
 have h2 : ∀ v, v ∈ posL 0 (atL n p) ↔ v = (p : Int) := fun v => by
  rw [an3]
  constructor
  ·rintro ⟨i, h, e⟩
   rw [dy2 hp] at h
   simp only [decide_eq_true_eq] at h
   omega
  ·intro e
   exact ⟨p, by rw [dy2 hp]; simp, by omega⟩
 match hl : posL 0 (atL n p), h1, h2 with
 | [], _, h2 => exact absurd ((h2 p).2 rfl) (by simp)
 | [v], _, h2 => rw [(h2 v).1 (by simp)]
 | v :: u :: l, h1, h2 =>
  have e1 := (h2 v).1 (by simp)
  have e2 := (h2 u).1 (by simp)
  have := (List.pairwise_cons.1 h1).1 u (by simp)
  omega
theorem ch2 : ∀ {a b : List Int}, a.Pairwise (· < ·) → b.Pairwise (· < ·) → (∀ v, v ∈ a ↔ v ∈ b) → a = b
 | [], [], _, _, _ => rfl
 | [], y :: b, _, _, h => absurd ((h y).2 (by simp)) (by simp)
 | x :: a, [], _, _, h => absurd ((h x).1 (by simp)) (by simp)
 | x :: a, y :: b, ha, hb, h => by
  obtain ⟨a1, a2⟩ := List.pairwise_cons.1 ha
  obtain ⟨b1, b2⟩ := List.pairwise_cons.1 hb
  have e : x = y := by
   have h1 := (h x).1 (by simp)
   have h2 := (h y).2 (by simp)
   simp only [List.mem_cons] at h1 h2
   rcases h1 with h1 | h1
   ·exact h1
   ·rcases h2 with h2 | h2
    ·exact h2.symm
    ·have := b1 x h1
     have := a1 y h2
     omega
  subst e
  congr 1
  refine ch2 a2 b2 fun v => ?_
  have := h v
  simp only [List.mem_cons] at this
  constructor
  ·intro hv
   have h1 := a1 v hv
   rcases this.1 (.inr hv) with h2 | h2
   ·omega
   ·exact h2
  ·intro hv
   have h1 := b1 v hv
   rcases this.2 (.inr hv) with h2 | h2
   ·omega
   ·exact h2
def cmpF (p : Int) : List Int → List Int
 | [] => []
 | y :: l => if y = p then cmpF p l else y :: cmpF y l
def comp : List Int → List Int
 | [] => []
 | x :: l => x :: cmpF x l
theorem cb3 : ∀ (l : List Int) (p u v : Int), (p :: l).getLast? = some u → cmpF p (l ++ [v]) = cmpF p l ++ (if v = u then [] else [v])
 | [], p, u, v, h => by
  simp only [List.getLast?_singleton, Option.some.injEq] at h
  subst h
  simp only [List.nil_append, cmpF]
 | y :: l, p, u, v, h => by
  have h' : (y :: l).getLast? = some u := by simpa using h
  simp only [List.cons_append, cmpF]
  split
  ·rename_i e
   subst e
   exact cb3 l y u v h'
  ·rw [cb3 l y u v h', List.cons_append]
theorem cb1 {l : List Int} {j : Nat} {u v : Int} (hu : l[j]? = some u) (hv : l[j + 1]? = some v) : comp (l.take (j + 2)) = comp (l.take (j + 1)) ++ (if v = u then [] else [v]) := by
 have e : l.take (j + 2) = l.take (j + 1) ++ [v] := by rw [List.take_add_one, hv]; rfl
 have g : (l.take (j + 1)).getLast? = some u := by rw [List.take_add_one, hu]; simp
 rw [e]
 cases hl : l.take (j + 1) with
 | nil => rw [hl] at g; simp at g
 | cons x r =>
  rw [hl] at g
  simp only [List.cons_append, comp]
  rw [cb3 r x u v g]
theorem cy2 (p : Int) : ∀ l, (cmpF p l).length ≤ l.length
 | [] => Nat.le_refl _
 | y :: l => by
  simp only [cmpF]
  split
  ·have := cy2 p l; simp; omega
  ·have := cy2 y l; simp; omega
theorem dx2 : ∀ l, (comp l).length ≤ l.length
 | [] => Nat.le_refl _
 | x :: l => by have := cy2 x l; simp [comp]; omega
theorem cb4 : ∀ (l : List Int) (p : Int), (p :: l).Pairwise (· ≤ ·) → (p :: cmpF p l).Pairwise (· < ·) ∧ ∀ v, v ∈ p :: cmpF p l ↔ v ∈ p :: l
 | [], p, _ => ⟨by simp [cmpF], fun v => by simp [cmpF]⟩
 | y :: l, p, h => by
  obtain ⟨h1, h2⟩ := List.pairwise_cons.1 h
  simp only [cmpF]
  split
  ·rename_i e
   subst e
   obtain ⟨i1, i2⟩ := cb4 l y h2
   exact ⟨i1, fun v => by rw [i2 v]; simp⟩
  ·rename_i e
   obtain ⟨i1, i2⟩ := cb4 l y h2
   refine ⟨List.pairwise_cons.2 ⟨fun v hv => ?_, i1⟩, fun v => by rw [List.mem_cons, i2 v, List.mem_cons (l := y :: l)]⟩
   have hy := h1 y (by simp)
   rcases List.mem_cons.1 hv with rfl | hv'
   ·omega
   ·have := (List.pairwise_cons.1 i1).1 v hv'
    omega
theorem dx1 {l : List Int} (h : l.Pairwise (· ≤ ·)) : (comp l).Pairwise (· < ·) ∧ ∀ v, v ∈ comp l ↔ v ∈ l := by
 cases l with
 | nil => exact ⟨by simp [comp], fun v => by simp [comp]⟩
 | cons x l => exact cb4 l x h
def srt (l : List Int) : List Int := l.mergeSort fun x y => decide (x ≤ y)
theorem dm0 (l : List Int) : (srt l).length = l.length := by simp [srt]
theorem eb1 (l : List Int) : (srt l).Pairwise (· ≤ ·) := by
 have := List.pairwise_mergeSort (le := fun x y : Int => decide (x ≤ y)) (by intro a b c; simp only [decide_eq_true_eq]; omega) (by intro a b; simp only [Bool.or_eq_true, decide_eq_true_eq]; omega) l
 simpa [srt] using this
theorem el2 (l : List Int) (v : Int) : v ∈ srt l ↔ v ∈ l := by simp [srt]
theorem dr2 {a b : List Bool} (h : a.length = b.length) : comp (srt (posL 0 a ++ posL 0 b)) = posL 0 (orL a b) := by
 obtain ⟨h1, h2⟩ := dx1 (eb1 (posL 0 a ++ posL 0 b))
 refine ch2 h1 (az9 _ _) fun v => ?_
 rw [h2, el2, List.mem_append, an3, an3, an3]
 constructor
 ·rintro (⟨i, h3, h4⟩ | ⟨i, h3, h4⟩)
  ·exact ⟨i, by rw [af1 h, h3]; rfl, h4⟩
  ·exact ⟨i, by rw [af1 h, h3, Bool.or_true], h4⟩
 ·rintro ⟨i, h3, h4⟩
  rw [af1 h, Bool.or_eq_true] at h3
  rcases h3 with h3 | h3
  ·exact .inl ⟨i, h3, h4⟩
  ·exact .inr ⟨i, h3, h4⟩
theorem ee2 {a b : List Bool} (h : a.length = b.length) : (posL 0 a).filter (fun v => !decide (v ∈ posL 0 b)) = posL 0 (aw4 a b) := by
 refine ch2 ((az9 _ _).filter _) (az9 _ _) fun v => ?_
 rw [List.mem_filter, an3 (a := a), an3 (a := aw4 a b)]
 constructor
 ·rintro ⟨⟨i, h3, h4⟩, h5⟩
  refine ⟨i, ?_, h4⟩
  rw [bd9 h, h3]
  cases hb : b.getD i false with
  | false => rfl
  | true => rw [decide_eq_true (an3.2 ⟨i, hb, h4⟩)] at h5; simp at h5
 ·rintro ⟨i, h3, h4⟩
  rw [bd9 h, Bool.and_eq_true] at h3
  refine ⟨⟨i, h3.1, h4⟩, ?_⟩
  rw [Bool.not_eq_true', decide_eq_false_iff_not]
  intro hv
  obtain ⟨j, h5, h6⟩ := an3.1 hv
  have : i = j := by omega
  subst this
  rw [h5] at h3
  simp at h3
def bg4 (w : Nat → Nat) (s : List UInt8) (p : Int) : Option Int := if p < s.length ∧ bb7 w (s.getD p.toNat 0).toNat = true then some (p + 1) else none
theorem ea7 (w : Nat → Nat) {s : List UInt8} {a : List Bool} (h : a.length = s.length + 1) : (posL 0 a).filterMap (bg4 w s) = posL 0 (ba7 w s a) := by
 refine ch2 ?_ (az9 _ _) fun v => ?_
 ·refine List.Pairwise.filterMap (bg4 w s) ?_ (az9 a 0)
  intro x y hxy x' hx y' hy
  unfold bg4 at hx hy
  split at hx <;> simp at hx
  split at hy <;> simp at hy
  omega
 ·rw [List.mem_filterMap, an3]
  constructor
  ·rintro ⟨p, hp, hs⟩
   obtain ⟨h0, h1, h2⟩ := cu2 hp
   unfold bg4 at hs
   split at hs <;> simp at hs
   rename_i hc
   obtain ⟨b, hb⟩ := ab2 (l := s) (i := p.toNat) (by omega)
   refine ⟨p.toNat + 1, ?_, by omega⟩
   rw [bc4 hb, h2]
   have := hc.2
   rw [List.getD_eq_getElem?_getD, hb] at this
   exact this
  ·rintro ⟨i, h1, h2⟩
   cases i with
   | zero => rw [bn9] at h1; simp at h1
   | succ i =>
    by_cases hi : i < s.length
    ·obtain ⟨b, hb⟩ := ab2 hi
     rw [bc4 hb, Bool.and_eq_true] at h1
     refine ⟨(i : Int), an3.2 ⟨i, h1.1, by omega⟩, ?_⟩
     unfold bg4
     rw [if_pos ⟨by omega, by rw [Int.toNat_natCast, List.getD_eq_getElem?_getD, hb]; exact h1.2⟩]
     exact congrArg some (by omega)
    ·rw [bm4 (by omega)] at h1; simp at h1
section
variable {E : Env} [R : SlcR E]
theorem cy6 (x : EV) (l : List Int) (hx : an2 x l) (hl : l.length ≤ 1000000) (hs : l.Pairwise (· < ·)) (v : Int) (H : Heap) :
  ∃ p : Int, den E R.ac6 [x, .int .i64 v] H = some (.ret (.tup [.int .i64 p, .bool (decide (v ∈ l))]), H) := by
 have lx := hx.lenI
 have ox := hx.one.2
 have hL := fun (u w : Int) H => dr8 (E := E) u w H
 have hN := fun (u : Int) H => dg7 (E := E) u H
 suffices h : ∃ r, den E R.ac6 [x, .int .i64 v] H = some r ∧ ∃ p : Int, r = (ER.ret (.tup [.int .i64 p, .bool (decide (v ∈ l))]), H) by
  obtain ⟨r, h1, p, rfl⟩ := h
  exact ⟨p, h1⟩
 refine cp9 R.aj5 (by simp) ?_
 unfold Gn.ae9 Gn.ae0
 unfold EV.one at ox
 simp (disch := omega) only [go_sem, simprocAttr, *]
 refine af8 (ι := Nat × Nat) (fun q => q.1 ≤ q.2 ∧ q.2 ≤ l.length ∧ (∀ (k : Nat) (u : Int), l[k]? = some u → k < q.1 → u < v) ∧ ∀ (k : Nat) (u : Int), l[k]? = some u → q.2 ≤ k → v ≤ u) (fun q => q.2 - q.1)
  (fun q => [(0, x), (1, .int .i64 v), (6, .int .i64 l.length), (7, .int .i64 q.1), (8, .int .i64 q.2)]) (fun _ => H) (0, l.length) ⟨by simp, by simp, fun k u _ h => by simp at h, fun k u h1 h2 => absurd (aa2 h1) (by simp at h2; omega)⟩ ?_ rfl ?_
 ·simp (disch := omega) only [go_sem, simprocAttr, Sl]
 rintro ⟨i, j⟩ t ⟨h1, h2, h3, h4⟩ ht K hK
 simp only at h1 h2 h3 h4 ht
 simp (disch := omega) only [go_sem, simprocAttr, Sl] at ht
 by_cases hlt : i < j
 ·obtain ⟨m, hm1, hm2, hsh⟩ : ∃ m : Nat, i ≤ m ∧ m < j ∧ ((i : Int) + j).fdiv (2 ^ min 1 64) = (m : Int) := by
   refine ⟨(i + j) / 2, by omega, by omega, ?_⟩
   show ((i : Int) + j).fdiv 2 = _
   rw [Int.fdiv_eq_ediv_of_nonneg _ (by omega)]
   omega
  obtain ⟨u, hu⟩ := ab2 (l := l) (i := m) (by omega)
  have hat := hx.at hu
  have ho : ∀ (k k' : Nat) (y z : Int), l[k]? = some y → l[k']? = some z → k < k' → y < z := fun k k' y z hy hz hk => by
   have := (List.pairwise_iff_getElem.1 hs) k k' (aa2 hy) (aa2 hz) hk
   rwa [(List.getElem?_eq_some_iff.1 hy).2, (List.getElem?_eq_some_iff.1 hz).2] at this
  by_cases hc : u < v
  ·have go := fun s' H' => hK (m + 1, j) s' H' ⟨by simp only; omega, h2, fun k w hw hk => by
    simp only at hk
    by_cases e : k = m
    ·subst e
     rw [hu] at hw
     simp only [Option.some.injEq] at hw
     omega
    ·have := ho k m w u hw hu (by omega)
     omega, h4⟩ (by simp only; omega)
   have hd : decide (u < v) = true := decide_eq_true hc
   clear hK h3 h4 hs ho
   repeat' first | (simp (disch := first | omega | assumption) only [go_sem, simprocAttr, *]) | refine aa0 (fun hb=>?_) fun hb=>?_ | refine aa1 (fun hb=>?_) fun hb=>?_
   all_goals (try simp only [FX] at *)
   all_goals first | omega | skip
   refine go _ _ ?_ rfl
   simp (disch := omega) only [go_sem, simprocAttr, Sl, ht, and_self, ab0]
  ·have go := fun s' H' => hK (i, m) s' H' ⟨by simp only; omega, by simp only; omega, h3, fun k w hw hk => by
    simp only at hk
    by_cases e : k = m
    ·subst e
     rw [hu] at hw
     simp only [Option.some.injEq] at hw
     omega
    ·have := ho m k u w hu hw (by omega)
     omega⟩ (by simp only; omega)
   have hd : decide (u < v) = false := decide_eq_false hc
   clear hK h3 h4 hs ho
   repeat' first | (simp (disch := first | omega | assumption) only [go_sem, simprocAttr, *]) | refine aa0 (fun hb=>?_) fun hb=>?_ | refine aa1 (fun hb=>?_) fun hb=>?_
   all_goals (try simp only [FX] at *)
   all_goals first | omega | skip
   refine go _ _ ?_ rfl
   simp (disch := omega) only [go_sem, simprocAttr, Sl, ht, and_self, ab0]
 ·have hij : i = j := by omega
  subst hij
  clear hK
  by_cases hin : i < l.length
  ·obtain ⟨u, hu⟩ := ab2 hin
   have hat := hx.at hu
   have hge := h4 i u hu (Nat.le_refl _)
   by_cases e : u = v
   ·subst e
    have hd : decide (u ∈ l) = true := decide_eq_true (List.mem_of_getElem? hu)
    rw [hd]
    clear h3 h4 hs
    repeat' first | (simp (disch := first | omega | assumption) only [go_sem, simprocAttr, *]) | refine aa0 (fun hb=>?_) fun hb=>?_ | refine aa1 (fun hb=>?_) fun hb=>?_
    all_goals (try simp only [FX] at *)
    all_goals first | omega | skip
    exact ⟨_, ac8 rfl rfl, _, rfl⟩
   ·have hd : decide (v ∈ l) = false := decide_eq_false fun hv => by
     obtain ⟨k, hk, hkv⟩ := List.mem_iff_getElem.1 hv
     by_cases c1 : k < i
     ·have := h3 k v (by rw [List.getElem?_eq_getElem hk, hkv]) c1
      omega
     ·by_cases c2 : k = i
      ·subst c2
       rw [List.getElem?_eq_getElem hk, hkv] at hu
       simp only [Option.some.injEq] at hu
       exact e hu.symm
      ·have := (List.pairwise_iff_getElem.1 hs) i k hin hk (by omega)
       rw [(List.getElem?_eq_some_iff.1 hu).2, hkv] at this
       omega
    have hue : (u == v) = false := beq_eq_false_iff_ne.2 e
    rw [hd]
    clear h3 h4 hs hd
    repeat' first | (simp (disch := first | omega | assumption) only [go_sem, simprocAttr, *]) | refine aa0 (fun hb=>?_) fun hb=>?_ | refine aa1 (fun hb=>?_) fun hb=>?_
    all_goals (try simp only [FX] at *)
    all_goals first | omega | skip
    exact ⟨_, ac8 rfl rfl, _, rfl⟩
  ·have hd : decide (v ∈ l) = false := decide_eq_false fun hv => by
    obtain ⟨k, hk, hkv⟩ := List.mem_iff_getElem.1 hv
    have := h3 k v (by rw [List.getElem?_eq_getElem hk, hkv]) (by omega)
    omega
   have hie : i = l.length := by omega
   rw [hd]
   clear h3 h4 hs hd
   repeat' first | (simp (disch := first | omega | assumption) only [go_sem, simprocAttr, *]) | refine aa0 (fun hb=>?_) fun hb=>?_ | refine aa1 (fun hb=>?_) fun hb=>?_
   all_goals (try simp only [FX] at *)
   all_goals first | omega | skip
   exact ⟨_, ac8 rfl rfl, _, rfl⟩
theorem ef0 (n : Nat) (hn : 0 < n) (hl : n ≤ 1000000) (H : Heap) : den E R.ag9 [.nilsl, .int .i64 n] H = some (.ret (.own H.length 1 0 0), H ++ [some (.row 1 (List.replicate n (.int .i64 0)))]) := by
 refine ay7 R.am8 (by simp) ?_
 unfold Gn.ai3 Gn.ag7
 have hz : cp4 1 8 (.int .i64 0) .nilsl (.int .i64 ((n : Int) - 0)) H = some (.own H.length 1 0 n, H ++ [some (.row 1 (List.replicate n (.int .i64 0)))]) := by
  simp only [cp4]
  rw [Int.sub_zero, if_pos ⟨by omega, by omega, by omega⟩, if_neg (by omega), Int.toNat_natCast]
 repeat' first | (simp (disch := first | omega | assumption) only [go_sem, simprocAttr, *]) | refine aa0 (fun hb=>?_) fun hb=>?_ | refine aa1 (fun hb=>?_) fun hb=>?_
 all_goals (try simp only [FX] at *)
 all_goals first | omega | skip
theorem dt3 (H : Heap) : den E R.ag9 [.nilsl, .int .i64 0] H = some (.ret .nilsl, H) := by
 refine ay7 R.am8 (by simp) ?_
 unfold Gn.ai3 Gn.ag7
 repeat' first | (simp (disch := first | omega | assumption) only [go_sem, simprocAttr, *]) | refine aa0 (fun hb=>?_) fun hb=>?_ | refine aa1 (fun hb=>?_) fun hb=>?_
 all_goals (try simp only [FX] at *)
 all_goals first | omega | skip
end
section
variable {E : Env} [R : SlcR E]
theorem db5 (l : List Int) : (aa8 l).all (fun e => e.cells.length == 1 && e.cells.all EV.one) = true := by
 rw [List.all_eq_true]
 intro e he
 obtain ⟨v, _, rfl⟩ := List.mem_map.1 he
 rfl
theorem dj0 (x y : EV) (la lb : List Int) (hx : an2 x la) (hy : an2 y lb) (hl : la.length + lb.length ≤ 1000000) (H : Heap) :
  (la ++ lb = [] ∧ den E R.af2 [.imm 1 [x, y]] H = some (.ret .nilsl, H)) ∨
   la ++ lb ≠ [] ∧ den E R.af2 [.imm 1 [x, y]] H = some (.ret (.own (H.length + 2) 1 0 (la ++ lb).length), H ++ [none, none, some (.row 1 (aa8 (la ++ lb)))]) := by
 have lx := hx.lenI
 have ly := hy.lenI
 obtain ⟨cx, ox⟩ := hx.one
 obtain ⟨cy, oy⟩ := hy.one
 unfold EV.one at ox oy
 unfold EV.cells at cx cy
 by_cases hz : la ++ lb = []
 ·obtain ⟨rfl, rfl⟩ := List.append_eq_nil_iff.1 hz
  refine .inl ⟨rfl, ?_⟩
  have hg := dt3 (E := E) H
  have a1 : ac0 1 8 .nilsl x H = some (.nilsl, H) := by unfold ac0; rw [hx.els]; rfl
  have a2 : ac0 1 8 .nilsl y H = some (.nilsl, H) := by unfold ac0; rw [hy.els]; rfl
  refine ay7 R.aj8 (by simp) ?_
  unfold Gn.ag8 Gn.af0
  repeat' first | (simp (disch := first | omega | assumption) only [go_sem, simprocAttr, *]) | refine aa0 (fun hb=>?_) fun hb=>?_ | refine aa1 (fun hb=>?_) fun hb=>?_
  refine ar5 ?_
  repeat' first | (simp (disch := first | omega | assumption) only [go_sem, simprocAttr, *]) | refine aa0 (fun hb=>?_) fun hb=>?_ | refine aa1 (fun hb=>?_) fun hb=>?_
  refine ar5 ?_
  repeat' first | (simp (disch := first | omega | assumption) only [go_sem, simprocAttr, *]) | refine aa0 (fun hb=>?_) fun hb=>?_ | refine aa1 (fun hb=>?_) fun hb=>?_
  refine ar5 ?_
  repeat' first | (simp (disch := first | omega | assumption) only [go_sem, simprocAttr, *]) | refine aa0 (fun hb=>?_) fun hb=>?_ | refine aa1 (fun hb=>?_) fun hb=>?_
  refine ar5 ?_
  repeat' first | (simp (disch := first | omega | assumption) only [go_sem, simprocAttr, *]) | refine aa0 (fun hb=>?_) fun hb=>?_ | refine aa1 (fun hb=>?_) fun hb=>?_
  refine ar5 ?_
  repeat' first | (simp (disch := first | omega | assumption) only [go_sem, simprocAttr, *]) | refine aa0 (fun hb=>?_) fun hb=>?_ | refine aa1 (fun hb=>?_) fun hb=>?_
  refine ar5 ?_
  repeat' first | (simp (disch := first | omega | assumption) only [go_sem, simprocAttr, *]) | refine aa0 (fun hb=>?_) fun hb=>?_ | refine aa1 (fun hb=>?_) fun hb=>?_
  all_goals (try simp only [FX] at *)
  all_goals first | omega | skip
 ·refine .inr ⟨hz, ?_⟩
  have hne : 0 < la.length + lb.length := by
   have := List.length_pos_iff.2 hz
   rwa [List.length_append] at this
  have hg := ef0 (E := E) (la.length + lb.length) hne hl H
  rw [show ((la.length + lb.length : Nat) : Int) = 0 + la.length + lb.length by omega] at hg
  have a1 : ac0 1 8 (.own H.length 1 0 0) x (H ++ [some (.row 1 (List.replicate (la.length + lb.length) (.int .i64 0)))]) = some (.own (H.length + 1) 1 0 la.length, H ++ [none, some (.row 1 (aa8 la))]) := by
   unfold ac0
   rw [hx.els]
   simp only [db5, and_true]
   rw [if_pos (by omega)]
   simp only [List.getElem?_append_right (Nat.le_refl _), Nat.sub_self, List.getElem?_cons_zero]
   rw [if_pos ⟨trivial, trivial, trivial, by omega, by rw [ab6]; omega, by rw [ab6]; omega⟩, List.set_append_right _ _ (Nat.le_refl _), Nat.sub_self, ab6]
   simp
  have a2 : ac0 1 8 (.own (H.length + 1) 1 0 la.length) y (H ++ [none, some (.row 1 (aa8 la))]) = some (.own (H.length + 2) 1 0 (la ++ lb).length, H ++ [none, none, some (.row 1 (aa8 (la ++ lb)))]) := by
   unfold ac0
   rw [hy.els]
   simp only [db5, and_true]
   rw [if_pos (by omega)]
   have g : (H ++ [none, some (EB.row 1 (aa8 la))])[H.length + 1]? = some (some (.row 1 (aa8 la))) := by rw [List.getElem?_append_right (by omega), Nat.add_sub_cancel_left]; rfl
   simp only [g]
   rw [if_pos ⟨trivial, trivial, trivial, by rw [ab6]; omega, by rw [ab6]; omega, by rw [ab6]; omega⟩, List.set_append_right _ _ (by omega), Nat.add_sub_cancel_left, ab6, List.take_of_length_le (by rw [ab6]; omega), br7, List.length_append]
   simp
  refine ay7 R.aj8 (by simp) ?_
  unfold Gn.ag8 Gn.af0
  repeat' first | (simp (disch := first | omega | assumption) only [go_sem, simprocAttr, *]) | refine aa0 (fun hb=>?_) fun hb=>?_ | refine aa1 (fun hb=>?_) fun hb=>?_
  refine ar5 ?_
  repeat' first | (simp (disch := first | omega | assumption) only [go_sem, simprocAttr, *]) | refine aa0 (fun hb=>?_) fun hb=>?_ | refine aa1 (fun hb=>?_) fun hb=>?_
  all_goals (try simp only [FX] at *)
  all_goals first | omega | skip
  refine ar5 ?_
  repeat' first | (simp (disch := first | omega | assumption) only [go_sem, simprocAttr, *]) | refine aa0 (fun hb=>?_) fun hb=>?_ | refine aa1 (fun hb=>?_) fun hb=>?_
  all_goals (try simp only [FX] at *)
  all_goals first | omega | skip
  refine ar5 ?_
  repeat' first | (simp (disch := first | omega | assumption) only [go_sem, simprocAttr, *]) | refine aa0 (fun hb=>?_) fun hb=>?_ | refine aa1 (fun hb=>?_) fun hb=>?_
  all_goals (try simp only [FX] at *)
  all_goals first | omega | skip
  refine ar5 ?_
  repeat' first | (simp (disch := first | omega | assumption) only [go_sem, simprocAttr, *]) | refine aa0 (fun hb=>?_) fun hb=>?_ | refine aa1 (fun hb=>?_) fun hb=>?_
  all_goals (try simp only [FX] at *)
  all_goals first | omega | skip
  refine ar5 ?_
  repeat' first | (simp (disch := first | omega | assumption) only [go_sem, simprocAttr, *]) | refine aa0 (fun hb=>?_) fun hb=>?_ | refine aa1 (fun hb=>?_) fun hb=>?_
  all_goals (try simp only [FX] at *)
  all_goals first | omega | skip
  refine ar5 ?_
  repeat' first | (simp (disch := first | omega | assumption) only [go_sem, simprocAttr, *]) | refine aa0 (fun hb=>?_) fun hb=>?_ | refine aa1 (fun hb=>?_) fun hb=>?_
  all_goals (try simp only [FX] at *)
  all_goals first | omega | skip
  all_goals (try simp only [FX] at *)
  all_goals first | omega | skip
end
def rowC (l : List Int) (n : Nat) : List Int := comp (l.take n) ++ l.drop (comp (l.take n)).length
def cLen (l : List Int) (n : Nat) : Nat := (comp (l.take n)).length
theorem da2 {l : List Int} {n i : Nat} (h : cLen l n ≤ i) : (rowC l n)[i]? = l[i]? := by
 unfold rowC
 unfold cLen at h
 rw [List.getElem?_append_right h, List.getElem?_drop]
 congr 1
 omega
theorem cy5 {l : List Int} {n : Nat} (h : n ≤ l.length) : cLen l n ≤ n := by
 have := dx2 (l.take n)
 rw [List.length_take] at this
 unfold cLen
 omega
theorem da1 {l : List Int} {n : Nat} (h : n ≤ l.length) : (rowC l n).length = l.length := by
 have := cy5 h
 unfold cLen at this
 unfold rowC
 rw [List.length_append, List.length_drop]
 omega
theorem by6 {l : List Int} {n : Nat} {u : Int} (h0 : 0 < n) (hu : l[n - 1]? = some u) (hv : l[n]? = some u) : rowC l (n + 1) = rowC l n ∧ cLen l (n + 1) = cLen l n := by
 have := cb1 (l := l) (j := n - 1) (u := u) (v := u) hu (by rw [show n - 1 + 1 = n by omega]; exact hv)
 rw [show n - 1 + 2 = n + 1 by omega, show n - 1 + 1 = n by omega, if_pos rfl, List.append_nil] at this
 unfold rowC cLen
 rw [this]
 exact ⟨rfl, rfl⟩
theorem cl8 {l : List Int} {n : Nat} {u v : Int} (h0 : 0 < n) (hu : l[n - 1]? = some u) (hv : l[n]? = some v) (hne : v ≠ u) : (rowC l n).set (cLen l n) v = rowC l (n + 1) ∧ cLen l (n + 1) = cLen l n + 1 := by
 have := cb1 (l := l) (j := n - 1) (u := u) (v := v) hu (by rw [show n - 1 + 1 = n by omega]; exact hv)
 rw [show n - 1 + 2 = n + 1 by omega, show n - 1 + 1 = n by omega, if_neg hne] at this
 have hn := aa2 hv
 have hle := cy5 (l := l) (n := n) (by omega)
 unfold cLen at hle
 unfold rowC cLen
 rw [this, List.length_append, List.length_cons, List.length_nil, List.set_append_right _ _ (Nat.le_refl _), Nat.sub_self]
 refine ⟨?_, rfl⟩
 obtain ⟨z, hz⟩ := ab2 (l := l) (i := (comp (l.take n)).length) (by omega)
 rw [bs5 hz, List.set_cons_zero]
 simp
theorem cq6 {l : List Int} {n : Nat} (h : n ≤ l.length) (hc : cLen l n = n) : comp (l.take n) = l.take n := by
 have key : ∀ m, m ≤ l.length → (cLen l m = m → comp (l.take m) = l.take m) := by
  intro m
  induction m with
  | zero => intro _ _; simp [comp]
  | succ m ih =>
   intro hm hcm
   cases m with
   | zero =>
    cases l with
    | nil => simp at hm
    | cons x l => simp [comp, cmpF]
   | succ m =>
    obtain ⟨u, hu⟩ := ab2 (l := l) (i := m) (by omega)
    obtain ⟨v, hv⟩ := ab2 (l := l) (i := m + 1) (by omega)
    have hn := cb1 hu hv
    have hle := cy5 (l := l) (n := m + 1) (by omega)
    unfold cLen at hcm hle
    rw [hn, List.length_append] at hcm
    by_cases e : v = u
    ·rw [if_pos e] at hcm
     simp at hcm
     omega
    ·rw [if_neg e] at hcm hn
     simp only [List.length_cons, List.length_nil] at hcm
     rw [hn, ih (by omega) (by unfold cLen; omega), List.take_add_one (i := m + 1), hv]
     rfl
 exact key n h hc
section
variable {E : Env} [R : SlcR E]
set_option maxHeartbeats 1000000 in
theorem cy0 (b : Nat) (l : List Int) (H : Heap) (hb : H[b]? = some (some (.row 1 (aa8 l)))) (hl : l.length ≤ 1000000) :
  ∃ r : List EV, den E R.ad6 [.own b 1 0 l.length] H = some (.ret (.own b 1 0 (comp l).length), H.set b (some (.row 1 r))) ∧ r.take (comp l).length = aa8 (comp l) ∧ (comp l).length ≤ r.length := by
 have hbl := aa2 hb
 have hself : H.set b (some (.row 1 (aa8 l))) = H := by
  apply List.ext_getElem?
  intro k
  by_cases hk : b = k
  ·subst hk; rw [List.getElem?_set_self hbl, hb]
  ·rw [List.getElem?_set_ne hk]
 have hsame : comp l = l → ∀ r, r = (ER.ret (.own b 1 0 l.length), H) → ∃ r' : List EV, r = (ER.ret (.own b 1 0 (comp l).length), H.set b (some (.row 1 r'))) ∧ r'.take (comp l).length = aa8 (comp l) ∧ (comp l).length ≤ r'.length := fun hc r hr => by
  refine ⟨aa8 l, ?_, ?_, ?_⟩
  ·rw [hc, hself, hr]
  ·rw [hc, List.take_of_length_le (by rw [ab6]; exact Nat.le_refl _)]
  ·rw [hc, ab6]; exact Nat.le_refl _
 suffices h : ∃ r, den E R.ad6 [.own b 1 0 l.length] H = some r ∧ ∃ r' : List EV, r = (ER.ret (.own b 1 0 (comp l).length), H.set b (some (.row 1 r'))) ∧ r'.take (comp l).length = aa8 (comp l) ∧ (comp l).length ≤ r'.length by
  obtain ⟨r, h1, r', rfl, h2⟩ := h
  exact ⟨r', h1, h2⟩
 refine cp9 R.aj3 (by simp) ?_
 unfold Gn.ag0 Gn.ae6
 have hfin : ∀ (m : Nat) (G : Heap), finV H (.own b 1 0 m) ER.ret G = finV H (.own b 1 0 m) ER.ret G := fun _ _ => rfl
 have hok : ∀ m, (EV.own b 1 0 m).ok H.length = true := fun m => by simp [EV.ok]; exact hbl
 by_cases h2 : l.length < 2
 ·have hc : comp l = l := by
   match l, h2 with
   | [], _ => rfl
   | [x], _ => rfl
  replace hsame := hsame hc
  clear hself
  repeat' first | (simp (disch := first | omega | assumption) only [go_sem, simprocAttr, *]) | refine aa0 (fun hb=>?_) fun hb=>?_ | refine aa1 (fun hb=>?_) fun hb=>?_
  all_goals (try simp only [FX] at *)
  all_goals first | omega | skip
  exact ⟨_, ac8 (hok _) rfl, by have := hsame _ rfl; rwa [hc] at this⟩
 repeat' first | (simp (disch := first | omega | assumption) only [go_sem, simprocAttr, *]) | refine aa0 (fun hb=>?_) fun hb=>?_ | refine aa1 (fun hb=>?_) fun hb=>?_
 all_goals (try simp only [FX] at *)
 all_goals first | omega | skip
 refine af8 (ι := Nat) (fun k => 1 ≤ k ∧ k ≤ l.length ∧ cLen l k = k) (fun k => l.length - k) (fun k => [(0, .own b 1 0 l.length), (3, .int .i64 k)]) (fun _ => H) 1 ⟨Nat.le_refl _, by omega, ?_⟩ ?_ rfl ?_
 ·cases l with
  | nil => simp at h2
  | cons x l => simp [cLen, comp, cmpF]
 ·simp (disch := omega) only [go_sem, simprocAttr, Sl]
 rintro k t ⟨hk1, hk2, hk3⟩ ht K hK
 simp (disch := omega) only [go_sem, simprocAttr, Sl] at ht
 by_cases hlt : k < l.length
 ·obtain ⟨v, hv⟩ := ab2 hlt
  obtain ⟨u, hu⟩ := ab2 (l := l) (i := k - 1) (by omega)
  have hlen := ab6 l
  have hvE := aw5 hv
  have huE := aw5 hu
  have hkk : (k : Int) - 1 = ((k - 1 : Nat) : Int) := by omega
  by_cases e : v = u
  ·subst e
   have he : (v == v) = true := by simp
   have hc1 := (by6 (by omega) hu hv).2
   rw [hk3] at hc1
   have hr1 := (by6 (by omega) hu hv).1
   have hr0 : rowC l k = l := by
    unfold rowC
    rw [cq6 (by omega) hk3, List.length_take, Nat.min_eq_left (by omega)]
    exact List.take_append_drop k l
   rw [hr0] at hr1
   clear hK hk3 hr0
   repeat' first | (simp (disch := first | omega | assumption) only [go_sem, simprocAttr, *]) | refine aa0 (fun hb=>?_) fun hb=>?_ | refine aa1 (fun hb=>?_) fun hb=>?_
   all_goals (try simp only [FX] at *)
   all_goals first | omega | skip
   refine af8 (ι := Nat) (fun j => 1 ≤ j ∧ k + j ≤ l.length ∧ cLen l (k + j) + 1 ≤ k + j ∧ 1 ≤ cLen l (k + j)) (fun j => l.length - j) (fun j => [(0, .own b 1 0 l.length), (3, .int .i64 (cLen l (k + j))), (4, .own b 1 k (l.length - k)), (5, .int .i64 j)])
    (fun j => H.set b (some (.row 1 (aa8 (rowC l (k + j)))))) 1 ⟨Nat.le_refl _, by omega, by rw [hc1]; omega, by rw [hc1]; omega⟩ ?_ (by rw [hr1, hself]) ?_
   ·simp (disch := omega) only [go_sem, simprocAttr, Sl, hc1, ht, and_self]
   clear ht hr1 hc1 he hvE huE hu hv v
   rintro j t ⟨hj1, hj2, hj3, hj4⟩ ht K hK
   simp (disch := omega) only [go_sem, simprocAttr, Sl] at ht
   have hlenR : (aa8 (rowC l (k + j))).length = l.length := by rw [ab6, da1 hj2]
   have hgb : (H.set b (some (EB.row 1 (aa8 (rowC l (k + j))))))[b]? = some (some (.row 1 (aa8 (rowC l (k + j))))) := List.getElem?_set_self hbl
   have hss : ∀ x y : Option EB, (H.set b x).set b y = H.set b y := fun x y => List.set_set ..
   have hix : k + ((j : Int) - 1).toNat = k + j - 1 := by omega
   by_cases hjl : k + j < l.length
   ·obtain ⟨v, hv⟩ := ab2 hjl
    obtain ⟨u, hu⟩ := ab2 (l := l) (i := k + j - 1) (by omega)
    have hvE := aw5 ((da2 (l := l) (n := k + j) (i := k + j) (by omega)).trans hv)
    have huE := aw5 ((da2 (l := l) (n := k + j) (i := k + j - 1) (by omega)).trans hu)
    by_cases e : v = u
    ·subst e
     obtain ⟨e1, e2⟩ := by6 (by omega) hu hv
     have go := hK (j + 1)
     rw [show k + (j + 1) = k + j + 1 by omega, e1, e2] at go
     have he : (v != v) = false := by simp
     show @Hd E ⟨_⟩ ⟨_⟩ ⟨H.set b (some (.row 1 (aa8 (rowC l (k + j)))))⟩ ⟨_⟩
     clear hK hself e1 e2
     repeat' first | (simp (disch := first | omega | assumption) only [go_sem, simprocAttr, *]) | refine aa0 (fun hb=>?_) fun hb=>?_ | refine aa1 (fun hb=>?_) fun hb=>?_
     all_goals (try simp only [FX] at *)
     all_goals first | omega | skip
     refine go _ _ ⟨by omega, by omega, by omega, by omega⟩ (by omega) ?_ rfl
     simp (disch := omega) only [go_sem, simprocAttr, Sl, ht, and_self, ab0]
    ·obtain ⟨e1, e2⟩ := cl8 (by omega) hu hv e
     have hst : (aa8 (rowC l (k + j))).set (cLen l (k + j)) (.int .i64 v) = aa8 (rowC l (k + j + 1)) := by
      rw [← e1]
      unfold aa8
      rw [List.map_set]
     have go := hK (j + 1)
     rw [show k + (j + 1) = k + j + 1 by omega, e2] at go
     have he : (v != u) = true := by simpa using e
     have hcl : cLen l (k + j) < l.length := by omega
     obtain ⟨z, hz⟩ := ab2 (l := rowC l (k + j)) (i := cLen l (k + j)) (by rw [da1 hj2]; omega)
     replace hz := aw5 hz
     show @Hd E ⟨_⟩ ⟨_⟩ ⟨H.set b (some (.row 1 (aa8 (rowC l (k + j)))))⟩ ⟨_⟩
     clear hK hself e1 e2
     repeat' first | (simp (disch := first | omega | assumption) only [go_sem, simprocAttr, *]) | refine aa0 (fun hb=>?_) fun hb=>?_ | refine aa1 (fun hb=>?_) fun hb=>?_
     all_goals (try simp only [FX] at *)
     all_goals first | omega | skip
     refine go _ _ ⟨by omega, by omega, by omega, by omega⟩ (by omega) ?_ (by rw [← hst])
     simp (disch := omega) only [go_sem, simprocAttr, Sl, ht, and_self, ab0]
   ·have hjk : k + j = l.length := by omega
    have hcl : comp (l.take l.length) = comp l := by rw [List.take_length]
    rw [hjk] at ht hgb hlenR hj4 hj3 ⊢
    clear hK hself
    unfold cLen at ht hj3 hj4
    rw [hcl] at ht hj3 hj4
    have hclr : ∃ r : List EV, bp1 1 (.int .i64 0) (.own b 1 (comp l).length (l.length - (comp l).length)) (H.set b (some (EB.row 1 (aa8 (rowC l l.length))))) = some (H.set b (some (.row 1 r))) ∧ r.take (comp l).length = aa8 (comp l) ∧ (comp l).length ≤ r.length := by
     refine ⟨(aa8 (rowC l l.length)).take (comp l).length ++ List.replicate (l.length - (comp l).length) (.int .i64 0) ++ (aa8 (rowC l l.length)).drop ((comp l).length + (l.length - (comp l).length)), ?_, ?_, ?_⟩
     ·unfold bp1
      simp only [hgb]
      rw [if_neg (by omega), if_pos ⟨trivial, trivial, by rw [hlenR]; omega⟩, hss]
     ·have hrl : aa8 (rowC l l.length) = aa8 (comp l) ++ aa8 (l.drop (comp l).length) := by unfold rowC; rw [hcl, br7]
      rw [hrl, List.append_assoc, List.take_append_of_le_length (by rw [List.length_take, List.length_append, ab6]; omega), List.take_take, Nat.min_self, List.take_append_of_le_length (by rw [ab6]; omega), List.take_of_length_le (by rw [ab6]; omega)]
     ·simp only [List.length_append, List.length_take, List.length_replicate, List.length_drop, hlenR]
      omega
    obtain ⟨r, hclr, hr1, hr2⟩ := hclr
    show @Hd E ⟨_⟩ ⟨_⟩ ⟨H.set b (some (.row 1 (aa8 (rowC l l.length))))⟩ ⟨_⟩
    repeat' first | (simp (disch := first | omega | assumption) only [go_sem, simprocAttr, *]) | refine aa0 (fun hb=>?_) fun hb=>?_ | refine aa1 (fun hb=>?_) fun hb=>?_
    all_goals (try simp only [FX] at *)
    all_goals first | omega | skip
    rw [Nat.sub_zero]
    exact ⟨_, co6 (hok _) (by simp) rfl, r, rfl, hr1, hr2⟩
  ·have hc2 : cLen l (k + 1) = k + 1 := by rw [(cl8 (by omega) hu hv e).2, hk3]
   have go := fun s' H' => hK (k + 1) s' H' ⟨by omega, by omega, hc2⟩ (by omega)
   have he : (v == u) = false := by simpa using e
   clear hK hself hc2
   repeat' first | (simp (disch := first | omega | assumption) only [go_sem, simprocAttr, *]) | refine aa0 (fun hb=>?_) fun hb=>?_ | refine aa1 (fun hb=>?_) fun hb=>?_
   all_goals (try simp only [FX] at *)
   all_goals first | omega | skip
   refine go _ _ ?_ rfl
   simp (disch := omega) only [go_sem, simprocAttr, Sl, ht, and_self, ab0]
 ·have hkl : k = l.length := by omega
  have hc : comp l = l := by
   have := cq6 (l := l) (n := l.length) (Nat.le_refl _) (by rw [← hkl]; exact hk3)
   rwa [List.take_length] at this
  have hsm := hsame hc (ER.ret (.own b 1 0 l.length), H) rfl
  clear hK hself hsame
  repeat' first | (simp (disch := first | omega | assumption) only [go_sem, simprocAttr, *]) | refine aa0 (fun hb=>?_) fun hb=>?_ | refine aa1 (fun hb=>?_) fun hb=>?_
  all_goals (try simp only [FX] at *)
  all_goals first | omega | skip
  exact ⟨_, ac8 (hok _) rfl, by rwa [hc] at hsm⟩
end
structure bf2 (E : Env) (f : FuncId) : Prop where
 row : ∀ (H : Heap) (k : Nat) (l : List Int), H[k]? = some (some (.row 1 (aa8 l))) → l.length ≤ 1000000 → den E f [.own k 1 0 l.length] H = some (.ret (.tup []), H.set k (some (.row 1 (aa8 (srt l)))))
 nil : ∀ H : Heap, den E f [.nilsl] H = some (.ret (.tup []), H)
def outV (l : List Int) : EV := if l = [] then .nilsl else .imm 1 (aa8 l)
theorem do8 {l : List Int} (hl : l.length ≤ 1000000) : an2 (outV l) l := by
 unfold outV
 split
 ·rename_i h; subst h; exact .nil
 ·exact bn4 (by omega)
section
variable {E : Env} [R : bu5 E]
theorem dr9 (y : EV) (lb : List Int) (hy : an2 y lb) (hl : lb.length ≤ 1000000) (hs : lb.Pairwise (· < ·)) (v : Int) (j : Nat) (H : Heap) (hj : H[j]? = some (some (.row 1 [y]))) :
  den E R.ai9 [.int .i64 v, .ptr j 1 0 0] H = some (.ret (.bool (decide (v ∈ lb))), H) := by
 obtain ⟨cy, oy⟩ := hy.one
 obtain ⟨p, hp⟩ := cy6 (E := E) y lb hy hl hs v H
 refine ae7 R.aw9 (by simp) ?_
 unfold Gn.ap8 Gn.al9
 unfold EV.one at oy
 unfold EV.cells at cy
 generalize decide (v ∈ lb) = d at hp ⊢
 repeat' first | (simp (disch := first | omega | assumption) only [go_sem, simprocAttr, *]) | refine aa0 (fun hb=>?_) fun hb=>?_ | refine aa1 (fun hb=>?_) fun hb=>?_
 all_goals (try simp only [FX] at *)
 exact ac8 rfl rfl
theorem ee3 (x y : EV) (la lb : List Int) (hx : an2 x la) (hy : an2 y lb) (hla : la.length ≤ 1000000) (hl : lb.length ≤ 1000000) (hs : lb.Pairwise (· < ·)) :
  ∃ z, (∀ H, den E R.ak0 [x, y] H = some (.ret z, H)) ∧ an2 z (la.filter fun v => !decide (v ∈ lb)) := by
 obtain ⟨cx, ox⟩ := hx.one
 obtain ⟨cy, oy⟩ := hy.one
 by_cases hne : la = []
 ·subst hne
  obtain ⟨z, hcl, hz⟩ := dj1 (E := E) x hx
  refine ⟨z, fun H => ?_, by rcases hz with rfl | rfl; exact .nil; exact .zsl⟩
  have hd := cx7 (E := E) z hz
  have hyo : z.ok H.length = true := by rcases hz with rfl | rfl <;> rfl
  refine ae7 R.ax0 (by simp) ?_
  unfold Gn.as7 Gn.an9
  unfold EV.one at ox oy
  unfold EV.cells at cx cy
  clear hz
  repeat' first | (simp (disch := first | omega | assumption) only [go_sem, simprocAttr, *]) | refine aa0 (fun hb=>?_) fun hb=>?_ | refine aa1 (fun hb=>?_) fun hb=>?_
  all_goals (try simp only [FX] at *)
  exact aa4 hyo rfl
 ·refine ⟨.imm 1 (aa8 (la.filter fun v => !decide (v ∈ lb))), fun H => ?_, bn4 (by have := List.length_filter_le (fun v => !decide (v ∈ lb)) la; omega)⟩
  let H2 : Heap := H ++ [some (.row 1 [y])]
  have hcl := cg0 (E := E) x la H2 (hx.arg H2) hla
  rcases hcl with ⟨h0, _⟩ | ⟨_, hcl⟩
  ·exact absurd h0 hne
  let q : Int → Bool := fun v => !decide (v ∈ lb)
  let H3 : Heap := H2 ++ [some (.row 1 (aa8 la))]
  have hb3 : H3[H.length + 1]? = some (some (.row 1 (aa8 la))) := by
   simp only [H3, H2]
   rw [List.getElem?_append_right (by simp)]
   simp
  have hlen3 : H2.length = H.length + 1 := by simp [H2]
  have hset : ∀ r, H3.set (H.length + 1) (some (.row 1 r)) = H2 ++ [some (.row 1 r)] := fun r => by
   simp only [H3]
   rw [List.set_append_right _ _ (by omega), hlen3]
   simp
  have hdel := cx8 (E := E) (.func (.func R.ai9) [] [.ptr H.length 1 0 0]) (fun v => !q v) (H.length + 1) la H3 hb3 (fun r v hv => by
   rw [hset]
   have := dr9 (E := E) y lb hy hl hs v H.length (H2 ++ [some (.row 1 r)]) (by simp [H2])
   simpa [eh2, q] using this) (by omega)
  have hnot : (fun v => !(fun v => !q v) v) = q := by funext v; simp
  rw [hnot] at hdel
  rw [hset] at hdel
  rw [hlen3] at hcl
  have hfr : ∃ es, (if idxI (fun v => !q v) la 0 = -1 then la else rowD q la) = es ∧ es.take (la.filter q).length = la.filter q ∧ (la.filter q).length ≤ es.length := by
   by_cases hi : idxI (fun v => !q v) la 0 = -1
   ·rw [if_pos hi]
    have := (br8 (p := fun v => !q v) (l := la) (i := 0)).1 ⟨hi, by omega⟩
    rw [hnot] at this
    exact ⟨la, rfl, by rw [this]; simp, by rw [this]; exact Nat.le_refl _⟩
   ·rw [if_neg hi]
    exact ⟨_, rfl, by unfold rowD; simp, by unfold rowD; simp⟩
  obtain ⟨es, hes, htk, hle⟩ := hfr
  rw [hes] at hdel
  show den E R.ak0 [x, y] H = some (.ret (.imm 1 (aa8 (la.filter q))), H)
  have hfin : finV H (.own (H.length + 1) 1 0 (la.filter q).length) ER.ret (H2 ++ [some (.row 1 (aa8 es))]) = some (.ret (.imm 1 (aa8 (la.filter q))), H) := by
   have hH2 : H2 ++ [some (EB.row 1 (aa8 es))] = H ++ [some (.row 1 [y]), some (.row 1 (aa8 es))] := by simp [H2]
   rw [hH2]
   refine be4 rfl (v' := .imm 1 (aa8 (la.filter q))) ?_ rfl
   have := co4 (L := H.length) (H := H ++ [some (.row 1 [y]), some (.row 1 (aa8 es))]) (n := 7) (b := H.length + 1) (sz := 1) (off := 0) (len := (la.filter q).length) (es := aa8 es) (by omega) (by rw [List.getElem?_append_right (by omega)]; simp) (by rw [ab6]; omega) (br0 _ _)
   rw [this]
   simp only [List.drop_zero]
   unfold aa8
   rw [← List.map_take, htk]
  simp only [H2, H3] at hcl hdel hfin
  simp only [List.append_assoc, List.cons_append, List.nil_append] at hcl hdel hfin
  clear hb3 hset hes htk
  refine ae7 R.ax0 (by simp) ?_
  unfold Gn.as7 Gn.an9
  unfold EV.one at ox oy
  unfold EV.cells at cx cy
  clear hnot
  generalize la.filter q = f at hdel hfin ⊢
  repeat' first | (simp (disch := first | omega | assumption) only [go_sem, simprocAttr, *]) | refine aa0 (fun hb=>?_) fun hb=>?_ | refine aa1 (fun hb=>?_) fun hb=>?_
theorem cx9 (H : Heap) : den E R.ad6 [.nilsl] H = some (.ret .nilsl, H) := by
 refine ae7 R.aj3 (by simp) ?_
 unfold Gn.ag0 Gn.ae6
 repeat' first | (simp (disch := first | omega | assumption) only [go_sem, simprocAttr, *]) | refine aa0 (fun hb=>?_) fun hb=>?_ | refine aa1 (fun hb=>?_) fun hb=>?_
 all_goals (try simp only [FX] at *)
 all_goals first | omega | exact ac8 rfl rfl
theorem dg3 (hS : bf2 E R.ab3) (x y : EV) (la lb : List Int) (hx : an2 x la) (hy : an2 y lb) (hl : la.length + lb.length ≤ 1000000) (H : Heap) :
  den E R.af3 [x, y] H = some (.ret (outV (comp (srt (la ++ lb)))), H) := by
 obtain ⟨cx, ox⟩ := hx.one
 obtain ⟨cy, oy⟩ := hy.one
 rcases dj0 (E := E) x y la lb hx hy hl H with ⟨hz, hc⟩ | ⟨hz, hc⟩
 ·rw [hz]
  show den E R.af3 [x, y] H = some (.ret (outV (comp (List.mergeSort _ _))), H)
  rw [List.mergeSort_nil]
  show den E R.af3 [x, y] H = some (.ret .nilsl, H)
  have h1 := hS.nil H
  have h2 := cx9 (E := E) H
  refine ae7 R.at0 (by simp) ?_
  unfold Gn.an8 Gn.aj9
  unfold EV.one at ox oy
  unfold EV.cells at cx cy
  repeat' first | (simp (disch := first | omega | assumption) only [go_sem, simprocAttr, *]) | refine aa0 (fun hb=>?_) fun hb=>?_ | refine aa1 (fun hb=>?_) fun hb=>?_
  all_goals (try simp only [FX] at *)
  exact ac8 rfl rfl
 ·have hm0 : comp (srt (la ++ lb)) ≠ [] := fun h => by
   have h1 := dm0 (la ++ lb)
   have h2 := List.length_pos_iff.2 hz
   cases hq : srt (la ++ lb) with
   | nil => rw [hq, List.length_nil] at h1; omega
   | cons v r => rw [hq] at h; simp [comp] at h
  clear hz
  have hl2 : (la ++ lb).length ≤ 1000000 := by rw [List.length_append]; omega
  generalize la ++ lb = l at hc hl2 hm0 ⊢
  have hls := dm0 l
  have h1 := hS.row (H ++ [none, none, some (.row 1 (aa8 l))]) (H.length + 2) l (by rw [List.getElem?_append_right (by omega), Nat.add_sub_cancel_left]; rfl) (by omega)
  rw [List.set_append_right _ _ (by omega), Nat.add_sub_cancel_left] at h1
  simp only [List.set_cons_succ, List.set_cons_zero] at h1
  have h2 := cy0 (E := E) (H.length + 2) (srt l) (H ++ [none, none, some (.row 1 (aa8 (srt l)))]) (by rw [List.getElem?_append_right (by omega), Nat.add_sub_cancel_left]; rfl) (by omega)
  obtain ⟨r, h2, hr1, hr2⟩ := h2
  rw [hls, List.set_append_right _ _ (by omega), Nat.add_sub_cancel_left] at h2
  simp only [List.set_cons_succ, List.set_cons_zero] at h2
  have hle := dx2 (srt l)
  generalize comp (srt l) = m at h2 hr1 hr2 hle hm0 ⊢
  rw [show outV m = .imm 1 (aa8 m) by unfold outV; rw [if_neg hm0]]
  clear hm0
  have hfz : Abs.fz H.length (H ++ [none, none, some (.row 1 r)]) 8 (.own (H.length + 2) 1 0 m.length) = some (.imm 1 (aa8 m)) := by
   unfold Abs.fz
   rw [if_neg (by simp [EV.ok])]
   have hg : (H ++ [none, none, some (EB.row 1 r)])[H.length + 2]? = some (some (.row 1 r)) := by rw [List.getElem?_append_right (by omega), Nat.add_sub_cancel_left]; rfl
   simp only [hg, if_pos (Nat.le_add_right _ _)]
   rw [if_pos ⟨trivial, by omega⟩, List.drop_zero, hr1, bh8 fun x hx => by
    obtain ⟨v, _, rfl⟩ := List.mem_map.1 hx
    exact be3 rfl]
   rfl
  refine ae7 R.at0 (by simp) ?_
  unfold Gn.an8 Gn.aj9
  unfold EV.one at ox oy
  unfold EV.cells at cx cy
  clear hr1 hr2
  repeat' first | (simp (disch := first | omega | assumption) only [go_sem, simprocAttr, *]) | refine aa0 (fun hb=>?_) fun hb=>?_ | refine aa1 (fun hb=>?_) fun hb=>?_
  all_goals (try simp only [FX] at *)
  exact be4 rfl hfz rfl
end
def outX (D : Nat) (l : List Int) : EV := if l = [] then .nilsl else .own (D + (l.length - 1)) 1 0 l.length
def outG (l : List Int) : Heap := if l = [] then [] else List.replicate (l.length - 1) none ++ [some (.row 1 (aa8 l))]
theorem bw9 (D : Nat) (l : List Int) : (outX D l).one = true ∧ (outX D l).cells = [outX D l] := by
 unfold outX
 split <;> exact ⟨rfl, rfl⟩
theorem db2 {P : Heap} {D : Nat} (hP : P.length = D) {l : List Int} (h : l ≠ []) : (P ++ outG l)[D + (l.length - 1)]? = some (some (.row 1 (aa8 l))) := by
 unfold outG
 rw [if_neg h, List.getElem?_append_right (by omega), hP, Nat.add_sub_cancel_left, List.getElem?_append_right (by rw [List.length_replicate]; exact Nat.le_refl _), List.length_replicate, Nat.sub_self]
 rfl
theorem ce1 {P : Heap} {D : Nat} (hP : P.length = D) {l : List Int} (hl : l.length ≤ 1000000) (v : Int) : ac0 1 8 (outX D l) (.imm 1 [.int .i64 v]) (P ++ outG l) = some (outX D (l ++ [v]), P ++ outG (l ++ [v])) := by
 have hne : l ++ [v] ≠ [] := by simp
 by_cases h : l = []
 ·subst h
  unfold ac0
  simp [outX, outG, elems, EV.cells, EV.one, aa8, hP]
 ·have hg := db2 hP h
  have hlp := List.length_pos_iff.2 h
  have e1 : outX D l = .own (D + (l.length - 1)) 1 0 l.length := by unfold outX; rw [if_neg h]
  rw [e1]
  unfold ac0
  simp only [elems, hg]
  have hall : ([EV.int .i64 v].all fun e => e.cells.length == 1 && e.cells.all EV.one) = true := rfl
  rw [if_pos ⟨by omega, hall⟩, if_pos ⟨trivial, trivial, trivial, by rw [ab6]; exact Nat.le_refl _, by simp; omega, by simp; omega⟩]
  have hGl : (outG l).length = l.length := by unfold outG; rw [if_neg h]; simp; omega
  have e2 : (outG l).set (l.length - 1) none = List.replicate l.length none := by
   unfold outG
   rw [if_neg h, List.set_append_right _ _ (by rw [List.length_replicate]; exact Nat.le_refl _), List.length_replicate, Nat.sub_self, List.set_cons_zero]
   have : List.replicate l.length (none : Option EB) = List.replicate (l.length - 1 + 1) none := by rw [show l.length - 1 + 1 = l.length by omega]
   rw [this, List.replicate_succ']
  have e3 : aa8 l ++ [EV.int .i64 v] = aa8 (l ++ [v]) := by simp [aa8]
  rw [List.set_append_right _ _ (by omega), hP, Nat.add_sub_cancel_left, e2, List.length_append, hP, hGl, List.take_of_length_le (by rw [ab6]; exact Nat.le_refl _), e3]
  unfold outX outG
  rw [if_neg hne, if_neg hne]
  simp only [List.length_append, List.length_cons, List.length_nil, Nat.zero_add, Nat.add_sub_cancel, List.append_assoc]
theorem ej6 {P : Heap} {L D : Nat} (hP : P.length = D) (hL : L ≤ D) (l : List Int) : Abs.fz L (P ++ outG l) 8 (outX D l) = some (outV l) := by
 unfold outX outV
 by_cases h : l = []
 ·rw [if_pos h, if_pos h]; exact be3 rfl
 ·rw [if_neg h, if_neg h, co4 (es := aa8 l) (by omega) (db2 hP h) (by rw [ab6]; omega) (br0 _ _)]
  simp only [List.drop_zero]
  rw [List.take_of_length_le (by rw [ab6]; exact Nat.le_refl _)]
def opB (w : Nat → Nat) (n : Nat) (l : List Int) : Bool := l.any (fun p => decide (p = n)) && !zset w
theorem cg2 (w : Nat → Nat) : eqL [.int .u64 (w 0 : Nat), .int .u64 (w 1 : Nat), .int .u64 (w 2 : Nat), .int .u64 (w 3 : Nat)] (tab 4 fun _ => .int .u64 0) = zset w := by
 rw [show (tab 4 fun _ => EV.int .u64 0) = [.int .u64 0, .int .u64 0, .int .u64 0, .int .u64 0] from rfl]
 rw [Bool.eq_iff_iff]
 simp [eqL, sceq, zset]
section
variable {E : Env} [R : bu5 E]
set_option maxHeartbeats 2000000 in
theorem eh3 (hH : bk2 E R.an5 .u8) (w : Nat → Nat) (hw : bp6 w) (s : List UInt8) (hs : s.length ≤ 100000) (x : EV) (l : List Int) (hx : an2 x l) (hl : l.length ≤ 100001) (hp : ∀ p ∈ l, 0 ≤ p ∧ p ≤ s.length) (k : Nat) (o : Bool) (H : Heap)
  (hk : H[k]? = some (some (.row 2 [.agg [.str s, .bool o]]))) :
  den E R.ap4 [.ptr k 2 0 0, .agg [.int .u64 (w 0 : Nat), .int .u64 (w 1 : Nat), .int .u64 (w 2 : Nat), .int .u64 (w 3 : Nat)], x] H =
   some (.ret (outV (l.filterMap (bg4 w s))), H.set k (some (.row 2 [.agg [.str s, .bool (o || opB w s.length l)]]))) := by
 have hkl := aa2 hk
 have hself : H.set k (some (.row 2 [.agg [.str s, .bool o]])) = H := by
  apply List.ext_getElem?
  intro j
  by_cases hj : k = j
  ·subst hj; rw [List.getElem?_set_self hkl, hk]
  ·rw [List.getElem?_set_ne hj]
 have lx := hx.lenI
 obtain ⟨cx, ox⟩ := hx.one
 have hHas : ∀ (b : Nat) (H : Heap), b < 256 → den E R.an5 [.agg [.int .u64 (w 0 : Nat), .int .u64 (w 1 : Nat), .int .u64 (w 2 : Nat), .int .u64 (w 3 : Nat)], .int .u8 b] H = some (.ret (.bool (bb7 w b)), H) := fun b H hb => hH w b H hw hb
 have g1 : ∀ (b : Option EB) (G : Heap), (H.set k b ++ G)[k]? = some b := fun b G => by rw [List.getElem?_append_left (by simpa using hkl), List.getElem?_set_self hkl]
 have s1 : ∀ (b c : Option EB) (G : Heap), (H.set k b ++ G).set k c = H.set k c ++ G := fun b c G => by rw [List.set_append_left _ _ (by simpa using hkl), List.set_set]
 have a1 : ∀ (b c : Option EB) (G : Heap), (H.set k b ++ c :: G)[H.length]? = some c := fun b c G => by rw [List.getElem?_append_right (by simp)]; simp
 refine ae7 R.bb2 (by simp) ?_
 unfold Gn.at9 Gn.ap7
 unfold EV.one at ox
 unfold EV.cells at cx
 repeat' first | (simp (disch := first | omega | assumption) only [go_sem, simprocAttr, *]) | refine aa0 (fun hb=>?_) fun hb=>?_ | refine aa1 (fun hb=>?_) fun hb=>?_
 all_goals (try simp only [FX] at *)
 refine af8 (ι := Nat) (fun i => i ≤ l.length) (fun i => l.length - i) (fun i => [(0, .ptr k 2 0 0), (4, .ptr H.length 4 0 0), (7, outX (H.length + 1) ((l.take i).filterMap (bg4 w s))), (10, x), (11, .int .i64 l.length), (12, .int .i64 i)])
  (fun i => H.set k (some (.row 2 [.agg [.str s, .bool (o || opB w s.length (l.take i))]])) ++ some (.row 4 [.agg [.int .u64 (w 0 : Nat), .int .u64 (w 1 : Nat), .int .u64 (w 2 : Nat), .int .u64 (w 3 : Nat)]]) :: outG ((l.take i).filterMap (bg4 w s))) 0 (by omega) ?_ ?_ ?_
 ·simp (disch := omega) only [go_sem, simprocAttr, Sl, List.take_zero, List.filterMap_nil, outX, if_true]
 ·simp [opB, outG, hself]
 clear hself hk
 rintro i t hi ht K hK
 simp (disch := omega) only [go_sem, simprocAttr, Sl] at ht
 by_cases hlt : i < l.length
 ·obtain ⟨p, hpi⟩ := ab2 hlt
  have hat := hx.at hpi
  obtain ⟨h0, h1⟩ := hp p (List.mem_of_getElem? hpi)
  have htk : l.take (i + 1) = l.take i ++ [p] := by rw [List.take_add_one, hpi]; rfl
  have hop : opB w s.length (l.take (i + 1)) = (opB w s.length (l.take i) || decide (p = s.length) && !zset w) := by
   unfold opB
   rw [htk, List.any_append]
   simp only [List.any_cons, List.any_nil, Bool.or_false]
   cases (l.take i).any fun p => decide (p = (s.length : Int)) <;> cases decide (p = (s.length : Int)) <;> cases zset w <;> rfl
  have hfm : (l.take (i + 1)).filterMap (bg4 w s) = (l.take i).filterMap (bg4 w s) ++ (match bg4 w s p with | some v => [v] | none => []) := by
   rw [htk, List.filterMap_append]
   cases h : bg4 w s p <;> simp [h]
  have hflen : ((l.take i).filterMap (bg4 w s)).length ≤ 1000000 := by
   have := List.length_filterMap_le (bg4 w s) (l.take i)
   rw [List.length_take] at this
   omega
  have go := fun s' H' => hK (i + 1) s' H' (by omega) (by omega)
  rw [hop, hfm] at go
  clear hK hop hfm htk
  generalize opB w s.length (l.take i) = q at go ⊢
  generalize (l.take i).filterMap (bg4 w s) = out at ht hflen go ⊢
  obtain ⟨oo, oc⟩ := bw9 (H.length + 1) out
  unfold EV.one at oo
  unfold EV.cells at oc
  by_cases he : p = s.length
  ·have hst : bg4 w s p = none := by unfold bg4; rw [if_neg (fun h => by omega)]
   rw [hst] at go
   simp only [List.append_nil, he, decide_true, Bool.true_and] at go
   have hpe : (p == (s.length : Int)) = true := by rw [he]; simp
   cases hoq : (o || q) with
   | true =>
    rw [← Bool.or_assoc, hoq, Bool.true_or] at go
    repeat' first | (simp (disch := first | omega | assumption) only [go_sem, simprocAttr, *]) | refine aa0 (fun hb=>?_) fun hb=>?_ | refine aa1 (fun hb=>?_) fun hb=>?_
    all_goals (try simp only [FX] at *)
    all_goals first | omega | skip
    refine go _ _ ?_ rfl
    simp (disch := omega) only [go_sem, simprocAttr, Sl, ht, and_self, ab0]
   | false =>
    obtain ⟨rfl, rfl⟩ : o = false ∧ q = false := by simpa using hoq
    simp only [Bool.false_or] at go
    repeat' first | (simp (disch := first | omega | assumption) only [go_sem, simprocAttr, *]) | refine aa0 (fun hb=>?_) fun hb=>?_ | refine aa1 (fun hb=>?_) fun hb=>?_
    all_goals (try simp only [FX] at *)
    all_goals first | omega | skip
    refine go _ _ ?_ (by rw [cg2])
    simp (disch := omega) only [go_sem, simprocAttr, Sl, ht, and_self, ab0]
  ·have hst : bg4 w s p = if bb7 w (s.getD p.toNat 0).toNat = true then some (p + 1) else none := by
    unfold bg4
    by_cases hc : bb7 w (s.getD p.toNat 0).toNat = true
    ·rw [if_pos ⟨by omega, hc⟩, if_pos hc]
    ·rw [if_neg (fun h => hc h.2), if_neg hc]
   obtain ⟨b, hb⟩ := ab2 (l := s) (i := p.toNat) (by omega)
   rw [List.getD_eq_getElem?_getD, hb, Option.getD_some] at hst
   have hbl : b.toNat < 256 := b.toNat_lt
   have hpe : (p == (s.length : Int)) = false := by simpa using he
   have hdp : decide (p = (s.length : Int)) = false := decide_eq_false he
   rw [hdp, Bool.false_and, Bool.or_false] at go
   have hHb := fun H => hHas b.toNat H hbl
   cases hc : bb7 w b.toNat with
   | true =>
    rw [hc] at hHb
    rw [hst, if_pos hc] at go
    simp only at go
    have happ := fun (b : Option EB) (c : EB) => ce1 (P := H.set k b ++ [some c]) (D := H.length + 1) (by simp) hflen (p + 1)
    simp only [List.append_assoc, List.cons_append, List.nil_append] at happ
    clear hHas hst hc
    repeat' first | (simp (disch := first | omega | assumption) only [go_sem, simprocAttr, *]) | refine aa0 (fun hb=>?_) fun hb=>?_ | refine aa1 (fun hb=>?_) fun hb=>?_
    all_goals (try simp only [FX] at *)
    all_goals first | omega | skip
    refine go _ _ ?_ rfl
    simp (disch := omega) only [go_sem, simprocAttr, Sl, ht, and_self, ab0]
   | false =>
    rw [hc] at hHb
    rw [hst, hc, if_neg (by simp)] at go
    simp only [List.append_nil] at go
    clear hHas hst hc
    repeat' first | (simp (disch := first | omega | assumption) only [go_sem, simprocAttr, *]) | refine aa0 (fun hb=>?_) fun hb=>?_ | refine aa1 (fun hb=>?_) fun hb=>?_
    all_goals (try simp only [FX] at *)
    all_goals first | omega | skip
    refine go _ _ ?_ rfl
    simp (disch := omega) only [go_sem, simprocAttr, Sl, ht, and_self, ab0]
 ·have hie : i = l.length := by omega
  subst hie
  rw [List.take_length] at ht ⊢
  clear hK
  have hfz := fun (b : Option EB) (c : EB) => ej6 (P := H.set k b ++ [some c]) (L := H.length) (D := H.length + 1) (by simp) (by omega) (l.filterMap (bg4 w s))
  simp only [List.append_assoc, List.cons_append, List.nil_append] at hfz
  generalize l.filterMap (bg4 w s) = out at ht hfz ⊢
  obtain ⟨oo, oc⟩ := bw9 (H.length + 1) out
  unfold EV.one at oo
  unfold EV.cells at oc
  repeat' first | (simp (disch := first | omega | assumption) only [go_sem, simprocAttr, *]) | refine aa0 (fun hb=>?_) fun hb=>?_ | refine aa1 (fun hb=>?_) fun hb=>?_
  all_goals (try simp only [FX] at *)
  all_goals first | omega | skip
  exact bg0 (by unfold outX; split <;> rfl) (hfz _ _) rfl rfl
end
def rnd (f : List Bool → List Bool) (a : List Bool) : Nat → List Bool × List Bool
 | 0 => (a, a)
 | k + 1 => (orL (rnd f a k).1 (aw4 (f (rnd f a k).2) (rnd f a k).1), aw4 (f (rnd f a k).2) (rnd f a k).1)
section
variable {m : Nat} {f : List Bool → List Bool} (hf : Lin m f) {a : List Bool} (ha : a.length = m)
include hf ha
theorem bg5 : ∀ k, (rnd f a k).1.length = m ∧ (rnd f a k).2.length = m ∧ Sub (rnd f a k).2 (rnd f a k).1 ∧ Sub (f (rnd f a k).1) (orL (rnd f a k).1 (f (rnd f a k).2)) ∧ (rnd f a k).1 = sumN f a k
 | 0 => ⟨ha, ha, fun _ h => h, fun i h => by
  have := hf.len a ha
  show (orL a (f a)).getD i false = true
  rw [af1 (by omega)]
  have h' : (f a).getD i false = true := h
  rw [h', Bool.or_true], rfl⟩
 | k + 1 => by
  obtain ⟨h1, h2, h3, h4, h5⟩ := bg5 k
  have l1 := hf.len _ h2
  have l2 : (aw4 (f (rnd f a k).2) (rnd f a k).1).length = m := by rw [ba1 (by omega), l1]
  have hn := dd7 hf h1 h2 h3 h4
  refine ⟨by show (orL _ _).length = m; rw [ah7 (by omega), h1], l2, fun i h => ?_, hn, ?_⟩
  ·show (orL _ _).getD i false = true
   rw [af1 (by omega)]
   have h' : (aw4 (f (rnd f a k).2) (rnd f a k).1).getD i false = true := h
   rw [h', Bool.or_true]
  ·show orL _ _ = orL (sumN f a k) (f (sumN f a k))
   rw [cl9 hf h1 h2 h3 h4, h5]
theorem da3 {j : Nat} (h : cntT (rnd f a j).2 = 0) : Sub (f (sumN f a j)) (sumN f a j) ∧ ∀ i, cntT (rnd f a (j + i)).2 = 0 := by
 have key : ∀ i, (rnd f a (j + i)).2 = ac3 m := by
  intro i
  induction i with
  | zero =>
   have := bs8 h
   rw [(bg5 hf ha j).2.1] at this
   exact this
  | succ i ih =>
   show aw4 (f (rnd f a (j + i)).2) (rnd f a (j + i)).1 = ac3 m
   rw [ih, hf.no]
   have l := (bg5 hf ha (j + i)).1
   refine au3 (by rw [ba1 (by rw [ac9]; omega)]) fun i => ?_
   rw [bd9 (by rw [ac9]; omega), ao6]; rfl
 obtain ⟨h1, h2, h3, h4, h5⟩ := bg5 hf ha j
 have hk := key 0
 rw [Nat.add_zero] at hk
 rw [hk, hf.no, h5] at h4
 rw [h5] at h1
 refine ⟨fun i hi => ?_, fun i => ?_⟩
 ·have := h4 i hi
  rw [af1 (by rw [ac9]; omega), ao6, Bool.or_false] at this
  exact this
 ·rw [key i]
  unfold cntT
  rw [List.countP_eq_zero]
  intro b hb
  rw [ac3, List.mem_replicate] at hb
  simp [hb.2]
theorem de1 : ∃ k, k ≤ m + 1 ∧ cntT (rnd f a k).2 = 0 := by
 obtain ⟨k, hk, hc⟩ := bx9 hf ha
 refine ⟨k + 1, by omega, ?_⟩
 obtain ⟨h1, h2, h3, h4, h5⟩ := bg5 hf ha k
 have e : aw4 (f (rnd f a k).2) (rnd f a k).1 = ac3 m := by
  have l1 := hf.len _ h2
  refine au3 (by rw [ba1 (by omega), ac9]; omega) fun i => ?_
  rw [bd9 (by omega), ao6]
  cases hq : (f (rnd f a k).2).getD i false with
  | false => rfl
  | true =>
   have hor := hf.or _ _ h1 h2
   rw [Sub.or (by omega) h3] at hor
   have l2 := hf.len _ h1
   have : (f (rnd f a k).1).getD i false = true := by
    rw [hor, af1 (by omega), hq, Bool.or_true]
   rw [h5] at this ⊢
   rw [hc i this]; rfl
 show cntT (aw4 _ _) = 0
 rw [e]
 unfold cntT
 rw [List.countP_eq_zero]
 intro b hb
 rw [ac3, List.mem_replicate] at hb
 simp [hb.2]
theorem eb8 {j M : Nat} (h : (cntT (rnd f a j).2 = 0 ∧ (j ≤ M ∨ m ≤ M)) ∨ j = M) : (rnd f a j).1 = sumN f a M := by
 rw [(bg5 hf ha j).2.2.2.2]
 rcases h with ⟨h, hM⟩ | rfl
 ·have hs := (da3 hf ha h).1
  by_cases hj : j ≤ M
  ·have := bp9 hf ha hs (M - j)
   rw [show j + (M - j) = M by omega] at this
   exact this.symm
  ·have hM' : m ≤ M := by omega
   obtain ⟨k, hk, hc⟩ := bx9 hf ha
   have h1 := bp9 hf ha hc (j - k)
   have h2 := bp9 hf ha hc (M - k)
   rw [show k + (j - k) = j by omega] at h1
   rw [show k + (M - k) = M by omega] at h2
   rw [h1, h2]
 ·rfl
theorem eb7 {j : Nat} (h : cntT (rnd f a j).2 ≠ 0) :
  2 * (m - cntT (rnd f a (j + 1)).1) + (if cntT (rnd f a (j + 1)).2 = 0 then 0 else 1) < 2 * (m - cntT (rnd f a j).1) + (if cntT (rnd f a j).2 = 0 then 0 else 1) := by
 obtain ⟨h1, h2, _, _, _⟩ := bg5 hf ha j
 obtain ⟨h1', h2', _, _, _⟩ := bg5 hf ha (j + 1)
 have l1 := hf.len _ h2
 have hg : cntT (rnd f a (j + 1)).1 = cntT (rnd f a j).1 + cntT (rnd f a (j + 1)).2 := cb2 (by omega)
 have hle := az1 (rnd f a (j + 1)).1
 rw [if_neg h]
 split <;> omega
end
def opP (f : List Bool → List Bool) (g : List Bool → Bool) : Nat → List Bool → Bool
 | 0, _ => false
 | n + 1, a => opP f g n a || g (powN f n a)
def opQ (f : List Bool → List Bool) (g : List Bool → Bool) (a : List Bool) : Nat → Bool
 | 0 => false
 | k + 1 => opQ f g a k || g (rnd f a k).2
theorem ec7 {m : Nat} {f : List Bool → List Bool} (hf : Lin m f) {a : List Bool} (ha : a.length = m) {g : List Bool → Bool} (hg : ∀ b, cntT b = 0 → g b = false) {j M : Nat}
  (h : (cntT (rnd f a j).2 = 0 ∧ (j ≤ M ∨ m + 1 ≤ M)) ∨ j = M) : opQ f g a j = opQ f g a M := by
 have key : ∀ j, cntT (rnd f a j).2 = 0 → ∀ i, opQ f g a (j + i) = opQ f g a j := by
  intro j h i
  induction i with
  | zero => rfl
  | succ i ih =>
   show (opQ f g a (j + i) || g (rnd f a (j + i)).2) = _
   rw [ih, hg _ ((da3 hf ha h).2 i), Bool.or_false]
 rcases h with ⟨h, hM⟩ | rfl
 ·by_cases hj : j ≤ M
  ·have := key j h (M - j)
   rw [show j + (M - j) = M by omega] at this
   exact this.symm
  ·have hM' : m + 1 ≤ M := by omega
   obtain ⟨k, hk, hc⟩ := de1 hf ha
   have h1 := key k hc (j - k)
   have h2 := key k hc (M - k)
   rw [show k + (j - k) = j by omega] at h1
   rw [show k + (M - k) = M by omega] at h2
   rw [h1, h2]
 ·rfl
mutual
def bg6 (s : List UInt8) : RT → List Bool → Bool
 | .mk k w _ ts lo hi, a => if cntT a = 0 then false else if k = 1 then a.getD s.length false && !zset w else if k = 2 then bv5 s ts a else if k = 3 then bv6 s ts a else if k = 4 then de9 s ts lo hi a else false
def bv5 (s : List UInt8) : List RT → List Bool → Bool
 | [], _ => false
 | t :: ts, a => bg6 s t a || bv5 s ts (ab5 s t a)
def bv6 (s : List UInt8) : List RT → List Bool → Bool
 | [], _ => false
 | t :: ts, a => bg6 s t a || bv6 s ts a
def de9 (s : List UInt8) : List RT → Int → Int → List Bool → Bool
 | [], _, _, _ => false
 | t :: _, lo, hi, a => opP (ab5 s t) (bg6 s t) lo.toNat a || opQ (ab5 s t) (bg6 s t) (powN (ab5 s t) lo.toNat a) (if hi < 0 then s.length + 2 else (hi - lo).toNat)
end
theorem do9 (s : List UInt8) (t : RT) (a : List Bool) (h : cntT a = 0) : bg6 s t a = false := by
 cases t
 simp [bg6, h]
theorem ce2 {s : List UInt8} {t : RT} : ∀ {ts : List RT} {i : Nat} {a : List Bool}, ts[i]? = some t → bv5 s (ts.take (i + 1)) a = (bv5 s (ts.take i) a || bg6 s t (((ts.take i).map (ab5 s)).foldl (fun x f => f x) a))
 | [], i, a, h => by simp at h
 | u :: ts, 0, a, h => by
  simp only [List.getElem?_cons_zero, Option.some.injEq] at h
  subst h
  simp [bv5]
 | u :: ts, i + 1, a, h => by
  have ih := ce2 (s := s) (t := t) (ts := ts) (i := i) (a := ab5 s u a) (by simpa using h)
  simp only [List.take_succ_cons, bv5, ih, List.map_cons, List.foldl_cons, Bool.or_assoc]
theorem ce3 {s : List UInt8} {t : RT} : ∀ {ts : List RT} {i : Nat} {a : List Bool}, ts[i]? = some t → bv6 s (ts.take (i + 1)) a = (bv6 s (ts.take i) a || bg6 s t a)
 | [], i, a, h => by simp at h
 | u :: ts, 0, a, h => by
  simp only [List.getElem?_cons_zero, Option.some.injEq] at h
  subst h
  simp [bv6]
 | u :: ts, i + 1, a, h => by
  have ih := ce3 (s := s) (t := t) (ts := ts) (i := i) (a := a) (by simpa using h)
  simp only [List.take_succ_cons, bv6, ih, Bool.or_assoc]
def fitB (k : Int) (n : Nat) (lo hi : Int) : Bool := decide (0 ≤ k) && (decide (k ≤ 4) && (decide (k ≠ 4) || (decide (1 ≤ n) && (decide (0 ≤ lo) && (decide (lo ≤ 64) && decide (hi ≤ 64))))))
mutual
def fitT : RT → Bool
 | .mk k _ _ ts lo hi => fitB k ts.length lo hi && fitL ts
def fitL : List RT → Bool
 | [] => true
 | t :: ts => fitT t && fitL ts
end
theorem db7 : ∀ {ts : List RT}, fitL ts = true → ∀ t ∈ ts, fitT t = true
 | [], _, t, h => by simp at h
 | u :: ts, hn, t, h => by
  simp only [fitL, Bool.and_eq_true] at hn
  rcases List.mem_cons.1 h with rfl | h
  ·exact hn.1
  ·exact db7 hn.2 t h
theorem ee0 {k : Int} {w : Nat → Nat} {x : EV} {ts : List RT} {lo hi : Int} (h : ar9 (.mk k w x ts lo hi) = true) : fitB k ts.length lo hi = true := by
 unfold fitB
 simp only [Bool.and_eq_true, Bool.or_eq_true, decide_eq_true_eq]
 by_cases k0 : k = 0
 ·omega
 by_cases k1 : k = 1
 ·omega
 by_cases k2 : k = 2
 ·omega
 by_cases k3 : k = 3
 ·omega
 by_cases k4 : k = 4
 ·simp [ar9, k4] at h
  omega
 ·simp [ar9, k0, k1, k2, k3, k4] at h
theorem cm7 : ∀ {t : RT}, ah1 t = true → fitT t = true := by
 intro t
 refine RT.rec (motive_1 := fun t => ah1 t = true → fitT t = true) (motive_2 := fun ts => bd6 ts = true → fitL ts = true) ?_ ?_ ?_ t
 ·intro k w x ts lo hi ih h
  simp only [ah1, Bool.and_eq_true] at h
  simp only [fitT, Bool.and_eq_true]
  exact ⟨ee0 h.1, ih h.2⟩
 ·intro _; simp [fitL]
 ·intro t ts h1 h2 h
  simp only [bd6, Bool.and_eq_true] at h
  simp only [fitL, Bool.and_eq_true]
  exact ⟨h1 h.1, h2 h.2⟩
section
variable {E : Env} [R : bu5 E]
theorem SlV.newP {sz : Nat} {x : EV} {es : List EV} (h : SlV sz x es) (L : Nat) : newP L x = false := by
 rcases h.shape with ⟨rfl, _⟩ | ⟨rfl, _⟩ | ⟨s, rfl⟩ <;> rfl
def dk0 (E : Env) [R : bu5 E] (s : List UInt8) (t : RT) : Prop := ∀ (x : EV) (a : List Bool) (k : Nat) (o : Bool) (H : Heap), an2 x (posL 0 a) → a.length = s.length + 1 → H[k]? = some (some (.row 2 [.agg [.str s, .bool o]])) →
 ∃ y, den E R.ag3 [.ptr k 2 0 0, t.E, x] H = some (.ret y, H.set k (some (.row 2 [.agg [.str s, .bool (o || bg6 s t a)]]))) ∧ an2 y (posL 0 (ab5 s t a))
theorem dr1 (hS : bf2 E R.ab3) {m : Nat} (hm : m ≤ 100001) {x y : EV} {a b : List Bool} (hx : an2 x (posL 0 a)) (hy : an2 y (posL 0 b)) (ha : a.length = m) (hb : b.length = m) (H : Heap) :
  den E R.af3 [x, y] H = some (.ret (outV (posL 0 (orL a b))), H) := by
 have l1 := ar2 a 0
 have l2 := ar2 b 0
 have c1 := az1 a
 have c2 := az1 b
 have h := dg3 (E := E) hS x y _ _ hx hy (by omega) H
 rwa [dr2 (by omega)] at h
theorem lessP {m : Nat} (hm : m ≤ 100001) {x y : EV} {a b : List Bool} (hx : an2 x (posL 0 a)) (hy : an2 y (posL 0 b)) (ha : a.length = m) (hb : b.length = m) :
  ∃ z, (∀ H, den E R.ak0 [x, y] H = some (.ret z, H)) ∧ an2 z (posL 0 (aw4 a b)) := by
 have l1 := ar2 a 0
 have l2 := ar2 b 0
 have c1 := az1 a
 have c2 := az1 b
 have h := ee3 (E := E) x y _ _ hx hy (by omega) (by omega) (az9 _ _)
 rwa [ee2 (by omega)] at h
theorem ec5 {m : Nat} (hm : m ≤ 100001) {a : List Bool} (ha : a.length = m) : an2 (outV (posL 0 a)) (posL 0 a) := by
 have l1 := ar2 a 0
 have c1 := az1 a
 exact do8 (by omega)
set_option maxHeartbeats 4000000 in
theorem de3 (hS : bf2 E R.ab3) (s : List UInt8) (hs : s.length ≤ 100000) (w : Nat → Nat) (x0 : EV) (ts : List RT) (lo hi : Int) (hx0 : SlV 8 x0 (ts.map RT.E)) (t : RT) (ht0 : ts[0]? = some t) (hl : Lin (s.length + 1) (ab5 s t)) (hc : dk0 E s t)
  (hlo : 0 ≤ lo ∧ lo ≤ 64) (hhi : hi ≤ 64) (x : EV) (a : List Bool) (hx : an2 x (posL 0 a)) (ha : a.length = s.length + 1) (k : Nat) (o : Bool) (H : Heap) (hk : H[k]? = some (some (.row 2 [.agg [.str s, .bool o]]))) :
  ∃ y, den E R.ai8 [.ptr k 2 0 0, .agg [.int .i64 4, .int .u64 (w 0 : Nat), .int .u64 (w 1 : Nat), .int .u64 (w 2 : Nat), .int .u64 (w 3 : Nat), x0, .int .i64 lo, .int .i64 hi], x] H =
    some (.ret y, H.set k (some (.row 2 [.agg [.str s, .bool (o || de9 s ts lo hi a)]]))) ∧ an2 y (posL 0 (ar6 s 4 w lo hi (ts.map (ab5 s)) a)) := by
 have hts : ∃ r, ts = t :: r := by
  cases ts with
  | nil => simp at ht0
  | cons u r => exact ⟨r, by simp at ht0; rw [ht0]⟩
 have hF : ar6 s 4 w lo hi (ts.map (ab5 s)) a = sumN (ab5 s t) (powN (ab5 s t) lo.toNat a) (if hi < 0 then s.length + 1 else (hi - lo).toNat) := by
  obtain ⟨r, rfl⟩ := hts
  simp [ar6]
 have hG : de9 s ts lo hi a = (opP (ab5 s t) (bg6 s t) lo.toNat a || opQ (ab5 s t) (bg6 s t) (powN (ab5 s t) lo.toNat a) (if hi < 0 then s.length + 2 else (hi - lo).toNat)) := by
  obtain ⟨r, rfl⟩ := hts
  simp [de9]
 rw [hF, hG]
 have hg0 := do9 s t
 have hf : dk0 E s t := hc
 unfold dk0 at hf
 generalize bg6 s t = g at hf hg0 ⊢
 generalize ab5 s t = f at hf hl ⊢
 clear hF hG hts hc
 have hat : bb4 8 0 x0 = some (.iptr t.E.cells 0) := hx0.atT ht0
 have hyl := RT.cells t
 have hyt : List.take 8 t.E.cells = t.E.cells := List.take_of_length_le (by omega)
 have hya : EV.agg t.E.cells = t.E := by cases t; rfl
 unfold EV.cells at hyt hyl hya hat
 have ox := hx0.one.2
 have cx := hx0.one.1
 obtain ⟨cf, oF⟩ := hx.one
 have hkl := aa2 hk
 have hself : H.set k (some (.row 2 [.agg [.str s, .bool o]])) = H := by
  apply List.ext_getElem?
  intro j
  by_cases hj : k = j
  ·subst hj; rw [List.getElem?_set_self hkl, hk]
  ·rw [List.getElem?_set_ne hj]
 have g1 : ∀ (b : Option EB) (G : Heap), (H.set k b ++ G)[k]? = some b := fun b G => by rw [List.getElem?_append_left (by simpa using hkl), List.getElem?_set_self hkl]
 have s1 : ∀ (b c : Option EB) (G : Heap), (H.set k b ++ G).set k c = H.set k c ++ G := fun b c G => by rw [List.set_append_left _ _ (by simpa using hkl), List.set_set]
 have a1 : ∀ (b c : Option EB), (H.set k b ++ [c])[H.length]? = some c := fun b c => by rw [List.getElem?_append_right (by simp)]; simp
 generalize hM : (if hi < 0 then s.length + 2 else (hi - lo).toNat) = M2
 generalize hM1 : (if hi < 0 then s.length + 1 else (hi - lo).toNat) = M1
 suffices h : ∃ r, den E R.ai8 [.ptr k 2 0 0, .agg [.int .i64 4, .int .u64 (w 0 : Nat), .int .u64 (w 1 : Nat), .int .u64 (w 2 : Nat), .int .u64 (w 3 : Nat), x0, .int .i64 lo, .int .i64 hi], x] H = some r ∧
   ∃ y, r = (.ret y, H.set k (some (.row 2 [.agg [.str s, .bool (o || opP f g lo.toNat a || opQ f g (powN f lo.toNat a) M2)]]))) ∧ an2 y (posL 0 (sumN f (powN f lo.toNat a) M1)) by
  rw [← Bool.or_assoc]
  obtain ⟨r, h1, y, rfl, h2⟩ := h
  exact ⟨y, h1, h2⟩
 refine cp9 R.aw8 (by simp) ?_
 unfold Gn.ap5 Gn.al8
 unfold EV.one at ox oF
 unfold EV.cells at cx cf
 repeat' first | (simp (disch := first | omega | assumption) only [go_sem, simprocAttr, *]) | refine aa0 (fun hb=>?_) fun hb=>?_ | refine aa1 (fun hb=>?_) fun hb=>?_
 all_goals (try simp only [FX] at *)
 all_goals first | omega | skip
 refine af8 (ι := Nat × EV) (fun q => q.1 ≤ lo.toNat ∧ an2 q.2 (posL 0 (powN f q.1 a))) (fun q => lo.toNat - q.1) (fun q => [(0, .ptr k 2 0 0), (2, q.2), (4, .ptr H.length 8 0 0), (12, .int .i64 lo), (13, .int .i64 q.1)])
  (fun q => H.set k (some (.row 2 [.agg [.str s, .bool (o || opP f g q.1 a)]])) ++ [some (.row 8 [.agg [.int .i64 4, .int .u64 (w 0 : Nat), .int .u64 (w 1 : Nat), .int .u64 (w 2 : Nat), .int .u64 (w 3 : Nat), x0, .int .i64 lo, .int .i64 hi]])]) (0, x) ⟨by simp, hx⟩ ?_ ?_ ?_
 ·simp (disch := omega) only [go_sem, simprocAttr, Sl]
 ·simp [opP, hself]
 clear hself hk hx cf oF x
 rintro ⟨i, y⟩ t1 ⟨hi1, hy⟩ ht K hK
 simp only at hi1 hy ht
 simp (disch := omega) only [go_sem, simprocAttr, Sl] at ht
 obtain ⟨cy, oy⟩ := hy.one
 unfold EV.one at oy
 unfold EV.cells at cy
 have hpl := (bm9 hl i).len a ha
 by_cases hlt : i < lo.toNat
 ·obtain ⟨z, h1, h2⟩ := hf y (powN f i a) k (o || opP f g i a) (H.set k (some (.row 2 [.agg [.str s, .bool (o || opP f g i a)]])) ++ [some (.row 8 [.agg [.int .i64 4, .int .u64 (w 0 : Nat), .int .u64 (w 1 : Nat), .int .u64 (w 2 : Nat), .int .u64 (w 3 : Nat), x0, .int .i64 lo, .int .i64 hi]])]) hy hpl (g1 _ _)
  rw [s1] at h1
  have go := fun s' H' => hK (i + 1, z) s' H' ⟨by simp only; omega, h2⟩ (by simp only; omega)
  simp only [opP, ← Bool.or_assoc] at go
  clear hK
  obtain ⟨cz, oz⟩ := h2.one
  unfold EV.one at oz
  unfold EV.cells at cz
  repeat' first | (simp (disch := first | omega | assumption) only [go_sem, simprocAttr, *]) | refine aa0 (fun hb=>?_) fun hb=>?_ | refine aa1 (fun hb=>?_) fun hb=>?_
  all_goals (try simp only [FX] at *)
  all_goals first | omega | skip
  refine go _ _ ?_ rfl
  simp (disch := omega) only [go_sem, simprocAttr, Sl, ht, and_self, ab0]
 ·have hie : i = lo.toNat := by omega
  subst hie
  clear hK
  generalize opP f g lo.toNat a = op1 at ht ⊢
  generalize powN f lo.toNat a = b at hy hpl ⊢
  repeat' first | (simp (disch := first | omega | assumption) only [go_sem, simprocAttr, *]) | refine aa0 (fun hb=>?_) fun hb=>?_ | refine aa1 (fun hb=>?_) fun hb=>?_
  all_goals (try simp only [FX] at *)
  all_goals first | omega | skip
  generalize (o || op1) = O
  clear o hlt hi1 ha a
  have hmu : ∀ j, (rnd f b j).1.length = s.length + 1 ∧ (rnd f b j).2.length = s.length + 1 := fun j => ⟨(bg5 hl hpl j).1, (bg5 hl hpl j).2.1⟩
  refine af8 (ι := Nat × EV × EV) (fun q => an2 q.2.1 (posL 0 (rnd f b q.1).1) ∧ an2 q.2.2 (posL 0 (rnd f b q.1).2) ∧ q.1 + (2 * (s.length + 1 - cntT (rnd f b q.1).1) + (if cntT (rnd f b q.1).2 = 0 then 0 else 1)) ≤ 2 * (s.length + 1) + 1 ∧ (0 ≤ hi → q.1 ≤ (hi - lo).toNat))
   (fun q => 2 * (s.length + 1 - cntT (rnd f b q.1).1) + (if cntT (rnd f b q.1).2 = 0 then 0 else 1)) (fun q => [(0, .ptr k 2 0 0), (4, .ptr H.length 8 0 0), (7, q.2.1), (8, q.2.2), (9, .int .i64 (lo + q.1))])
   (fun q => H.set k (some (.row 2 [.agg [.str s, .bool (O || opQ f g b q.1)]])) ++ [some (.row 8 [.agg [.int .i64 4, .int .u64 (w 0 : Nat), .int .u64 (w 1 : Nat), .int .u64 (w 2 : Nat), .int .u64 (w 3 : Nat), x0, .int .i64 lo, .int .i64 hi]])]) (0, y, y) ⟨hy, hy, ?_, by simp⟩ ?_ ?_ ?_
  ·simp only
   split <;> omega
  ·simp (disch := omega) only [go_sem, simprocAttr, Sl, ht, and_self, Int.natCast_zero, Int.add_zero]
  ·simp [opQ]
  clear ht hy cy oy y t1
  rintro ⟨j, ya, yf⟩ t1 ⟨hya', hyf, hj1, hj2⟩ ht K hK
  simp only at hya' hyf hj1 hj2 ht
  simp (disch := omega) only [go_sem, simprocAttr, Sl] at ht
  obtain ⟨cya, oya⟩ := hya'.one
  obtain ⟨cyf, oyf⟩ := hyf.one
  unfold EV.one at oya oyf
  unfold EV.cells at cya cyf
  have lyf := hyf.lenI
  rw [ar2] at lyf
  obtain ⟨hL1, hL2⟩ := hmu j
  by_cases hcont : cntT (rnd f b j).2 ≠ 0 ∧ (hi < 0 ∨ lo + j < hi)
  ·obtain ⟨hc0, hc1⟩ := hcont
   obtain ⟨z, h1, h2⟩ := hf yf (rnd f b j).2 k (O || opQ f g b j) (H.set k (some (.row 2 [.agg [.str s, .bool (O || opQ f g b j)]])) ++ [some (.row 8 [.agg [.int .i64 4, .int .u64 (w 0 : Nat), .int .u64 (w 1 : Nat), .int .u64 (w 2 : Nat), .int .u64 (w 3 : Nat), x0, .int .i64 lo, .int .i64 hi]])]) hyf hL2 (g1 _ _)
   rw [s1] at h1
   obtain ⟨z2, h3, h4⟩ := lessP (E := E) (m := s.length + 1) (by omega) h2 hya' (hl.len _ hL2) hL1
   have hL3 : (aw4 (f (rnd f b j).2) (rnd f b j).1).length = s.length + 1 := (hmu (j + 1)).2
   have h5 := dr1 (E := E) hS (m := s.length + 1) (by omega) hya' h4 hL1 hL3
   have h6 := ec5 (m := s.length + 1) (by omega) (a := orL (rnd f b j).1 (aw4 (f (rnd f b j).2) (rnd f b j).1)) (hmu (j + 1)).1
   have hless := eb7 hl hpl hc0
   have go := fun s' H' => hK (j + 1, outV (posL 0 (orL (rnd f b j).1 (aw4 (f (rnd f b j).2) (rnd f b j).1))), z2) s' H' ⟨h6, h4, by simp only; omega, fun h => by simp only; omega⟩ hless
   simp only [opQ, ← Bool.or_assoc] at go
   generalize outV (posL 0 (orL (rnd f b j).1 (aw4 (f (rnd f b j).2) (rnd f b j).1))) = z3 at go h5 h6
   obtain ⟨cz, oz⟩ := h2.one
   obtain ⟨cz2, oz2⟩ := h4.one
   obtain ⟨cz3, oz3⟩ := h6.one
   unfold EV.one at oz oz2 oz3
   unfold EV.cells at cz cz2 cz3
   have hcj : 0 < cntT (rnd f b j).2 := Nat.pos_of_ne_zero hc0
   generalize cntT (rnd f b j).2 = c at lyf hcj
   clear hK hless h2 h4 h6 hf hmu hya' hyf hj2
   rcases hc1 with hc1 | hc1
   ·repeat' first | (simp (disch := first | omega | assumption) only [go_sem, simprocAttr, *]) | refine aa0 (fun hb=>?_) fun hb=>?_ | refine aa1 (fun hb=>?_) fun hb=>?_
    all_goals (try simp only [FX] at *)
    all_goals first | omega | skip
    refine go _ _ ?_ rfl
    simp (disch := omega) only [go_sem, simprocAttr, Sl, ht, and_self, ab0, Int.add_assoc]
   ·have hi0 : ¬ hi < 0 := by omega
    repeat' first | (simp (disch := first | omega | assumption) only [go_sem, simprocAttr, *]) | refine aa0 (fun hb=>?_) fun hb=>?_ | refine aa1 (fun hb=>?_) fun hb=>?_
    all_goals (try simp only [FX] at *)
    all_goals first | omega | skip
    refine go _ _ ?_ rfl
    simp (disch := omega) only [go_sem, simprocAttr, Sl, ht, and_self, ab0, Int.add_assoc]
  ·have hall : (rnd f b j).1 = sumN f b M1 := by
    refine eb8 hl hpl ?_
    by_cases hc0 : cntT (rnd f b j).2 = 0
    ·refine .inl ⟨hc0, ?_⟩
     rw [← hM1]
     split <;> omega
    ·refine .inr ?_
     rw [← hM1]
     split <;> omega
   have hopn : opQ f g b j = opQ f g b M2 := by
    refine ec7 hl hpl hg0 ?_
    by_cases hc0 : cntT (rnd f b j).2 = 0
    ·refine .inl ⟨hc0, ?_⟩
     rw [← hM]
     split <;> omega
    ·refine .inr ?_
     rw [← hM]
     split <;> omega
   rw [hall] at hya'
   rw [hopn]
   generalize cntT (rnd f b j).2 = c at lyf hcont
   have hyok := hya'.ok H.length
   clear hK hall hopn hmu hf hyf hj1 hj2 hL1 hL2 hM hM1 hl hpl hS
   by_cases hc0 : c = 0
   ·subst hc0
    repeat' first | (simp (disch := first | omega | assumption) only [go_sem, simprocAttr, *]) | refine aa0 (fun hb=>?_) fun hb=>?_ | refine aa1 (fun hb=>?_) fun hb=>?_
    all_goals (try simp only [FX] at *)
    all_goals first | omega | skip
    exact ⟨_, bg0 (hya'.newP _) (be3 hyok) rfl rfl, ya, rfl, hya'⟩
   ·have h1 : ¬ hi < 0 := by omega
    have h2 : ¬ lo + j < hi := by omega
    have h3 : 0 < c := by omega
    repeat' first | (simp (disch := first | omega | assumption) only [go_sem, simprocAttr, *]) | refine aa0 (fun hb=>?_) fun hb=>?_ | refine aa1 (fun hb=>?_) fun hb=>?_
    all_goals (try simp only [FX] at *)
    all_goals first | omega | skip
    exact ⟨_, bg0 (hya'.newP _) (be3 hyok) rfl rfl, ya, rfl, hya'⟩
end
def boxT (ts : List RT) : Heap := ts.map fun t => some (.row 8 [t.E])
theorem RT.ones {t : RT} (h : t.Ok) : t.E.cells.all EV.one = true := by
 cases h with
 | mk k w x ts lo hi hw hx hts =>
  have := hx.one.2
  simp [RT.E, EV.cells, this]
  simp [EV.one]
section
variable {E : Env} [R : bu5 E]
set_option maxHeartbeats 4000000 in
theorem cn2 (hH : bk2 E R.an5 .u8) (hS : bf2 E R.ab3) (s : List UInt8) (hs : s.length ≤ 100000) {t : RT} (ht : t.Ok) : fitT t = true → dk0 E s t := by
 induction ht with
 | mk kd w x0 ts lo hi hw hx0 hts ih =>
  intro hfit x a k o H hx ha hk
  simp only [fitT, Bool.and_eq_true] at hfit
  obtain ⟨hfb, hfl⟩ := hfit
  simp only [fitB, Bool.and_eq_true, Bool.or_eq_true, decide_eq_true_eq] at hfb
  have hsub := fun t hm => ih t hm (db7 hfl t hm)
  have hlin : ∀ t ∈ ts, Lin (s.length + 1) (ab5 s t) := fun t hm => bb8 s (hts t hm)
  have hlT : Lin (s.length + 1) (ab5 s (.mk kd w x0 ts lo hi)) := bb8 s (.mk kd w x0 ts lo hi hw hx0 hts)
  have he : ab5 s (.mk kd w x0 ts lo hi) a = ar6 s kd w lo hi (ts.map (ab5 s)) a := by rw [ab5, bn8]
  have ho : bg6 s (.mk kd w x0 ts lo hi) a = if cntT a = 0 then false else if kd = 1 then a.getD s.length false && !zset w else if kd = 2 then bv5 s ts a else if kd = 3 then bv6 s ts a else if kd = 4 then de9 s ts lo hi a else false := by rw [bg6]
  have lx0 := hx0.len
  rw [List.length_map] at lx0
  have lex := hx0.le
  rw [List.length_map] at lex
  have ox := hx0.one.2
  have cx := hx0.one.1
  obtain ⟨cf, oF⟩ := hx.one
  have lf := hx.lenI
  rw [ar2] at lf
  have hcle := az1 a
  have hkl := aa2 hk
  have hself : H.set k (some (.row 2 [.agg [.str s, .bool o]])) = H := by
   apply List.ext_getElem?
   intro j
   by_cases hj : k = j
   ·subst hj; rw [List.getElem?_set_self hkl, hk]
   ·rw [List.getElem?_set_ne hj]
  have g1 : ∀ (b : Option EB) (G : Heap), (H.set k b ++ G)[k]? = some b := fun b G => by rw [List.getElem?_append_left (by simpa using hkl), List.getElem?_set_self hkl]
  have s1 : ∀ (b c : Option EB) (G : Heap), (H.set k b ++ G).set k c = H.set k c ++ G := fun b c G => by rw [List.set_append_left _ _ (by simpa using hkl), List.set_set]
  suffices h : ∃ r, den E R.ag3 [.ptr k 2 0 0, .agg [.int .i64 kd, .int .u64 (w 0 : Nat), .int .u64 (w 1 : Nat), .int .u64 (w 2 : Nat), .int .u64 (w 3 : Nat), x0, .int .i64 lo, .int .i64 hi], x] H = some r ∧
    ∃ y, r = (.ret y, H.set k (some (.row 2 [.agg [.str s, .bool (o || bg6 s (.mk kd w x0 ts lo hi) a)]]))) ∧ an2 y (posL 0 (ab5 s (.mk kd w x0 ts lo hi) a)) by
   obtain ⟨r, h1, y, rfl, h2⟩ := h
   exact ⟨y, h1, h2⟩
  refine cp9 R.bb1 (by simp) ?_
  unfold Gn.at8 Gn.ap6
  by_cases hc0 : cntT a = 0
  ·have hz : a = ac3 (s.length + 1) := by rw [← ha]; exact bs8 hc0
   have e1 : posL 0 (ab5 s (.mk kd w x0 ts lo hi) a) = [] := by rw [hz, hlT.no, by9]
   have e2 : bg6 s (.mk kd w x0 ts lo hi) a = false := by rw [ho, if_pos hc0]
   rw [hc0] at lf
   rw [e1, e2, Bool.or_false, hself]
   clear ih hsub hlin hlT he ho e1 e2 hfl hfb hself s1 g1
   unfold EV.one at ox oF
   unfold EV.cells at cx cf
   repeat' first | (simp (disch := first | omega | assumption) only [go_sem, simprocAttr, *]) | refine aa0 (fun hb=>?_) fun hb=>?_ | refine aa1 (fun hb=>?_) fun hb=>?_
   all_goals (try simp only [FX] at *)
   all_goals first | omega | skip
   exact ⟨_, aa4 rfl rfl, .nilsl, rfl, .nil⟩
  have hcp : 0 < cntT a := Nat.pos_of_ne_zero hc0
  rw [if_neg hc0] at ho
  have g2 : ∀ (b : EB), (H ++ [some b])[k]? = some (some (.row 2 [.agg [.str s, .bool o]])) := fun b => by rw [List.getElem?_append_left hkl]; exact hk
  have s2 : ∀ (b : Option EB) (c : EB), (H ++ [some c]).set k b = H.set k b ++ [some c] := fun b c => List.set_append_left _ _ hkl
  rw [ho, he]
  by_cases k0 : kd = 0
  ·subst k0
   have e1 : ar6 s 0 w lo hi (ts.map (ab5 s)) a = a := by simp [ar6]
   have hxo := hx.ok H.length
   rw [e1]
   rw [if_neg (by omega), if_neg (by omega), if_neg (by omega), if_neg (by omega), Bool.or_false, hself]
   generalize cntT a = c at lf hcp
   clear ih hsub hlin hlT he ho e1 hfl hfb hself s1 g1 g2 s2 hc0 hcle
   unfold EV.one at ox oF
   unfold EV.cells at cx cf
   repeat' first | (simp (disch := first | omega | assumption) only [go_sem, simprocAttr, *]) | refine aa0 (fun hb=>?_) fun hb=>?_ | refine aa1 (fun hb=>?_) fun hb=>?_
   all_goals (try simp only [FX] at *)
   all_goals first | omega | skip
   exact ⟨_, aa4 hxo rfl, x, rfl, hx⟩
  by_cases k1 : kd = 1
  ·subst k1
   have e1 : ar6 s 1 w lo hi (ts.map (ab5 s)) a = ba7 w s a := by simp [ar6]
   rw [e1, if_pos rfl]
   have hb := eh3 (E := E) hH w hw s hs x (posL 0 a) hx (by rw [ar2]; omega) (fun p hp => by have := cu2 hp; omega) k o _ (g2 (.row 8 [.agg [.int .i64 1, .int .u64 (w 0 : Nat), .int .u64 (w 1 : Nat), .int .u64 (w 2 : Nat), .int .u64 (w 3 : Nat), x0, .int .i64 lo, .int .i64 hi]]))
   have hop : opB w s.length (posL 0 a) = (a.getD s.length false && !zset w) := by
    unfold opB
    congr 1
    rw [Bool.eq_iff_iff, List.any_eq_true]
    constructor
    ·rintro ⟨p, h1, h2⟩
     have h3 := (cu2 h1).2.2
     simp only [decide_eq_true_eq] at h2
     rw [h2] at h3
     exact h3
    ·intro h
     exact ⟨s.length, an3.2 ⟨s.length, h, by omega⟩, by simp⟩
   rw [ea7 w ha, hop, s2] at hb
   have hV := ec5 (m := s.length + 1) (by omega) (a := ba7 w s a) (by rw [bf1 ha])
   have hVo := hV.ok H.length
   generalize (a.getD s.length false && !zset w) = ob at hb ⊢
   generalize outV (posL 0 (ba7 w s a)) = z at hb hV hVo
   generalize cntT a = c at lf hcp
   obtain ⟨cz, oz⟩ := hV.one
   clear ih hsub hlin hlT he ho e1 hfl hfb hself s1 g1 g2 s2 hc0 hcle
   unfold EV.one at ox oF oz
   unfold EV.cells at cx cf cz
   repeat' first | (simp (disch := first | omega | assumption) only [go_sem, simprocAttr, *]) | refine aa0 (fun hb=>?_) fun hb=>?_ | refine aa1 (fun hb=>?_) fun hb=>?_
   all_goals (try simp only [FX] at *)
   all_goals first | omega | skip
   exact ⟨_, bg0 (hV.newP _) (be3 hVo) rfl rfl, z, rfl, hV⟩
  by_cases k2 : kd = 2
  ·subst k2
   have e1 : ar6 s 2 w lo hi (ts.map (ab5 s)) a = (ts.map (ab5 s)).foldl (fun x f => f x) a := by simp [ar6]
   rw [e1, if_neg (by omega), if_pos rfl]
   have hcc : 0 < cntT a := hcp
   generalize hcd : cntT a = c at lf hcp
   clear ih hlT he ho e1 hfl hfb hc0 hcle
   unfold EV.one at ox oF
   unfold EV.cells at cx cf
   repeat' first | (simp (disch := first | omega | assumption) only [go_sem, simprocAttr, *]) | refine aa0 (fun hb=>?_) fun hb=>?_ | refine aa1 (fun hb=>?_) fun hb=>?_
   all_goals (try simp only [FX] at *)
   all_goals first | omega | skip
   refine af8 (ι := Nat × EV) (fun q => q.1 ≤ ts.length ∧ an2 q.2 (posL 0 (((ts.take q.1).map (ab5 s)).foldl (fun x f => f x) a))) (fun q => ts.length - q.1) (fun q => [(0, .ptr k 2 0 0), (2, q.2), (27, x0), (28, .int .i64 ts.length), (29, .int .i64 q.1)])
    (fun q => H.set k (some (.row 2 [.agg [.str s, .bool (o || bv5 s (ts.take q.1) a)]])) ++ some (.row 8 [.agg [.int .i64 2, .int .u64 (w 0 : Nat), .int .u64 (w 1 : Nat), .int .u64 (w 2 : Nat), .int .u64 (w 3 : Nat), x0, .int .i64 lo, .int .i64 hi]]) :: boxT (ts.take q.1)) (0, x) ⟨by simp, hx⟩ ?_ ?_ ?_
   ·simp (disch := omega) only [go_sem, simprocAttr, Sl]
   ·simp [bv5, boxT, hself]
   clear hself hk hx cf oF g2 s2 lf x
   rintro ⟨i, y⟩ t1 ⟨hi1, hy⟩ ht K hK
   simp only at hi1 hy ht
   simp (disch := omega) only [go_sem, simprocAttr, Sl] at ht
   obtain ⟨cy, oy⟩ := hy.one
   unfold EV.one at oy
   unfold EV.cells at cy
   by_cases hlt : i < ts.length
   ·obtain ⟨u, hu⟩ := ab2 hlt
    have hum := List.mem_of_getElem? hu
    have hat := hx0.atT hu
    have hyl := RT.cells u
    have hyt : List.take 8 u.E.cells = u.E.cells := List.take_of_length_le (by omega)
    have hya : EV.agg u.E.cells = u.E := by cases u; rfl
    have hal : (((ts.take i).map (ab5 s)).foldl (fun x f => f x) a).length = s.length + 1 := (bs0 fun f hf => by
     obtain ⟨t, h1, rfl⟩ := List.mem_map.1 hf
     exact hlin t (List.mem_of_mem_take h1)).len a ha
    have hon := ce2 (s := s) (a := a) hu
    have hfn : ((ts.take (i + 1)).map (ab5 s)).foldl (fun x f => f x) a = ab5 s u (((ts.take i).map (ab5 s)).foldl (fun x f => f x) a) := by
     rw [List.take_add_one, hu, List.map_append, List.foldl_append]
     rfl
    have hbn : boxT (ts.take (i + 1)) = boxT (ts.take i) ++ [some (.row 8 [u.E])] := by
     unfold boxT
     rw [List.take_add_one, hu, List.map_append]
     rfl
    have hbl : (boxT (ts.take i)).length = i := by unfold boxT; rw [List.length_map, List.length_take]; omega
    have hI := hsub u hum
    unfold dk0 at hI
    obtain ⟨z, h1, h2⟩ := hI y _ k (o || bv5 s (ts.take i) a) (H.set k (some (.row 2 [.agg [.str s, .bool (o || bv5 s (ts.take i) a)]])) ++ some (.row 8 [.agg [.int .i64 2, .int .u64 (w 0 : Nat), .int .u64 (w 1 : Nat), .int .u64 (w 2 : Nat), .int .u64 (w 3 : Nat), x0, .int .i64 lo, .int .i64 hi]]) :: (boxT (ts.take i) ++ [some (.row 8 [u.E])])) hy hal (g1 _ _)
    rw [s1] at h1
    have go := fun s' H' => hK (i + 1, z) s' H' ⟨by simp only; omega, by simp only; rw [hfn]; exact h2⟩ (by simp only; omega)
    simp only [hon, hbn, ← Bool.or_assoc] at go
    obtain ⟨cz, oz⟩ := h2.one
    have hyo := RT.ones (hts u hum)
    unfold EV.one at oz
    unfold EV.cells at hyt hyl hya hat cz hyo
    generalize boxT (ts.take i) = G at h1 go hbl ⊢
    have a1 : ∀ (b c d : Option EB), (H.set k b ++ c :: (G ++ [d]))[H.length + (i + 1)]? = some d := fun b c d => by
     rw [List.getElem?_append_right (by simp), List.length_set, Nat.add_sub_cancel_left, List.getElem?_cons_succ, List.getElem?_append_right (by omega), hbl, Nat.sub_self]
     rfl
    have a2 : ∀ (b c d e : Option EB), (H.set k b ++ c :: (G ++ [d])).set (H.length + (i + 1)) e = H.set k b ++ c :: (G ++ [e]) := fun b c d e => by
     rw [List.set_append_right _ _ (by simp), List.length_set, Nat.add_sub_cancel_left, List.set_cons_succ, List.set_append_right _ _ (by omega), hbl, Nat.sub_self]
     rfl
    generalize bv5 s (ts.take i) a = oc at h1 go ⊢
    generalize bg6 s u (((ts.take i).map (ab5 s)).foldl (fun x f => f x) a) = ou at h1 go
    clear hK hI hsub hlin hon hfn hbn
    repeat' first | (simp (disch := first | omega | assumption) only [go_sem, simprocAttr, *]) | refine aa0 (fun hb=>?_) fun hb=>?_ | refine aa1 (fun hb=>?_) fun hb=>?_
    all_goals (try simp only [FX] at *)
    all_goals first | omega | skip
    refine go _ _ ?_ rfl
    simp (disch := omega) only [go_sem, simprocAttr, Sl, ht, and_self, ab0]
   ·have hie : i = ts.length := by omega
    subst hie
    rw [List.take_length] at hy ⊢
    have hyok := hy.ok H.length
    generalize boxT ts = G
    clear hK hsub hlin
    repeat' first | (simp (disch := first | omega | assumption) only [go_sem, simprocAttr, *]) | refine aa0 (fun hb=>?_) fun hb=>?_ | refine aa1 (fun hb=>?_) fun hb=>?_
    all_goals (try simp only [FX] at *)
    all_goals first | omega | skip
    exact ⟨_, bg0 (hy.newP _) (be3 hyok) rfl rfl, y, rfl, hy⟩
  by_cases k3 : kd = 3
  ·subst k3
   have e1 : ar6 s 3 w lo hi (ts.map (ab5 s)) a = (ts.map (ab5 s)).foldl (fun o f => orL o (f a)) (ac3 (s.length + 1)) := by simp [ar6]
   rw [e1, if_neg (by omega), if_neg (by omega), if_pos rfl]
   generalize hcd : cntT a = c at lf hcp
   clear ih hlT he ho e1 hfl hfb hc0 hcle
   unfold EV.one at ox oF
   unfold EV.cells at cx cf
   repeat' first | (simp (disch := first | omega | assumption) only [go_sem, simprocAttr, *]) | refine aa0 (fun hb=>?_) fun hb=>?_ | refine aa1 (fun hb=>?_) fun hb=>?_
   all_goals (try simp only [FX] at *)
   all_goals first | omega | skip
   refine af8 (ι := Nat × EV) (fun q => q.1 ≤ ts.length ∧ an2 q.2 (posL 0 (((ts.take q.1).map (ab5 s)).foldl (fun o f => orL o (f a)) (ac3 (s.length + 1))))) (fun q => ts.length - q.1) (fun q => [(0, .ptr k 2 0 0), (2, x), (9, q.2), (42, x0), (43, .int .i64 ts.length), (44, .int .i64 q.1)])
    (fun q => H.set k (some (.row 2 [.agg [.str s, .bool (o || bv6 s (ts.take q.1) a)]])) ++ some (.row 8 [.agg [.int .i64 3, .int .u64 (w 0 : Nat), .int .u64 (w 1 : Nat), .int .u64 (w 2 : Nat), .int .u64 (w 3 : Nat), x0, .int .i64 lo, .int .i64 hi]]) :: boxT (ts.take q.1)) (0, .nilsl) ⟨by simp, by simp only [List.take_zero, List.map_nil, List.foldl_nil, by9]; exact .nil⟩ ?_ ?_ ?_
   ·simp (disch := omega) only [go_sem, simprocAttr, Sl]
   ·simp [bv6, boxT, hself]
   clear hself hk g2 s2 lf
   rintro ⟨i, y⟩ t1 ⟨hi1, hy⟩ ht K hK
   simp only at hi1 hy ht
   simp (disch := omega) only [go_sem, simprocAttr, Sl] at ht
   obtain ⟨cy, oy⟩ := hy.one
   unfold EV.one at oy
   unfold EV.cells at cy
   by_cases hlt : i < ts.length
   ·obtain ⟨u, hu⟩ := ab2 hlt
    have hum := List.mem_of_getElem? hu
    have hat := hx0.atT hu
    have hyl := RT.cells u
    have hyt : List.take 8 u.E.cells = u.E.cells := List.take_of_length_le (by omega)
    have hya : EV.agg u.E.cells = u.E := by cases u; rfl
    have hal : (((ts.take i).map (ab5 s)).foldl (fun o f => orL o (f a)) (ac3 (s.length + 1))).length = s.length + 1 := (bs1 (g := fun _ => ac3 (s.length + 1)) (cb0 _) fun f hf => by
     obtain ⟨t, h1, rfl⟩ := List.mem_map.1 hf
     exact hlin t (List.mem_of_mem_take h1)).len a ha
    have hel := (hlin u hum).len a ha
    have hon := ce3 (s := s) (a := a) hu
    have hfn : ((ts.take (i + 1)).map (ab5 s)).foldl (fun o f => orL o (f a)) (ac3 (s.length + 1)) = orL (((ts.take i).map (ab5 s)).foldl (fun o f => orL o (f a)) (ac3 (s.length + 1))) (ab5 s u a) := by
     rw [List.take_add_one, hu, List.map_append, List.foldl_append]
     rfl
    have hbn : boxT (ts.take (i + 1)) = boxT (ts.take i) ++ [some (.row 8 [u.E])] := by
     unfold boxT
     rw [List.take_add_one, hu, List.map_append]
     rfl
    have hbl : (boxT (ts.take i)).length = i := by unfold boxT; rw [List.length_map, List.length_take]; omega
    have hI := hsub u hum
    unfold dk0 at hI
    obtain ⟨z, h1, h2⟩ := hI x _ k (o || bv6 s (ts.take i) a) (H.set k (some (.row 2 [.agg [.str s, .bool (o || bv6 s (ts.take i) a)]])) ++ some (.row 8 [.agg [.int .i64 3, .int .u64 (w 0 : Nat), .int .u64 (w 1 : Nat), .int .u64 (w 2 : Nat), .int .u64 (w 3 : Nat), x0, .int .i64 lo, .int .i64 hi]]) :: (boxT (ts.take i) ++ [some (.row 8 [u.E])])) hx ha (g1 _ _)
    rw [s1] at h1
    have h3 := dr1 (E := E) hS (m := s.length + 1) (by omega) hy h2 hal hel
    have h4 := ec5 (m := s.length + 1) (by omega) (a := orL (((ts.take i).map (ab5 s)).foldl (fun o f => orL o (f a)) (ac3 (s.length + 1))) (ab5 s u a)) (by rw [ah7 (by omega)]; exact hal)
    have go := fun s' H' => hK (i + 1, outV (posL 0 (orL (((ts.take i).map (ab5 s)).foldl (fun o f => orL o (f a)) (ac3 (s.length + 1))) (ab5 s u a)))) s' H' ⟨by simp only; omega, by simp only; rw [hfn]; exact h4⟩ (by simp only; omega)
    simp only [hon, hbn, ← Bool.or_assoc] at go
    obtain ⟨cz, oz⟩ := h2.one
    have hyo := RT.ones (hts u hum)
    unfold EV.one at oz
    unfold EV.cells at hyt hyl hya hat cz hyo
    generalize boxT (ts.take i) = G at h1 go hbl ⊢
    have a1 : ∀ (b c d : Option EB), (H.set k b ++ c :: (G ++ [d]))[H.length + (i + 1)]? = some d := fun b c d => by
     rw [List.getElem?_append_right (by simp), List.length_set, Nat.add_sub_cancel_left, List.getElem?_cons_succ, List.getElem?_append_right (by omega), hbl, Nat.sub_self]
     rfl
    have a2 : ∀ (b c d e : Option EB), (H.set k b ++ c :: (G ++ [d])).set (H.length + (i + 1)) e = H.set k b ++ c :: (G ++ [e]) := fun b c d e => by
     rw [List.set_append_right _ _ (by simp), List.length_set, Nat.add_sub_cancel_left, List.set_cons_succ, List.set_append_right _ _ (by omega), hbl, Nat.sub_self]
     rfl
    generalize bv6 s (ts.take i) a = oc at h1 go ⊢
    generalize bg6 s u a = ou at h1 go
    generalize outV (posL 0 (orL (((ts.take i).map (ab5 s)).foldl (fun o f => orL o (f a)) (ac3 (s.length + 1))) (ab5 s u a))) = z4 at h3 h4 go
    obtain ⟨cz4, oz4⟩ := h4.one
    unfold EV.one at oz4
    unfold EV.cells at cz4
    clear hK hI hsub hlin hon hfn hbn
    repeat' first | (simp (disch := first | omega | assumption) only [go_sem, simprocAttr, *]) | refine aa0 (fun hb=>?_) fun hb=>?_ | refine aa1 (fun hb=>?_) fun hb=>?_
    all_goals (try simp only [FX] at *)
    all_goals first | omega | skip
    refine go _ _ ?_ rfl
    simp (disch := omega) only [go_sem, simprocAttr, Sl, ht, and_self, ab0]
   ·have hie : i = ts.length := by omega
    subst hie
    rw [List.take_length] at hy ⊢
    have hyok := hy.ok H.length
    generalize boxT ts = G
    clear hK hsub hlin
    repeat' first | (simp (disch := first | omega | assumption) only [go_sem, simprocAttr, *]) | refine aa0 (fun hb=>?_) fun hb=>?_ | refine aa1 (fun hb=>?_) fun hb=>?_
    all_goals (try simp only [FX] at *)
    all_goals first | omega | skip
    exact ⟨_, bg0 (hy.newP _) (be3 hyok) rfl rfl, y, rfl, hy⟩
  have k4 : kd = 4 := by omega
  subst k4
  rw [if_neg (by omega), if_neg (by omega), if_neg (by omega), if_pos rfl]
  obtain ⟨u, hu⟩ := ab2 (l := ts) (i := 0) (by omega)
  have hum := List.mem_of_getElem? hu
  obtain ⟨y, h1, h2⟩ := de3 (E := E) hS s hs w x0 ts lo hi hx0 u hu (hlin u hum) (hsub u hum) (by omega) (by omega) x a hx ha k o _ (g2 (.row 8 [.agg [.int .i64 4, .int .u64 (w 0 : Nat), .int .u64 (w 1 : Nat), .int .u64 (w 2 : Nat), .int .u64 (w 3 : Nat), x0, .int .i64 lo, .int .i64 hi]]))
  rw [s2] at h1
  have hyok := h2.ok H.length
  obtain ⟨cy, oy⟩ := h2.one
  generalize cntT a = c at lf hcp
  generalize de9 s ts lo hi a = ou at h1 ⊢
  clear ih hsub hlin hlT he ho hfl hfb hself s1 g1 g2 s2 hc0 hcle
  unfold EV.one at ox oF oy
  unfold EV.cells at cx cf cy
  repeat' first | (simp (disch := first | omega | assumption) only [go_sem, simprocAttr, *]) | refine aa0 (fun hb=>?_) fun hb=>?_ | refine aa1 (fun hb=>?_) fun hb=>?_
  all_goals (try simp only [FX] at *)
  all_goals first | omega | skip
  exact ⟨_, bg0 (h2.newP _) (be3 hyok) rfl rfl, y, rfl, h2⟩
end
mutual
def nodW : RT → Int
 | .mk _ _ _ ts _ _ => nodL ts 1
def nodL : List RT → Int → Int
 | [], n => n
 | t :: ts, n => nodL ts (IntKind.i64.wrap (n + nodW t))
end
mutual
def depT : RT → Nat
 | .mk _ _ _ ts _ _ => depL ts 0 + 1
def depL : List RT → Nat → Nat
 | [], d => d
 | t :: ts, d => depL ts (if d < depT t then depT t else d)
end
def capW (v : Int) : Int := if 1000000 < v then 1000000 else v
def wN (k hi n : Int) : Int := if k = 4 ∧ hi < 0 then capW ((if k = 4 ∧ 1 < hi ∧ hi ≤ 64 then capW (n * hi) else n) * 40) else if k = 4 ∧ 1 < hi ∧ hi ≤ 64 then capW (n * hi) else n
mutual
def wT : RT → Int
 | .mk k _ _ ts _ hi => wN k hi (wL ts 1)
def wL : List RT → Int → Int
 | [], n => n
 | t :: ts, n => wL ts (capW (n + wT t))
end
theorem cm8 : ∀ {ts : List RT} {i : Nat} {t : RT} (n : Int), ts[i]? = some t → nodL (ts.take (i + 1)) n = IntKind.i64.wrap (nodL (ts.take i) n + nodW t)
 | [], i, t, n, h => by simp at h
 | u :: ts, 0, t, n, h => by
  simp only [List.getElem?_cons_zero, Option.some.injEq] at h
  subst h
  simp [nodL]
 | u :: ts, i + 1, t, n, h => by
  have ih := cm8 (ts := ts) (i := i) (t := t) (IntKind.i64.wrap (n + nodW u)) (by simpa using h)
  simp only [List.take_succ_cons, nodL, ih]
theorem cp8 : ∀ {ts : List RT} {i : Nat} {t : RT} (d : Nat), ts[i]? = some t → depL (ts.take (i + 1)) d = if depL (ts.take i) d < depT t then depT t else depL (ts.take i) d
 | [], i, t, d, h => by simp at h
 | u :: ts, 0, t, d, h => by
  simp only [List.getElem?_cons_zero, Option.some.injEq] at h
  subst h
  simp [depL]
 | u :: ts, i + 1, t, d, h => by
  have ih := cp8 (ts := ts) (i := i) (t := t) (if d < depT u then depT u else d) (by simpa using h)
  simp only [List.take_succ_cons, depL, ih]
theorem dk8 : ∀ {ts : List RT} {i : Nat} {t : RT} (n : Int), ts[i]? = some t → wL (ts.take (i + 1)) n = capW (wL (ts.take i) n + wT t)
 | [], i, t, n, h => by simp at h
 | u :: ts, 0, t, n, h => by
  simp only [List.getElem?_cons_zero, Option.some.injEq] at h
  subst h
  simp [wL]
 | u :: ts, i + 1, t, n, h => by
  have ih := dk8 (ts := ts) (i := i) (t := t) (capW (n + wT u)) (by simpa using h)
  simp only [List.take_succ_cons, wL, ih]
theorem cx6 : ∀ (ts : List RT) (d : Nat), d ≤ depL ts d ∧ ∀ t ∈ ts, depT t ≤ depL ts d
 | [], d => ⟨Nat.le_refl _, fun t h => by simp at h⟩
 | u :: ts, d => by
  obtain ⟨h1, h2⟩ := cx6 ts (if d < depT u then depT u else d)
  have h3 : d ≤ (if d < depT u then depT u else d) ∧ depT u ≤ (if d < depT u then depT u else d) := by split <;> omega
  simp only [depL]
  refine ⟨by omega, fun t h => ?_⟩
  rcases List.mem_cons.1 h with rfl | h
  ·omega
  ·exact h2 t h
theorem dw5 (ts : List RT) (i : Nat) : depL (ts.take i) 0 ≤ depL ts 0 := by
 have key : ∀ (a b : List RT) (d : Nat), depL (a ++ b) d = depL b (depL a d) := by
  intro a
  induction a with
  | nil => intro b d; rfl
  | cons u a ih => intro b d; simp only [List.cons_append, depL, ih]
 have := key (ts.take i) (ts.drop i) 0
 rw [List.take_append_drop] at this
 rw [this]
 exact (cx6 _ _).1
theorem dx5 {v : Int} (h : 1 ≤ v) : 1 ≤ capW v ∧ capW v ≤ 1000000 ∧ capW v ≤ v := by unfold capW; split <;> omega
theorem wN_b {k hi n : Int} (h : 1 ≤ n ∧ n ≤ 1000000) : 1 ≤ wN k hi n ∧ wN k hi n ≤ 1000000 ∧ (wN k hi n < 1000000 → n ≤ wN k hi n) := by
 have h1 : ∀ m : Int, 1 ≤ m → m ≤ 1000000 → 1 ≤ capW (m * 40) ∧ capW (m * 40) ≤ 1000000 ∧ (capW (m * 40) < 1000000 → m ≤ capW (m * 40)) := fun m h _ => by unfold capW; split <;> omega
 have h2 : 1 < hi → n ≤ n * hi := fun h' => by
  have := Int.mul_le_mul_of_nonneg_left (show (1 : Int) ≤ hi by omega) (show 0 ≤ n by omega)
  omega
 unfold wN
 split
 ·rename_i hc
  rw [if_neg (by omega)]
  exact h1 n h.1 h.2
 ·split
  ·rename_i hc
   have h3 := h2 hc.2.1
   unfold capW
   split <;> omega
  ·omega
theorem w_b : ∀ t : RT, 1 ≤ wT t ∧ wT t ≤ 1000000 := by
 intro t
 refine RT.rec (motive_1 := fun t => 1 ≤ wT t ∧ wT t ≤ 1000000) (motive_2 := fun ts => ∀ n, 1 ≤ n ∧ n ≤ 1000000 → 1 ≤ wL ts n ∧ wL ts n ≤ 1000000) ?_ ?_ ?_ t
 ·intro k w x ts lo hi ih
  have := wN_b (k := k) (hi := hi) (ih 1 (by omega))
  simp only [wT]
  exact ⟨this.1, this.2.1⟩
 ·intro n h; exact h
 ·intro t ts h1 h2 n hn
  simp only [wL]
  have := dx5 (v := n + wT t) (by omega)
  exact h2 _ ⟨this.1, this.2.1⟩
theorem wL_b : ∀ (ts : List RT) (n : Int), 1 ≤ n ∧ n ≤ 1000000 → 1 ≤ wL ts n ∧ wL ts n ≤ 1000000
 | [], n, h => h
 | t :: ts, n, h => by
  have := w_b t
  have h2 := dx5 (v := n + wT t) (by omega)
  simp only [wL]
  exact wL_b ts _ ⟨h2.1, h2.2.1⟩
mutual
def szT : RT → Nat
 | .mk _ _ _ ts _ _ => szL ts + 1
def szL : List RT → Nat
 | [] => 0
 | t :: ts => szT t + szL ts
end
theorem sz_w : ∀ t : RT, wT t < 1000000 → (szT t : Int) ≤ wT t := by
 intro t
 refine RT.rec (motive_1 := fun t => wT t < 1000000 → (szT t : Int) ≤ wT t) (motive_2 := fun ts => ∀ n, 1 ≤ n ∧ n ≤ 1000000 → wL ts n < 1000000 → n + szL ts ≤ wL ts n) ?_ ?_ ?_ t
 ·intro k w x ts lo hi ih h
  simp only [wT] at h ⊢
  have hb := wL_b ts 1 (by omega)
  have h2 := (wN_b (k := k) (hi := hi) hb).2.2 h
  have h3 := ih 1 (by omega) (by omega)
  simp only [szT]
  omega
 ·intro n hn h
  simp [wL, szL]
 ·intro t ts h1 h2 n hn h
  simp only [wL] at h ⊢
  have hw := w_b t
  have hb := dx5 (v := n + wT t) (by omega)
  have h3 := h2 _ ⟨hb.1, hb.2.1⟩ h
  have h4 : capW (n + wT t) = n + wT t := by
   by_cases hc : 1000000 < n + wT t
   ·have e : capW (n + wT t) = 1000000 := if_pos hc
    rw [e] at h3 h
    omega
   ·exact if_neg hc
  rw [h4] at h3 h ⊢
  have h5 := h1 (by omega)
  simp only [szL]
  omega
theorem et2 : ∀ t : RT, szT t ≤ 1000000 → nodW t = szT t := by
 intro t
 refine RT.rec (motive_1 := fun t => szT t ≤ 1000000 → nodW t = szT t) (motive_2 := fun ts => ∀ n : Int, 1 ≤ n → n + szL ts ≤ 1000001 → nodL ts n = n + szL ts) ?_ ?_ ?_ t
 ·intro k w x ts lo hi ih h
  simp only [szT] at h
  simp only [nodW, szT]
  rw [ih 1 (by omega) (by omega)]
  omega
 ·intro n hn h
  simp [nodL, szL]
 ·intro t ts h1 h2 n hn h
  simp only [szL] at h
  simp only [nodL, szL]
  have hz : szT t ≤ 1000000 := by omega
  rw [h1 hz]
  have : IntKind.i64.wrap (n + szT t) = n + szT t := bw2 (by omega) (by omega)
  rw [this, h2 _ (by omega) (by omega)]
  omega
theorem eu0 : ∀ t : RT, depT t ≤ szT t := by
 intro t
 refine RT.rec (motive_1 := fun t => depT t ≤ szT t) (motive_2 := fun ts => ∀ d, depL ts d ≤ d + szL ts) ?_ ?_ ?_ t
 ·intro k w x ts lo hi ih
  have := ih 0
  simp only [depT, szT]
  omega
 ·intro d; simp [depL, szL]
 ·intro t ts h1 h2 d
  simp only [depL, szL]
  have := h2 (if d < depT t then depT t else d)
  split at this <;> split <;> omega
theorem ci9 : ∀ (ts : List RT) (e : Nat), depL ts e = max e (depL ts 0)
 | [], e => by simp [depL]
 | t :: ts, e => by
  have h1 := ci9 ts (if e < depT t then depT t else e)
  have h2 := ci9 ts (if 0 < depT t then depT t else 0)
  simp only [depL]
  rw [h1, h2]
  split <;> split <;> omega
theorem ek9 : ∀ t : RT, ∀ (d : Nat) (n m : Int), 0 ≤ n → n + szT t ≤ 1000000 → d + szT t ≤ 1000001 → 1 ≤ d → bo4 t d (n, m) = (n + szT t, max m ((d : Int) + depT t - 1)) := by
 intro t
 refine RT.rec (motive_1 := fun t => ∀ (d : Nat) (n m : Int), 0 ≤ n → n + szT t ≤ 1000000 → d + szT t ≤ 1000001 → 1 ≤ d → bo4 t d (n, m) = (n + szT t, max m ((d : Int) + depT t - 1)))
  (motive_2 := fun ts => ∀ (d : Nat) (n m : Int), 0 ≤ n → n + szL ts ≤ 1000000 → d + szL ts ≤ 1000001 → 1 ≤ d → (d : Int) - 1 ≤ m → bk3 ts d (n, m) = (n + szL ts, max m ((d : Int) - 1 + depL ts 0))) ?_ ?_ ?_ t
 ·intro k w x ts lo hi ih d n m hn h1 h2 h3
  simp only [szT] at h1 h2
  simp only [bo4, szT, depT]
  have e1 : IntKind.i64.wrap ((d : Int) + 1) = ((d + 1 : Nat) : Int) := by rw [bw2 (by omega) (by omega)]; rfl
  have e2 : IntKind.i64.wrap (n + 1) = n + 1 := bw2 (by omega) (by omega)
  rw [e1, e2, ih (d + 1) _ _ (by omega) (by omega) (by omega) (by omega) (by split <;> omega)]
  rw [Prod.mk.injEq]
  refine ⟨by omega, ?_⟩
  split <;> omega
 ·intro d n m hn h1 h2 h3 h4
  simp only [bk3, szL, depL]
  rw [Prod.mk.injEq]
  exact ⟨by omega, by omega⟩
 ·intro t ts h1 h2 d n m hn h3 h4 h5 h6
  simp only [szL] at h3 h4
  simp only [bk3, szL, depL]
  rw [h1 d n m hn (by omega) (by omega) h5, h2 d _ _ (by omega) (by omega) (by omega) h5 (by omega), ci9 ts (if 0 < depT t then depT t else 0)]
  rw [Prod.mk.injEq]
  refine ⟨by omega, ?_⟩
  split <;> omega
theorem et3 {t : RT} (h : szT t ≤ 100000) : mayT t = (decide (nodW t ≤ 300) && (decide ((depT t : Int) ≤ 30) && ah1 t)) := by
 have h1 := ek9 t 1 0 0 (by omega) (by omega) (by omega) (by omega)
 have h2 := et2 t (by omega)
 unfold mayT
 rw [show ((1 : Nat) : Int) = 1 from rfl] at h1
 rw [h1, h2]
 have e1 : decide ((0 : Int) + szT t ≤ 300) = decide ((szT t : Int) ≤ 300) := by rw [Int.zero_add]
 have e2 : decide (max 0 ((1 : Int) + depT t - 1) ≤ 30) = decide ((depT t : Int) ≤ 30) := by
  rw [Bool.eq_iff_iff, decide_eq_true_eq, decide_eq_true_eq]
  omega
 simp only [e1, e2]
theorem cz6 : bp6 fun _ => 0 := fun i => by simp
def Le (k : Nat) (a b : List Bool) : Prop := ∀ i, a.getD i false = true → b.getD (k + i) false = true
theorem Le.or {k : Nat} {a b c d : List Bool} (h1 : Le k a b) (h2 : Le k c d) (hl : a.length = c.length) (hr : b.length = d.length) : Le k (orL a c) (orL b d) := fun i hi => by
 rw [af1 hl, Bool.or_eq_true] at hi
 rw [af1 hr]
 rcases hi with hi | hi
 ·rw [h1 i hi, Bool.true_or]
 ·rw [h2 i hi, Bool.or_true]
structure Add (m : Nat) (g : List Bool → Bool) : Prop where
 or : ∀ a b, a.length = m → b.length = m → g (orL a b) = (g a || g b)
 no : g (ac3 m) = false
section
variable {m : Nat} {f : List Bool → List Bool} {g h : List Bool → Bool}
theorem Add.comp (hg : Add m g) (hf : Lin m f) : Add m fun a => g (f a) := ⟨fun a b ha hb => by rw [hf.or a b ha hb, hg.or _ _ (hf.len a ha) (hf.len b hb)], by rw [hf.no, hg.no]⟩
theorem Add.sum (hg : Add m g) (hh : Add m h) : Add m fun a => g a || h a := ⟨fun a b ha hb => by
 show (g (orL a b) || h (orL a b)) = _
 rw [hg.or a b ha hb, hh.or a b ha hb]
 cases g a <;> cases g b <;> cases h a <;> cases h b <;> rfl, by rw [hg.no, hh.no]; rfl⟩
theorem Add.congr (hh : Add m h) (e : ∀ a, a.length = m → g a = h a) : Add m g := ⟨fun a b ha hb => by rw [e _ (by rw [ah7 (by omega)]; exact ha), e _ ha, e _ hb, hh.or a b ha hb], by rw [e _ (ac9 m), hh.no]⟩
end
mutual
def bh1 : RT → Bool
 | .mk k w _ ts lo _ => if k = 0 then false else if k = 1 then zset w else if k = 2 then bc6 ts else if k = 3 then cs2 ts else decide (0 < lo) && er2 ts
def bc6 : List RT → Bool
 | [] => false
 | t :: ts => bh1 t || bc6 ts
def cs2 : List RT → Bool
 | [] => true
 | t :: ts => bh1 t && cs2 ts
def er2 : List RT → Bool
 | [] => false
 | t :: _ => bh1 t
end
theorem ck4 : ∀ {ts : List RT}, bc6 ts = false → ∀ t ∈ ts, bh1 t = false
 | [], _, t, h => by simp at h
 | u :: ts, hn, t, h => by
  simp only [bc6, Bool.or_eq_false_iff] at hn
  rcases List.mem_cons.1 h with rfl | h
  ·exact hn.1
  ·exact ck4 hn.2 t h
theorem bt4 : ∀ {ts : List RT}, bd6 ts = true → ∀ t ∈ ts, ah1 t = true
 | [], _, t, h => by simp at h
 | u :: ts, hn, t, h => by
  simp only [bd6, Bool.and_eq_true] at hn
  rcases List.mem_cons.1 h with rfl | h
  ·exact hn.1
  ·exact bt4 hn.2 t h
/-! ### The program's tree -/
def slT : List RT → EV
 | [] => .nilsl
 | t :: ts => .imm 8 ((t :: ts).map RT.E)
theorem er5 {l : List RT} (h : ∀ t ∈ l, t.Ok) (hl : l.length ≤ 9223372036854775807) : SlV 8 (slT l) (l.map RT.E) := by
 cases l with
 | nil => exact .nil
 | cons t ts =>
  refine .imm (fun n => ?_) (by simpa using hl)
  have : ∀ us : List RT, (∀ t ∈ us, t.Ok) → okL n (us.map RT.E) = true := by
   intro us
   induction us with
   | nil => intro _; rfl
   | cons u us ih => intro h; simp [okL, RT.ok (h u (by simp)), ih fun v hv => h v (by simp [hv])]
  exact this _ h
def al1 (l : List (RT × Bool)) : List RT := (l.filter fun p => p.2).map fun p => p.1
def alH : List (RT × Bool) → (Nat → Nat) → Int → Int → RT × Bool
 | [], _, _, _ => (.mk 0 (fun _ => 0) .nilsl [] 0 0, true)
 | p :: _, w, lo, hi => if p.2 = true then (.mk 4 w (.imm 8 [p.1.E]) [p.1] lo hi, true) else (.mk 0 (fun _ => 0) .nilsl [] 0 0, decide (lo = 0))
mutual
def alT : RT → RT × Bool
 | .mk k w x ts lo hi =>
  if k = 1 then (.mk k w x ts lo hi, !zset w)
  else if k = 2 then if (alL ts).all (fun p => p.2) = true then (.mk 2 (fun _ => 0) (slT (al1 (alL ts))) (al1 (alL ts)) 0 0, decide (0 < (al1 (alL ts)).length)) else (.mk k w x ts lo hi, false)
  else if k = 3 then (.mk 3 (fun _ => 0) (slT (al1 (alL ts))) (al1 (alL ts)) 0 0, decide (0 < (al1 (alL ts)).length))
  else if k = 4 then alH (alL ts) w lo hi
  else (.mk k w x ts lo hi, true)
def alL : List RT → List (RT × Bool)
 | [] => []
 | t :: ts => alT t :: alL ts
end
theorem bj7 : ∀ ts : List RT, alL ts = ts.map alT
 | [] => by simp [alL]
 | t :: ts => by simp [alL, bj7 ts]
theorem co3 {l : List (RT × Bool)} {t : RT} : t ∈ al1 l ↔ ∃ p ∈ l, p.2 = true ∧ p.1 = t := by
 unfold al1
 simp only [List.mem_map, List.mem_filter]
 exact ⟨fun ⟨p, ⟨h1, h2⟩, h3⟩ => ⟨p, h1, h2, h3⟩, fun ⟨p, h1, h2, h3⟩ => ⟨p, ⟨h1, h2⟩, h3⟩⟩
theorem ca2 (l : List (RT × Bool)) : (al1 l).length ≤ l.length := by
 unfold al1
 rw [List.length_map]
 exact List.length_filter_le ..
theorem co2 {p : RT × Bool} {l : List (RT × Bool)} (h : p.2 = true) : al1 (p :: l) = p.1 :: al1 l := by simp [al1, h]
theorem ef1 {p : RT × Bool} {l : List (RT × Bool)} (h : p.2 = false) : al1 (p :: l) = al1 l := by simp [al1, h]
theorem cz1 : ∀ {ts : List RT}, (∀ t ∈ ts, (alT t).2 = !bh1 t) → ((alL ts).all (fun p => p.2) = !bc6 ts) ∧ (decide (0 < (al1 (alL ts)).length) = !cs2 ts) ∧ (bc6 ts = false → (al1 (alL ts)).length = ts.length)
 | [], _ => by simp [alL, bc6, cs2, al1]
 | t :: ts, h => by
  obtain ⟨h1, h2, h3⟩ := cz1 (ts := ts) fun u hu => h u (by simp [hu])
  have ht := h t (by simp)
  cases hv : bh1 t with
  | true =>
   rw [hv] at ht
   refine ⟨?_, ?_, ?_⟩
   ·simp only [alL, List.all_cons, ht, bc6, hv]; rfl
   ·simp only [alL, ef1 ht, h2, cs2, hv, Bool.true_and]
   ·simp [bc6, hv]
  | false =>
   rw [hv] at ht
   have ht : (alT t).2 = true := ht
   refine ⟨?_, ?_, ?_⟩
   ·simp only [alL, List.all_cons, ht, bc6, hv, h1, Bool.true_and, Bool.false_or]
   ·simp [alL, co2 ht, cs2, hv]
   ·simp only [alL, co2 ht, bc6, hv, Bool.false_or, List.length_cons]
    intro h; rw [h3 h]
theorem eu4 {t : RT} (ht : t.Ok) : ah1 t = true → (alT t).1.Ok ∧ fitT (alT t).1 = true ∧ (alT t).2 = !bh1 t := by
 induction ht with
 | mk k w x ts lo hi hw hx hts ih =>
  intro hn
  have hself := RT.Ok.mk k w x ts lo hi hw hx hts
  have hfit := cm7 hn
  have hn0 := hn
  simp only [ah1, Bool.and_eq_true] at hn
  obtain ⟨hn, hnl⟩ := hn
  have hm := bt4 hnl
  have hlen := hx.le
  rw [List.length_map] at hlen
  have hl := cz1 (ts := ts) fun t h => (ih t h (hm t h)).2.2
  have hg : ∀ t ∈ al1 (alL ts), t.Ok ∧ fitT t = true := fun t h => by
   obtain ⟨p, h1, _, rfl⟩ := co3.1 h
   rw [bj7] at h1
   obtain ⟨u, hu, rfl⟩ := List.mem_map.1 h1
   have := ih u hu (hm u hu)
   exact ⟨this.1, this.2.1⟩
  have hgl : (al1 (alL ts)).length ≤ ts.length := by
   have := ca2 (alL ts)
   rw [bj7] at this ⊢
   simpa using this
  have hfl : ∀ us : List RT, (∀ t ∈ us, fitT t = true) → fitL us = true := by
   intro us
   induction us with
   | nil => intro _; rfl
   | cons u us ih => intro h; simp [fitL, h u (by simp), ih fun v hv => h v (by simp [hv])]
  have mk : ∀ kk : Int, kk = 2 ∨ kk = 3 → (RT.mk kk (fun _ => 0) (slT (al1 (alL ts))) (al1 (alL ts)) 0 0).Ok ∧ fitT (.mk kk (fun _ => 0) (slT (al1 (alL ts))) (al1 (alL ts)) 0 0) = true := fun kk hk => by
   refine ⟨.mk _ _ _ _ _ _ cz6 (er5 (fun t h => (hg t h).1) (by omega)) fun t h => (hg t h).1, ?_⟩
   simp only [fitT, hfl _ fun t h => (hg t h).2, Bool.and_true, fitB]
   rcases hk with rfl | rfl <;> simp
  by_cases k0 : k = 0
  ·subst k0
   have e : alT (.mk 0 w x ts lo hi) = (.mk 0 w x ts lo hi, true) := by rw [alT]; simp
   rw [e]
   exact ⟨hself, hfit, by simp [bh1]⟩
  by_cases k1 : k = 1
  ·subst k1
   have e : alT (.mk 1 w x ts lo hi) = (.mk 1 w x ts lo hi, !zset w) := by rw [alT]; simp
   rw [e]
   exact ⟨hself, hfit, by simp [bh1]⟩
  by_cases k2 : k = 2
  ·subst k2
   have hv : bh1 (.mk 2 w x ts lo hi) = bc6 ts := by simp [bh1]
   rw [alT, if_neg (by omega), if_pos rfl, hv]
   cases hc : bc6 ts with
   | true =>
    rw [hc] at hl
    rw [if_neg (by rw [hl.1]; simp)]
    exact ⟨hself, hfit, rfl⟩
   | false =>
    rw [hc] at hl
    rw [if_pos (by rw [hl.1]; rfl)]
    refine ⟨(mk 2 (.inl rfl)).1, (mk 2 (.inl rfl)).2, ?_⟩
    simp [ar9] at hn
    have h1 := hl.2.2 rfl
    show decide (0 < (al1 (alL ts)).length) = true
    rw [decide_eq_true_eq, h1]
    omega
  by_cases k3 : k = 3
  ·subst k3
   have hv : bh1 (.mk 3 w x ts lo hi) = cs2 ts := by simp [bh1]
   rw [alT, if_neg (by omega), if_neg (by omega), if_pos rfl, hv]
   exact ⟨(mk 3 (.inr rfl)).1, (mk 3 (.inr rfl)).2, hl.2.1⟩
  by_cases k4 : k = 4
  ·subst k4
   simp [ar9] at hn
   obtain ⟨hn1, hz, hlo, hlo2, hhi⟩ := hn
   match ts, hn1 with
   | [t0], _ =>
    have h0 := ih t0 (by simp) (hm t0 (by simp))
    have hv : bh1 (.mk 4 w x [t0] lo hi) = (decide (0 < lo) && bh1 t0) := by simp [bh1, er2]
    rw [alT, if_neg (by omega), if_neg (by omega), if_neg (by omega), if_pos rfl, hv, alL, alH]
    cases hc : bh1 t0 with
    | true =>
     rw [hc] at h0
     rw [if_neg (by rw [h0.2.2]; simp)]
     refine ⟨.mk _ _ _ _ _ _ cz6 .nil fun t h => by simp at h, by simp [fitT, fitB, fitL], ?_⟩
     show decide (lo = 0) = _
     by_cases h : lo = 0
     ·subst h; rfl
     ·rw [decide_eq_false h, decide_eq_true (show 0 < lo by omega)]; rfl
    | false =>
     rw [hc] at h0
     rw [if_pos (by rw [h0.2.2]; rfl)]
     refine ⟨.mk _ _ _ _ _ _ hw (.imm (es := [(alT t0).1.E]) (fun n => by simp [okL, RT.ok h0.1]) (by simp)) fun t h => by
      simp only [List.mem_cons, List.not_mem_nil, or_false] at h
      subst h; exact h0.1, ?_, by simp⟩
     simp only [fitT, fitL, h0.2.1, Bool.and_true]
     simp only [fitT, Bool.and_eq_true] at hfit
     exact hfit.1
  ·simp [ar9, k0, k1, k2, k3, k4] at hn
section
variable {E : Env} [R : EndR E]
theorem bz6 {t : RT} (ht : t.Ok) : ∀ H, den E R.ag4 [t.E] H = some (.ret (.int .i64 (nodW t)), H) := by
 induction ht with
 | mk kd w x ts lo hi hw hx hts ih =>
  intro H
  have lx := hx.len
  rw [List.length_map] at lx
  have lex := hx.le
  rw [List.length_map] at lex
  obtain ⟨cx, ox⟩ := hx.one
  rw [show nodW (.mk kd w x ts lo hi) = nodL ts 1 by simp [nodW]]
  refine ae7 R.av3 (by simp) ?_
  unfold Gn.ao0 Gn.ak3
  show @Hd E ⟨_⟩ ⟨ak9 [.agg [.int .i64 kd, .int .u64 (w 0 : Nat), .int .u64 (w 1 : Nat), .int .u64 (w 2 : Nat), .int .u64 (w 3 : Nat), x, .int .i64 lo, .int .i64 hi]]⟩ ⟨_⟩ ⟨_⟩
  unfold EV.one at ox
  unfold EV.cells at cx
  repeat' first | (simp (disch := first | omega | assumption) only [go_sem, simprocAttr, *]) | refine aa0 (fun hb=>?_) fun hb=>?_ | refine aa1 (fun hb=>?_) fun hb=>?_
  all_goals (try simp only [FX] at *)
  refine af8 (ι := Nat) (fun i => i ≤ ts.length) (fun i => ts.length - i) (fun i => [(1, .ptr H.length 8 0 0), (3, .int .i64 (nodL (ts.take i) 1)), (4, .int .i64 i)])
   (fun i => H ++ [some (.row 8 [.agg [.int .i64 kd, .int .u64 (w 0 : Nat), .int .u64 (w 1 : Nat), .int .u64 (w 2 : Nat), .int .u64 (w 3 : Nat), x, .int .i64 lo, .int .i64 hi]])]) 0 (by omega) ?_ rfl ?_
  ·simp (disch := omega) only [go_sem, simprocAttr, Sl, List.take_zero, nodL]
  rintro i t hi ht K hK
  simp (disch := omega) only [go_sem, simprocAttr, Sl] at ht
  by_cases hlt : i < ts.length
  ·obtain ⟨y, hy⟩ := ab2 hlt
   have hat := hx.atT hy
   have hyl := RT.cells y
   have hyt : List.take 8 y.E.cells = y.E.cells := List.take_of_length_le (by omega)
   have hya : EV.agg y.E.cells = y.E := by cases y; rfl
   have hih := ih y (List.mem_of_getElem? hy)
   have go := fun s' H' => hK (i + 1) s' H' (by omega) (by omega)
   rw [cm8 1 hy] at go
   clear hK ih
   unfold EV.cells at hyt hyl hya hat
   repeat' first | (simp (disch := first | omega | assumption) only [go_sem, simprocAttr, *]) | refine aa0 (fun hb=>?_) fun hb=>?_ | refine aa1 (fun hb=>?_) fun hb=>?_
   all_goals (try simp only [FX] at *)
   all_goals first | omega | skip
   refine go _ _ ?_ rfl
   simp (disch := omega) only [go_sem, simprocAttr, Sl, ht, and_self, ab0]
  ·have hie : i = ts.length := by omega
   subst hie
   rw [List.take_length] at ht
   clear hK ih
   repeat' first | (simp (disch := first | omega | assumption) only [go_sem, simprocAttr, *]) | refine aa0 (fun hb=>?_) fun hb=>?_ | refine aa1 (fun hb=>?_) fun hb=>?_
   all_goals (try simp only [FX] at *)
   all_goals first | omega | skip
   exact aa4 rfl rfl
theorem di7 {t : RT} (ht : t.Ok) : depT t ≤ 1000000 → ∀ H, den E R.aj2 [t.E] H = some (.ret (.int .i64 (depT t)), H) := by
 induction ht with
 | mk kd w x ts lo hi hw hx hts ih =>
  intro hd H
  rw [show depT (.mk kd w x ts lo hi) = depL ts 0 + 1 by simp [depT]] at hd ⊢
  have lx := hx.len
  rw [List.length_map] at lx
  have lex := hx.le
  rw [List.length_map] at lex
  obtain ⟨cx, ox⟩ := hx.one
  refine ae7 R.ax5 (by simp) ?_
  unfold Gn.aq3 Gn.am5
  show @Hd E ⟨_⟩ ⟨ak9 [.agg [.int .i64 kd, .int .u64 (w 0 : Nat), .int .u64 (w 1 : Nat), .int .u64 (w 2 : Nat), .int .u64 (w 3 : Nat), x, .int .i64 lo, .int .i64 hi]]⟩ ⟨_⟩ ⟨_⟩
  unfold EV.one at ox
  unfold EV.cells at cx
  repeat' first | (simp (disch := first | omega | assumption) only [go_sem, simprocAttr, *]) | refine aa0 (fun hb=>?_) fun hb=>?_ | refine aa1 (fun hb=>?_) fun hb=>?_
  all_goals (try simp only [FX] at *)
  refine af8 (ι := Nat) (fun i => i ≤ ts.length) (fun i => ts.length - i) (fun i => [(1, .ptr H.length 8 0 0), (3, .int .i64 (depL (ts.take i) 0)), (4, .int .i64 i)])
   (fun i => H ++ [some (.row 8 [.agg [.int .i64 kd, .int .u64 (w 0 : Nat), .int .u64 (w 1 : Nat), .int .u64 (w 2 : Nat), .int .u64 (w 3 : Nat), x, .int .i64 lo, .int .i64 hi]])]) 0 (by omega) ?_ rfl ?_
  ·simp (disch := omega) only [go_sem, simprocAttr, Sl, List.take_zero, depL, Int.natCast_zero]
  rintro i t hi ht K hK
  simp (disch := omega) only [go_sem, simprocAttr, Sl] at ht
  by_cases hlt : i < ts.length
  ·obtain ⟨y, hy⟩ := ab2 hlt
   have hat := hx.atT hy
   have hyl := RT.cells y
   have hyt : List.take 8 y.E.cells = y.E.cells := List.take_of_length_le (by omega)
   have hya : EV.agg y.E.cells = y.E := by cases y; rfl
   have hyd := (cx6 ts 0).2 y (List.mem_of_getElem? hy)
   have hih := ih y (List.mem_of_getElem? hy) (by omega)
   have hld := dw5 ts i
   have go := fun s' H' => hK (i + 1) s' H' (by omega) (by omega)
   rw [cp8 0 hy] at go
   clear hK ih
   unfold EV.cells at hyt hyl hya hat
   generalize depL (ts.take i) 0 = d at ht go hld
   generalize depT y = e at hih go hyd
   by_cases hc : d < e
   ·rw [if_pos hc] at go
    repeat' first | (simp (disch := first | omega | assumption) only [go_sem, simprocAttr, *]) | refine aa0 (fun hb=>?_) fun hb=>?_ | refine aa1 (fun hb=>?_) fun hb=>?_
    all_goals (try simp only [FX] at *)
    all_goals first | omega | skip
    refine go _ _ ?_ rfl
    simp (disch := omega) only [go_sem, simprocAttr, Sl, ht, and_self, ab0]
   ·rw [if_neg hc] at go
    repeat' first | (simp (disch := first | omega | assumption) only [go_sem, simprocAttr, *]) | refine aa0 (fun hb=>?_) fun hb=>?_ | refine aa1 (fun hb=>?_) fun hb=>?_
    all_goals (try simp only [FX] at *)
    all_goals first | omega | skip
    refine go _ _ ?_ rfl
    simp (disch := omega) only [go_sem, simprocAttr, Sl, ht, and_self, ab0]
  ·have hie : i = ts.length := by omega
   subst hie
   rw [List.take_length] at ht
   clear hK ih
   repeat' first | (simp (disch := first | omega | assumption) only [go_sem, simprocAttr, *]) | refine aa0 (fun hb=>?_) fun hb=>?_ | refine aa1 (fun hb=>?_) fun hb=>?_
   all_goals (try simp only [FX] at *)
   all_goals first | omega | skip
   exact aa4 rfl rfl
end
section
variable {E : Env} [R : EndR E]
theorem cu9 {ts : List RT} {i : Nat} {t : RT} (h : ts[i]? = some t) : bd6 (ts.take (i + 1)) = (bd6 (ts.take i) && ah1 t) := by
 rw [bc2, bc2, List.take_add_one, h, List.any_append]
 cases (ts.take i).any fun t => !ah1 t <;> simp
theorem dq8 {ts : List RT} {i : Nat} {t : RT} (h : ts[i]? = some t) (hn : ah1 t = false) : bd6 ts = false := by
 rw [bc2]
 have : (ts.any fun t => !ah1 t) = true := List.any_eq_true.2 ⟨t, List.mem_of_getElem? h, by rw [hn]; rfl⟩
 rw [this]; rfl
set_option maxHeartbeats 4000000 in
theorem dg0 {t : RT} (ht : t.Ok) : ∀ H, den E R.aj1 [t.E] H = some (.ret (.bool (ah1 t)), H) := by
 induction ht with
 | mk kd w x ts lo hi hw hx hts ih =>
  intro H
  have lx := hx.len
  rw [List.length_map] at lx
  have lex := hx.le
  rw [List.length_map] at lex
  obtain ⟨cx, ox⟩ := hx.one
  rw [show ah1 (.mk kd w x ts lo hi) = (ar9 (.mk kd w x ts lo hi) && bd6 ts) by simp [ah1]]
  refine ae7 R.ax3 (by simp) ?_
  unfold Gn.aq1 Gn.am3
  show @Hd E ⟨_⟩ ⟨ak9 [.agg [.int .i64 kd, .int .u64 (w 0 : Nat), .int .u64 (w 1 : Nat), .int .u64 (w 2 : Nat), .int .u64 (w 3 : Nat), x, .int .i64 lo, .int .i64 hi]]⟩ ⟨_⟩ ⟨_⟩
  unfold EV.one at ox
  unfold EV.cells at cx
  repeat' first | (simp (disch := first | omega | assumption) only [go_sem, simprocAttr, *]) | refine aa0 (fun hb=>?_) fun hb=>?_ | refine aa1 (fun hb=>?_) fun hb=>?_
  all_goals (try simp only [FX] at *)
  refine af8 (ι := Nat) (fun i => i ≤ ts.length ∧ bd6 (ts.take i) = true) (fun i => ts.length - i) (fun i => [(1, .ptr H.length 8 0 0), (3, .int .i64 i)])
   (fun i => H ++ [some (.row 8 [.agg [.int .i64 kd, .int .u64 (w 0 : Nat), .int .u64 (w 1 : Nat), .int .u64 (w 2 : Nat), .int .u64 (w 3 : Nat), x, .int .i64 lo, .int .i64 hi]])]) 0 ⟨by omega, by simp [bd6]⟩ ?_ rfl ?_
  ·simp (disch := omega) only [go_sem, simprocAttr, Sl]
  rintro i t ⟨hil, hn⟩ ht K hK
  simp (disch := omega) only [go_sem, simprocAttr, Sl] at ht
  by_cases hlt : i < ts.length
  ·obtain ⟨y, hy⟩ := ab2 hlt
   have hat := hx.atT hy
   have hyl := RT.cells y
   have hyt : List.take 8 y.E.cells = y.E.cells := List.take_of_length_le (by omega)
   have hya : EV.agg y.E.cells = y.E := by cases y; rfl
   have hih := ih y (List.mem_of_getElem? hy)
   unfold EV.cells at hyt hyl hya hat
   cases hb : ah1 y with
   | true =>
    have go := fun s' H' => hK (i + 1) s' H' ⟨by omega, by rw [cu9 hy, hn, hb]; rfl⟩ (by omega)
    rw [hb] at hih
    clear hK ih hn hb
    repeat' first | (simp (disch := first | omega | assumption) only [go_sem, simprocAttr, *]) | refine aa0 (fun hb=>?_) fun hb=>?_ | refine aa1 (fun hb=>?_) fun hb=>?_
    all_goals (try simp only [FX] at *)
    all_goals first | omega | skip
    refine go _ _ ?_ rfl
    simp (disch := omega) only [go_sem, simprocAttr, Sl, ht, and_self, ab0]
   | false =>
    rw [hb] at hih
    rw [dq8 hy hb, Bool.and_false]
    clear hK ih hn hb
    repeat' first | (simp (disch := first | omega | assumption) only [go_sem, simprocAttr, *]) | refine aa0 (fun hb=>?_) fun hb=>?_ | refine aa1 (fun hb=>?_) fun hb=>?_
    all_goals (try simp only [FX] at *)
    all_goals first | omega | skip
    exact aa4 rfl rfl
  ·have hie : i = ts.length := by omega
   subst hie
   rw [List.take_length] at hn
   rw [hn, Bool.and_true]
   clear hK ih hn
   generalize hr : ar9 (.mk kd w x ts lo hi) = r
   have hz := cg2 w
   cases hzs : zset w
   all_goals rw [hzs] at hz
   ·by_cases k0 : kd = 0
    ·subst k0
     repeat' first | (simp (disch := first | omega | assumption) only [go_sem, simprocAttr, *]) | refine aa0 (fun hb=>?_) fun hb=>?_ | refine aa1 (fun hb=>?_) fun hb=>?_
     all_goals (try simp only [FX] at *)
     all_goals first | omega | skip
     all_goals refine aa4 rfl ?_
     all_goals rw [← hr, ER.ret.injEq, EV.bool.injEq, Bool.eq_iff_iff]
     all_goals simp only [ar9, hzs, ↓reduceIte, simprocAttr, false_or, or_false, true_or, or_true, Bool.and_eq_true, decide_eq_true_eq, beq_iff_eq, Bool.or_eq_true, Bool.false_eq_true, true_iff, iff_true, false_iff, iff_false, true_and, and_true, false_and, and_false, not_false_eq_true, *]
     all_goals first | omega | skip
    by_cases k1 : kd = 1
    ·subst k1
     repeat' first | (simp (disch := first | omega | assumption) only [go_sem, simprocAttr, *]) | refine aa0 (fun hb=>?_) fun hb=>?_ | refine aa1 (fun hb=>?_) fun hb=>?_
     all_goals (try simp only [FX] at *)
     all_goals first | omega | skip
     all_goals refine aa4 rfl ?_
     all_goals rw [← hr, ER.ret.injEq, EV.bool.injEq, Bool.eq_iff_iff]
     all_goals simp only [ar9, hzs, ↓reduceIte, simprocAttr, false_or, or_false, true_or, or_true, Bool.and_eq_true, decide_eq_true_eq, beq_iff_eq, Bool.or_eq_true, Bool.false_eq_true, true_iff, iff_true, false_iff, iff_false, true_and, and_true, false_and, and_false, not_false_eq_true, *]
     all_goals first | omega | skip
    by_cases k2 : kd = 2
    ·subst k2
     repeat' first | (simp (disch := first | omega | assumption) only [go_sem, simprocAttr, *]) | refine aa0 (fun hb=>?_) fun hb=>?_ | refine aa1 (fun hb=>?_) fun hb=>?_
     all_goals (try simp only [FX] at *)
     all_goals first | omega | skip
     all_goals refine aa4 rfl ?_
     all_goals rw [← hr, ER.ret.injEq, EV.bool.injEq, Bool.eq_iff_iff]
     all_goals simp only [ar9, hzs, ↓reduceIte, simprocAttr, false_or, or_false, true_or, or_true, Bool.and_eq_true, decide_eq_true_eq, beq_iff_eq, Bool.or_eq_true, Bool.false_eq_true, true_iff, iff_true, false_iff, iff_false, true_and, and_true, false_and, and_false, not_false_eq_true, *]
     all_goals first | omega | skip
    by_cases k3 : kd = 3
    ·subst k3
     repeat' first | (simp (disch := first | omega | assumption) only [go_sem, simprocAttr, *]) | refine aa0 (fun hb=>?_) fun hb=>?_ | refine aa1 (fun hb=>?_) fun hb=>?_
     all_goals (try simp only [FX] at *)
     all_goals first | omega | skip
     all_goals refine aa4 rfl ?_
     all_goals rw [← hr, ER.ret.injEq, EV.bool.injEq, Bool.eq_iff_iff]
     all_goals simp only [ar9, hzs, ↓reduceIte, simprocAttr, false_or, or_false, true_or, or_true, Bool.and_eq_true, decide_eq_true_eq, beq_iff_eq, Bool.or_eq_true, Bool.false_eq_true, true_iff, iff_true, false_iff, iff_false, true_and, and_true, false_and, and_false, not_false_eq_true, *]
     all_goals first | omega | skip
    by_cases k4 : kd = 4
    ·subst k4
     repeat' first | (simp (disch := first | omega | assumption) only [go_sem, simprocAttr, *]) | refine aa0 (fun hb=>?_) fun hb=>?_ | refine aa1 (fun hb=>?_) fun hb=>?_
     all_goals (try simp only [FX] at *)
     all_goals first | omega | skip
     all_goals refine aa4 rfl ?_
     all_goals rw [← hr, ER.ret.injEq, EV.bool.injEq, Bool.eq_iff_iff]
     all_goals simp only [ar9, hzs, ↓reduceIte, simprocAttr, false_or, or_false, true_or, or_true, Bool.and_eq_true, decide_eq_true_eq, beq_iff_eq, Bool.or_eq_true, Bool.false_eq_true, true_iff, iff_true, false_iff, iff_false, true_and, and_true, false_and, and_false, not_false_eq_true, *]
     all_goals first | omega | skip
    repeat' first | (simp (disch := first | omega | assumption) only [go_sem, simprocAttr, *]) | refine aa0 (fun hb=>?_) fun hb=>?_ | refine aa1 (fun hb=>?_) fun hb=>?_
    all_goals (try simp only [FX] at *)
    all_goals first | omega | skip
    all_goals refine aa4 rfl ?_
    all_goals rw [← hr, ER.ret.injEq, EV.bool.injEq, Bool.eq_iff_iff]
    all_goals simp only [ar9, hzs, ↓reduceIte, simprocAttr, false_or, or_false, true_or, or_true, Bool.and_eq_true, decide_eq_true_eq, beq_iff_eq, Bool.or_eq_true, Bool.false_eq_true, true_iff, iff_true, false_iff, iff_false, true_and, and_true, false_and, and_false, not_false_eq_true, *]
    all_goals first | omega | skip
   ·by_cases k0 : kd = 0
    ·subst k0
     repeat' first | (simp (disch := first | omega | assumption) only [go_sem, simprocAttr, *]) | refine aa0 (fun hb=>?_) fun hb=>?_ | refine aa1 (fun hb=>?_) fun hb=>?_
     all_goals (try simp only [FX] at *)
     all_goals first | omega | skip
     all_goals refine aa4 rfl ?_
     all_goals rw [← hr, ER.ret.injEq, EV.bool.injEq, Bool.eq_iff_iff]
     all_goals simp only [ar9, hzs, ↓reduceIte, simprocAttr, false_or, or_false, true_or, or_true, Bool.and_eq_true, decide_eq_true_eq, beq_iff_eq, Bool.or_eq_true, Bool.false_eq_true, true_iff, iff_true, false_iff, iff_false, true_and, and_true, false_and, and_false, not_false_eq_true, *]
     all_goals first | omega | skip
    by_cases k1 : kd = 1
    ·subst k1
     repeat' first | (simp (disch := first | omega | assumption) only [go_sem, simprocAttr, *]) | refine aa0 (fun hb=>?_) fun hb=>?_ | refine aa1 (fun hb=>?_) fun hb=>?_
     all_goals (try simp only [FX] at *)
     all_goals first | omega | skip
     all_goals refine aa4 rfl ?_
     all_goals rw [← hr, ER.ret.injEq, EV.bool.injEq, Bool.eq_iff_iff]
     all_goals simp only [ar9, hzs, ↓reduceIte, simprocAttr, false_or, or_false, true_or, or_true, Bool.and_eq_true, decide_eq_true_eq, beq_iff_eq, Bool.or_eq_true, Bool.false_eq_true, true_iff, iff_true, false_iff, iff_false, true_and, and_true, false_and, and_false, not_false_eq_true, *]
     all_goals first | omega | skip
    by_cases k2 : kd = 2
    ·subst k2
     repeat' first | (simp (disch := first | omega | assumption) only [go_sem, simprocAttr, *]) | refine aa0 (fun hb=>?_) fun hb=>?_ | refine aa1 (fun hb=>?_) fun hb=>?_
     all_goals (try simp only [FX] at *)
     all_goals first | omega | skip
     all_goals refine aa4 rfl ?_
     all_goals rw [← hr, ER.ret.injEq, EV.bool.injEq, Bool.eq_iff_iff]
     all_goals simp only [ar9, hzs, ↓reduceIte, simprocAttr, false_or, or_false, true_or, or_true, Bool.and_eq_true, decide_eq_true_eq, beq_iff_eq, Bool.or_eq_true, Bool.false_eq_true, true_iff, iff_true, false_iff, iff_false, true_and, and_true, false_and, and_false, not_false_eq_true, *]
     all_goals first | omega | skip
    by_cases k3 : kd = 3
    ·subst k3
     repeat' first | (simp (disch := first | omega | assumption) only [go_sem, simprocAttr, *]) | refine aa0 (fun hb=>?_) fun hb=>?_ | refine aa1 (fun hb=>?_) fun hb=>?_
     all_goals (try simp only [FX] at *)
     all_goals first | omega | skip
     all_goals refine aa4 rfl ?_
     all_goals rw [← hr, ER.ret.injEq, EV.bool.injEq, Bool.eq_iff_iff]
     all_goals simp only [ar9, hzs, ↓reduceIte, simprocAttr, false_or, or_false, true_or, or_true, Bool.and_eq_true, decide_eq_true_eq, beq_iff_eq, Bool.or_eq_true, Bool.false_eq_true, true_iff, iff_true, false_iff, iff_false, true_and, and_true, false_and, and_false, not_false_eq_true, *]
     all_goals first | omega | skip
    by_cases k4 : kd = 4
    ·subst k4
     repeat' first | (simp (disch := first | omega | assumption) only [go_sem, simprocAttr, *]) | refine aa0 (fun hb=>?_) fun hb=>?_ | refine aa1 (fun hb=>?_) fun hb=>?_
     all_goals (try simp only [FX] at *)
     all_goals first | omega | skip
     all_goals refine aa4 rfl ?_
     all_goals rw [← hr, ER.ret.injEq, EV.bool.injEq, Bool.eq_iff_iff]
     all_goals simp only [ar9, hzs, ↓reduceIte, simprocAttr, false_or, or_false, true_or, or_true, Bool.and_eq_true, decide_eq_true_eq, beq_iff_eq, Bool.or_eq_true, Bool.false_eq_true, true_iff, iff_true, false_iff, iff_false, true_and, and_true, false_and, and_false, not_false_eq_true, *]
     all_goals first | omega | skip
    repeat' first | (simp (disch := first | omega | assumption) only [go_sem, simprocAttr, *]) | refine aa0 (fun hb=>?_) fun hb=>?_ | refine aa1 (fun hb=>?_) fun hb=>?_
    all_goals (try simp only [FX] at *)
    all_goals first | omega | skip
    all_goals refine aa4 rfl ?_
    all_goals rw [← hr, ER.ret.injEq, EV.bool.injEq, Bool.eq_iff_iff]
    all_goals simp only [ar9, hzs, ↓reduceIte, simprocAttr, false_or, or_false, true_or, or_true, Bool.and_eq_true, decide_eq_true_eq, beq_iff_eq, Bool.or_eq_true, Bool.false_eq_true, true_iff, iff_true, false_iff, iff_false, true_and, and_true, false_and, and_false, not_false_eq_true, *]
    all_goals first | omega | skip
end
section
variable {E : Env} [R : EndR E]
theorem dr3 {t : RT} (ht : t.Ok) (hd : depT t ≤ 1000000) (H : Heap) : den E R.an6 [t.E] H = some (.ret (.bool (decide (nodW t ≤ 300) && (decide ((depT t : Int) ≤ 30) && ah1 t))), H) := by
 have h1 := fun H => bz6 (E := E) ht H
 have h2 := fun H => di7 (E := E) ht hd H
 have h3 := fun H => dg0 (E := E) ht H
 cases ht with
 | mk kd w x ts lo hi hw hx hts =>
 obtain ⟨cx, ox⟩ := hx.one
 generalize nodW (.mk kd w x ts lo hi) = n at h1 ⊢
 generalize depT (.mk kd w x ts lo hi) = d at h2 ⊢
 generalize ah1 (.mk kd w x ts lo hi) = b at h3 ⊢
 refine ae7 R.ay8 (by simp) ?_
 unfold Gn.as2 Gn.ao1
 unfold RT.E at h1 h2 h3 ⊢
 unfold EV.one at ox
 unfold EV.cells at cx
 simp only at h1 h2 h3
 clear hd
 by_cases c1 : n ≤ 300
 ·rw [decide_eq_true c1]
  by_cases c2 : (d : Int) ≤ 30
  ·rw [decide_eq_true c2]
   repeat' first | (simp (disch := first | omega | assumption) only [go_sem, simprocAttr, *]) | refine aa0 (fun hb=>?_) fun hb=>?_ | refine aa1 (fun hb=>?_) fun hb=>?_
   all_goals (try simp only [FX] at *)
   all_goals first | omega | exact aa4 rfl rfl
  ·rw [decide_eq_false c2]
   repeat' first | (simp (disch := first | omega | assumption) only [go_sem, simprocAttr, *]) | refine aa0 (fun hb=>?_) fun hb=>?_ | refine aa1 (fun hb=>?_) fun hb=>?_
   all_goals (try simp only [FX] at *)
   all_goals first | omega | exact aa4 rfl rfl
 ·rw [decide_eq_false c1]
  repeat' first | (simp (disch := first | omega | assumption) only [go_sem, simprocAttr, *]) | refine aa0 (fun hb=>?_) fun hb=>?_ | refine aa1 (fun hb=>?_) fun hb=>?_
  all_goals (try simp only [FX] at *)
  all_goals first | omega | exact aa4 rfl rfl
end
section
variable {E : Env} [R : bu5 E]
theorem dt4 {t : RT} (ht : t.Ok) (H : Heap) : den E R.ak2 [t.E] H = some (.ret (.bool (decide (nodW t > 400))), H) := by
 have h1 := fun H => bz6 (E := E) ht H
 cases ht with
 | mk kd w x ts lo hi hw hx hts =>
 obtain ⟨cx, ox⟩ := hx.one
 generalize nodW (.mk kd w x ts lo hi) = n at h1 ⊢
 refine ae7 R.av5 (by simp) ?_
 unfold Gn.ao5 Gn.ak6
 unfold RT.E at h1 ⊢
 unfold EV.one at ox
 unfold EV.cells at cx
 simp only at h1
 repeat' first | (simp (disch := first | omega | assumption) only [go_sem, simprocAttr, *]) | refine aa0 (fun hb=>?_) fun hb=>?_ | refine aa1 (fun hb=>?_) fun hb=>?_
 all_goals (try simp only [FX] at *)
 all_goals first | omega | exact aa4 rfl rfl
theorem dc8 {t : RT} (ht : t.Ok) : ∀ H, den E R.ah4 [t.E] H = some (.ret (.int .i64 (wT t)), H) := by
 induction ht with
 | mk kd w x ts lo hi hw hx hts ih =>
  intro H
  have lx := hx.len
  rw [List.length_map] at lx
  have lex := hx.le
  rw [List.length_map] at lex
  obtain ⟨cx, ox⟩ := hx.one
  have hcap : ∀ v : Int, evMM false (.int .i64 v) (.int .i64 1000000) = some (.int .i64 (capW v)) := fun _ => rfl
  rw [show wT (.mk kd w x ts lo hi) = wN kd hi (wL ts 1) by simp [wT]]
  refine ae7 R.at3 (by simp) ?_
  unfold Gn.am6 Gn.aj7
  show @Hd E ⟨_⟩ ⟨ak9 [.agg [.int .i64 kd, .int .u64 (w 0 : Nat), .int .u64 (w 1 : Nat), .int .u64 (w 2 : Nat), .int .u64 (w 3 : Nat), x, .int .i64 lo, .int .i64 hi]]⟩ ⟨_⟩ ⟨_⟩
  unfold EV.one at ox
  unfold EV.cells at cx
  repeat' first | (simp (disch := first | omega | assumption) only [go_sem, simprocAttr, *]) | refine aa0 (fun hb=>?_) fun hb=>?_ | refine aa1 (fun hb=>?_) fun hb=>?_
  all_goals (try simp only [FX] at *)
  refine af8 (ι := Nat) (fun i => i ≤ ts.length) (fun i => ts.length - i) (fun i => [(1, .ptr H.length 8 0 0), (3, .int .i64 (wL (ts.take i) 1)), (4, .int .i64 i)])
   (fun i => H ++ [some (.row 8 [.agg [.int .i64 kd, .int .u64 (w 0 : Nat), .int .u64 (w 1 : Nat), .int .u64 (w 2 : Nat), .int .u64 (w 3 : Nat), x, .int .i64 lo, .int .i64 hi]])]) 0 (by omega) ?_ rfl ?_
  ·simp (disch := omega) only [go_sem, simprocAttr, Sl, List.take_zero, wL]
  rintro i t hil ht K hK
  simp (disch := omega) only [go_sem, simprocAttr, Sl] at ht
  by_cases hlt : i < ts.length
  ·obtain ⟨y, hy⟩ := ab2 hlt
   have hat := hx.atT hy
   have hyl := RT.cells y
   have hyt : List.take 8 y.E.cells = y.E.cells := List.take_of_length_le (by omega)
   have hya : EV.agg y.E.cells = y.E := by cases y; rfl
   have hih := ih y (List.mem_of_getElem? hy)
   have hb1 := w_b y
   have hb2 := wL_b (ts.take i) 1 (by omega)
   have go := fun s' H' => hK (i + 1) s' H' (by omega) (by omega)
   rw [dk8 1 hy] at go
   generalize wL (ts.take i) 1 = n at ht go hb2
   generalize wT y = m at hih go hb1
   clear hK ih
   unfold EV.cells at hyt hyl hya hat
   repeat' first | (simp (disch := first | omega | assumption) only [go_sem, simprocAttr, *]) | refine aa0 (fun hb=>?_) fun hb=>?_ | refine aa1 (fun hb=>?_) fun hb=>?_
   all_goals (try simp only [FX] at *)
   all_goals first | omega | skip
   refine go _ _ ?_ rfl
   simp (disch := omega) only [go_sem, simprocAttr, Sl, ht, and_self, ab0]
  ·have hie : i = ts.length := by omega
   subst hie
   rw [List.take_length] at ht
   have hb := wL_b ts 1 (by omega)
   generalize wL ts 1 = n at ht hb ⊢
   clear hK ih
   by_cases k4 : kd = 4
   ·subst k4
    by_cases h1 : 1 < hi ∧ hi ≤ 64
    ·have hp : n ≤ n * hi ∧ n * hi ≤ 64000000 := by
      have h2 := Int.mul_le_mul_of_nonneg_left (show (1 : Int) ≤ hi by omega) (show 0 ≤ n by omega)
      have h3 := Int.mul_le_mul_of_nonneg_left (show hi ≤ (64 : Int) by omega) (show 0 ≤ n by omega)
      omega
     have hr : wN 4 hi n = capW (n * hi) := by unfold wN; rw [if_neg (by omega), if_pos ⟨rfl, h1⟩]
     have h5 : ¬ hi < 0 := by omega
     obtain ⟨h1, h4⟩ := h1
     rw [hr]
     clear hr
     generalize hnh : n * hi = p at hp ⊢
     repeat' first | (simp (disch := first | omega | assumption) only [go_sem, simprocAttr, *]) | refine aa0 (fun hb=>?_) fun hb=>?_ | refine aa1 (fun hb=>?_) fun hb=>?_
     all_goals (try simp only [FX] at *)
     all_goals first | omega | skip
     exact aa4 rfl rfl
    ·by_cases h5 : hi < 0
     ·have hr : wN 4 hi n = capW (n * 40) := by unfold wN; rw [if_pos ⟨rfl, h5⟩, if_neg (fun h => h1 h.2)]
      have h6 : ¬ hi > 1 := by omega
      rw [hr]
      clear hr h1
      repeat' first | (simp (disch := first | omega | assumption) only [go_sem, simprocAttr, *]) | refine aa0 (fun hb=>?_) fun hb=>?_ | refine aa1 (fun hb=>?_) fun hb=>?_
      all_goals (try simp only [FX] at *)
      all_goals first | omega | skip
      exact aa4 rfl rfl
     ·have hr : wN 4 hi n = n := by unfold wN; rw [if_neg (by omega), if_neg (fun h => h1 h.2)]
      rw [hr]
      clear hr
      by_cases h6 : hi > 1
      ·have h7 : ¬ hi ≤ 64 := by omega
       clear h1
       repeat' first | (simp (disch := first | omega | assumption) only [go_sem, simprocAttr, *]) | refine aa0 (fun hb=>?_) fun hb=>?_ | refine aa1 (fun hb=>?_) fun hb=>?_
       all_goals (try simp only [FX] at *)
       all_goals first | omega | skip
       exact aa4 rfl rfl
      ·clear h1
       repeat' first | (simp (disch := first | omega | assumption) only [go_sem, simprocAttr, *]) | refine aa0 (fun hb=>?_) fun hb=>?_ | refine aa1 (fun hb=>?_) fun hb=>?_
       all_goals (try simp only [FX] at *)
       all_goals first | omega | skip
       exact aa4 rfl rfl
   ·have hr : wN kd hi n = n := by unfold wN; rw [if_neg (fun h => k4 h.1), if_neg (fun h => k4 h.1)]
    rw [hr]
    clear hr
    repeat' first | (simp (disch := first | omega | assumption) only [go_sem, simprocAttr, *]) | refine aa0 (fun hb=>?_) fun hb=>?_ | refine aa1 (fun hb=>?_) fun hb=>?_
    all_goals (try simp only [FX] at *)
    all_goals first | omega | skip
    exact aa4 rfl rfl
def co1 (t : RT) : Bool := decide (nodW t > 400) || decide (wT t > 20000)
theorem ds8 {t : RT} (ht : t.Ok) (H : Heap) : den E R.ak1 [t.E] H = some (.ret (.bool (co1 t)), H) := by
 have h1 := fun H => dt4 (E := E) ht H
 have h2 := fun H => dc8 (E := E) ht H
 unfold co1
 cases ht with
 | mk kd w x ts lo hi hw hx hts =>
 obtain ⟨cx, ox⟩ := hx.one
 generalize nodW (.mk kd w x ts lo hi) = n at h1 ⊢
 generalize wT (.mk kd w x ts lo hi) = m at h2 ⊢
 refine ae7 R.av4 (by simp) ?_
 unfold Gn.ao3 Gn.ak4
 unfold RT.E at h1 h2 ⊢
 unfold EV.one at ox
 unfold EV.cells at cx
 simp only at h1 h2
 by_cases c1 : n > 400
 ·rw [decide_eq_true c1] at h1 ⊢
  repeat' first | (simp (disch := first | omega | assumption) only [go_sem, simprocAttr, *]) | refine aa0 (fun hb=>?_) fun hb=>?_ | refine aa1 (fun hb=>?_) fun hb=>?_
  all_goals (try simp only [FX] at *)
  all_goals first | omega | exact aa4 rfl rfl
 ·rw [decide_eq_false c1] at h1 ⊢
  repeat' first | (simp (disch := first | omega | assumption) only [go_sem, simprocAttr, *]) | refine aa0 (fun hb=>?_) fun hb=>?_ | refine aa1 (fun hb=>?_) fun hb=>?_
  all_goals (try simp only [FX] at *)
  all_goals first | omega | exact aa4 rfl rfl
theorem ee9 {t : RT} (h : co1 t = false) : szT t ≤ 20000 := by
 unfold co1 at h
 simp only [Bool.or_eq_false_iff, decide_eq_false_iff_not] at h
 have := sz_w t (by omega)
 omega
end
section
variable {E : Env} [R : bu5 E]
theorem cv3 {t : RT} (ht : t.Ok) (s : List UInt8) (hs : s.length ≤ 100000) (p : Int) (h : ¬ (mayT t = true ∧ 0 ≤ p ∧ p ≤ s.length)) (H : Heap) :
  den E R.as0 [t.E, .str s, .int .i64 p] H = some (.ret (.tup [.nilsl, .int .i64 1]), H) := by
 have h1 := fun H => ch9 (E := E) ht H
 generalize mayT t = b at h h1
 cases ht with
 | mk kd w x0 ts lo hi hw hx0 hts =>
 obtain ⟨cx, ox⟩ := hx0.one
 refine ae7 R.be6 (by simp) ?_
 unfold Gn.be1 Gn.av1
 unfold RT.E at h1 ⊢
 unfold EV.one at ox
 unfold EV.cells at cx
 simp only at h1
 cases b with
 | false =>
  repeat' first | (simp (disch := first | omega | assumption) only [go_sem, simprocAttr, *]) | refine aa0 (fun hb=>?_) fun hb=>?_ | refine aa1 (fun hb=>?_) fun hb=>?_
  all_goals (try simp only [FX] at *)
  all_goals first | omega | exact aa4 rfl rfl
 | true =>
  simp only [true_and] at h
  by_cases c : p < 0
  ·repeat' first | (simp (disch := first | omega | assumption) only [go_sem, simprocAttr, *]) | refine aa0 (fun hb=>?_) fun hb=>?_ | refine aa1 (fun hb=>?_) fun hb=>?_
   all_goals (try simp only [FX] at *)
   all_goals first | omega | exact aa4 rfl rfl
  ·have c2 : p > s.length := by omega
   repeat' first | (simp (disch := first | omega | assumption) only [go_sem, simprocAttr, *]) | refine aa0 (fun hb=>?_) fun hb=>?_ | refine aa1 (fun hb=>?_) fun hb=>?_
   all_goals (try simp only [FX] at *)
   all_goals first | omega | exact aa4 rfl rfl
theorem bl7 (hH : bk2 E R.an5 .u8) (hS : bf2 E R.ab3) {t : RT} (ht : t.Ok) (hm : mayT t = true) (s : List UInt8) (hs : s.length ≤ 100000) (p : Nat) (hp : p ≤ s.length) (H : Heap) :
  ∃ y, den E R.as0 [t.E, .str s, .int .i64 p] H = some (.ret (.tup [y, .int .i64 0]), H) ∧ an2 y (posL 0 (ab5 s t (atL s.length p))) := by
 have h1 := fun H => ch9 (E := E) ht H
 rw [hm] at h1
 have hn : ah1 t = true := by
  unfold mayT at hm
  simp only [Bool.and_eq_true] at hm
  exact hm.2.2
 have hA : an2 (.imm 1 [.int .i64 p]) (posL 0 (atL s.length p)) := by
  rw [do7 _ _ hp]
  exact bn4 (l := [(p : Int)]) (by simp)
 obtain ⟨y, h2, h3⟩ := cn2 (E := E) hH hS s hs ht (cm7 hn) (.imm 1 [.int .i64 p]) (atL s.length p) (H.length + 1) false (H ++ [some (.row 8 [t.E]), some (.row 2 [.agg [.str s, .bool false]])]) hA (bg9 _ _) (by rw [List.getElem?_append_right (by omega), Nat.add_sub_cancel_left]; rfl)
 rw [List.set_append_right _ _ (by omega), Nat.add_sub_cancel_left] at h2
 simp only [List.set_cons_succ, List.set_cons_zero, Bool.false_or] at h2
 have hll : (posL 0 (ab5 s t (atL s.length p))).length ≤ 1000000 := by
  have := (bb8 s ht).len _ (bg9 s.length p)
  have h4 := az1 (ab5 s t (atL s.length p))
  rw [ar2]
  omega
 generalize bg6 s t (atL s.length p) = op at h2
 have hcl := cg0 (E := E) y _ (H ++ [some (.row 8 [t.E]), some (.row 2 [.agg [.str s, .bool op]])]) (h3.arg _) hll
 generalize posL 0 (ab5 s t (atL s.length p)) = l at h3 hll hcl ⊢
 obtain ⟨cy, oy⟩ := h3.one
 cases ht with
 | mk kd w x0 ts lo hi hw hx0 hts =>
 obtain ⟨cx, ox⟩ := hx0.one
 unfold RT.E at h1 h2 hcl ⊢
 unfold EV.one at ox oy
 unfold EV.cells at cx cy
 simp only at h1 h2 hcl
 clear hm hn hA
 rcases hcl with ⟨rfl, z, hcl, hz⟩ | ⟨hne, hcl⟩
 ·refine ⟨z, ?_, by rcases hz with rfl | rfl; exact .nil; exact .zsl⟩
  refine ae7 R.be6 (by simp) ?_
  unfold Gn.be1 Gn.av1
  rcases hz with rfl | rfl
  ·repeat' first | (simp (disch := first | omega | assumption) only [go_sem, simprocAttr, *]) | refine aa0 (fun hb=>?_) fun hb=>?_ | refine aa1 (fun hb=>?_) fun hb=>?_
   all_goals (try simp only [FX] at *)
   all_goals first | omega | exact aa4 rfl rfl
  ·repeat' first | (simp (disch := first | omega | assumption) only [go_sem, simprocAttr, *]) | refine aa0 (fun hb=>?_) fun hb=>?_ | refine aa1 (fun hb=>?_) fun hb=>?_
   all_goals (try simp only [FX] at *)
   all_goals first | omega | exact aa4 rfl rfl
 ·refine ⟨.imm 1 (aa8 l), ?_, bn4 (by omega)⟩
  refine ae7 R.be6 (by simp) ?_
  unfold Gn.be1 Gn.av1
  simp only [List.length_append, List.length_cons, List.length_nil, List.append_assoc, List.cons_append, List.nil_append] at hcl
  repeat' first | (simp (disch := first | omega | assumption) only [go_sem, simprocAttr, *]) | refine aa0 (fun hb=>?_) fun hb=>?_ | refine aa1 (fun hb=>?_) fun hb=>?_
  all_goals (try simp only [FX] at *)
  all_goals first | omega | skip
  refine be4 rfl ?_ rfl
  have hz := co4 (L := H.length) (H := H ++ [some (.row 8 [.agg [.int .i64 kd, .int .u64 (w 0 : Nat), .int .u64 (w 1 : Nat), .int .u64 (w 2 : Nat), .int .u64 (w 3 : Nat), x0, .int .i64 lo, .int .i64 hi]]), some (.row 2 [.agg [.str s, .bool op]]), some (.row 1 (aa8 l))]) (n := 6) (b := H.length + 2) (sz := 1) (off := 0) (len := l.length) (es := aa8 l) (by omega) (by rw [List.getElem?_append_right (by omega), Nat.add_sub_cancel_left]; rfl) (by rw [ab6]; omega) (br0 _ _)
  rw [List.drop_zero, List.take_of_length_le (by rw [ab6]; exact Nat.le_refl _)] at hz
  have hi0 : Abs.fz H.length (H ++ [some (.row 8 [.agg [.int .i64 kd, .int .u64 (w 0 : Nat), .int .u64 (w 1 : Nat), .int .u64 (w 2 : Nat), .int .u64 (w 3 : Nat), x0, .int .i64 lo, .int .i64 hi]]), some (.row 2 [.agg [.str s, .bool op]]), some (.row 1 (aa8 l))]) 7 (.int .i64 0) = some (.int .i64 0) := be3 rfl
  unfold Abs.fz
  rw [if_neg (by simp [EV.ok, okL])]
  simp only [mapO, hz, hi0]
  rfl
end
theorem cm5 : ∀ (a : List Bool) (b : Bool) (k : Nat), posL k (a ++ [b]) = posL k a ++ (if b = true then [((k + a.length : Nat) : Int)] else [])
 | [], b, k => by simp [posL]
 | c :: a, b, k => by
  have ih := cm5 a b (k + 1)
  simp only [List.cons_append, posL, ih, List.length_cons]
  rw [show k + 1 + a.length = k + (a.length + 1) by omega]
  split <;> simp
theorem do6 {a : List Bool} {i : Nat} {b : Bool} (h : a[i]? = some b) : posL 0 (a.take (i + 1)) = posL 0 (a.take i) ++ (if b = true then [(i : Int)] else []) := by
 have hi := aa2 h
 rw [List.take_add_one, h, Option.toList_some, cm5, List.length_take, Nat.min_eq_left (by omega), Nat.zero_add]
section
variable {E : Env} [R : bu5 E]
theorem ct6 (hR : bk2 E R.ai5 .i64) {t : RT} (ht : t.Ok) (hn : ah1 t = true) (s : List UInt8) (hs : s.length ≤ 100000) (p : Nat) (hp : p ≤ s.length) (H : Heap) :
  den E R.al7 [t.E, .str s, .int .i64 p] H = some (.ret (outV (posL 0 (ab5 s t (atL s.length p)))), H) := by
 have hA : SlV 1 (.imm 1 (ab8 (atL s.length p))) (ab8 (atL s.length p)) := .imm (fun n => bt3 n _) (by rw [ae8, bg9]; omega)
 have he := fun H => eg6 (E := E) hR s hs ht hn (.imm 1 (ab8 (atL s.length p))) (atL s.length p) H (.inl hA) (bg9 _ _)
 have hat := fun H => eu3 (E := E) s hs p hp H
 have hql := (bb8 s ht).len _ (bg9 s.length p)
 generalize ab5 s t (atL s.length p) = q at he hql ⊢
 cases ht with
 | mk kd w x0 ts lo hi hw hx0 hts =>
 obtain ⟨cx, ox⟩ := hx0.one
 have hbl := ae8 q
 refine ae7 R.ax2 (by simp) ?_
 unfold Gn.aq0 Gn.am2
 unfold RT.E at he ⊢
 unfold EV.one at ox
 unfold EV.cells at cx
 simp only at he
 clear hA
 repeat' first | (simp (disch := first | omega | assumption) only [go_sem, simprocAttr, *]) | refine aa0 (fun hb=>?_) fun hb=>?_ | refine aa1 (fun hb=>?_) fun hb=>?_
 all_goals (try simp only [FX] at *)
 all_goals first | omega | skip
 refine af8 (ι := Nat) (fun i => i ≤ q.length) (fun i => q.length - i) (fun i => [(3, .ptr H.length 8 0 0), (7, .imm 1 (ab8 q)), (8, outX (H.length + 1) (posL 0 (q.take i))), (9, .int .i64 i)])
  (fun i => H ++ some (.row 8 [.agg [.int .i64 kd, .int .u64 (w 0 : Nat), .int .u64 (w 1 : Nat), .int .u64 (w 2 : Nat), .int .u64 (w 3 : Nat), x0, .int .i64 lo, .int .i64 hi]]) :: outG (posL 0 (q.take i))) 0 (by omega) ?_ ?_ ?_
 ·simp (disch := omega) only [go_sem, simprocAttr, Sl, List.take_zero, posL, outX, if_true]
 ·simp [posL, outG]
 clear he hat
 rintro i t hil ht K hK
 simp (disch := omega) only [go_sem, simprocAttr, Sl] at ht
 by_cases hlt : i < q.length
 ·obtain ⟨b, hb⟩ := ab2 hlt
  have hbE := av9 hb
  have hpl : (posL 0 (q.take i)).length ≤ 1000000 := by
   have := az1 (q.take i)
   rw [List.length_take] at this
   rw [ar2]
   omega
  have go := fun s' H' => hK (i + 1) s' H' (by omega) (by omega)
  rw [do6 hb] at go
  generalize posL 0 (q.take i) = out at ht go hpl
  obtain ⟨oo, oc⟩ := bw9 (H.length + 1) out
  unfold EV.one at oo
  unfold EV.cells at oc
  have happ := fun (c : EB) => ce1 (P := H ++ [some c]) (D := H.length + 1) (by simp) hpl (i : Int)
  simp only [List.append_assoc, List.cons_append, List.nil_append] at happ
  clear hK hb
  cases b with
  | true =>
   simp only [if_true] at go
   repeat' first | (simp (disch := first | omega | assumption) only [go_sem, simprocAttr, *]) | refine aa0 (fun hb=>?_) fun hb=>?_ | refine aa1 (fun hb=>?_) fun hb=>?_
   all_goals (try simp only [FX] at *)
   all_goals first | omega | skip
   refine go _ _ ?_ rfl
   simp (disch := omega) only [go_sem, simprocAttr, Sl, ht, and_self, ab0]
  | false =>
   simp only [Bool.false_eq_true, if_false, List.append_nil] at go
   repeat' first | (simp (disch := first | omega | assumption) only [go_sem, simprocAttr, *]) | refine aa0 (fun hb=>?_) fun hb=>?_ | refine aa1 (fun hb=>?_) fun hb=>?_
   all_goals (try simp only [FX] at *)
   all_goals first | omega | skip
   refine go _ _ ?_ rfl
   simp (disch := omega) only [go_sem, simprocAttr, Sl, ht, and_self, ab0]
 ·have hie : i = q.length := by omega
  subst hie
  rw [List.take_length] at ht ⊢
  clear hK
  have hfz := fun (c : EB) => ej6 (P := H ++ [some c]) (L := H.length) (D := H.length + 1) (by simp) (by omega) (posL 0 q)
  simp only [List.append_assoc, List.cons_append, List.nil_append] at hfz
  generalize posL 0 q = out at ht hfz ⊢
  obtain ⟨oo, oc⟩ := bw9 (H.length + 1) out
  unfold EV.one at oo
  unfold EV.cells at oc
  repeat' first | (simp (disch := first | omega | assumption) only [go_sem, simprocAttr, *]) | refine aa0 (fun hb=>?_) fun hb=>?_ | refine aa1 (fun hb=>?_) fun hb=>?_
  all_goals (try simp only [FX] at *)
  all_goals first | omega | skip
  exact be4 (by unfold outX; split <;> rfl) (hfz _) rfl
theorem cd5 (x y : EV) (la lb : List Int) (hx : an2 x la) (hy : an2 y lb) (hl : la.length ≤ 1000000) (hl2 : lb.length ≤ 1000000) (H : Heap) :
  den E R.aj0 [x, y] H = some (.ret (.bool (decide (la = lb))), H) := by
 have lx := hx.lenI
 have ly := hy.lenI
 obtain ⟨cx, ox⟩ := hx.one
 obtain ⟨cy, oy⟩ := hy.one
 generalize hr : decide (la = lb) = r
 refine ae7 R.ax1 (by simp) ?_
 unfold Gn.ap9 Gn.am1
 unfold EV.one at ox oy
 unfold EV.cells at cx cy
 by_cases hle : la.length = lb.length
 ·have he0 : ∀ n : Int, (n != n) = false := fun n => bne_self_eq_false n
  repeat' first | (simp (disch := first | omega | assumption) only [go_sem, simprocAttr, *]) | refine aa0 (fun hb=>?_) fun hb=>?_ | refine aa1 (fun hb=>?_) fun hb=>?_
  all_goals (try simp only [FX] at *)
  all_goals first | omega | skip
  refine af8 (ι := Nat) (fun i => i ≤ la.length ∧ la.take i = lb.take i) (fun i => la.length - i) (fun i => [(0, x), (1, y), (5, .int .i64 i)]) (fun _ => H) 0 ⟨by omega, by simp⟩ ?_ rfl ?_
  ·simp (disch := omega) only [go_sem, simprocAttr, Sl]
  rintro i t ⟨hil, hn⟩ ht K hK
  simp (disch := omega) only [go_sem, simprocAttr, Sl] at ht
  by_cases hlt : i < la.length
  ·obtain ⟨v, hv⟩ := ab2 hlt
   obtain ⟨u, hu⟩ := ab2 (l := lb) (i := i) (by omega)
   have hat := hx.at hv
   have hbt := hy.at hu
   by_cases e : v = u
   ·subst e
    have go := fun s' H' => hK (i + 1) s' H' ⟨by omega, by rw [List.take_add_one, List.take_add_one, hn, hv, hu]⟩ (by omega)
    clear hK hn
    repeat' first | (simp (disch := first | omega | assumption) only [go_sem, simprocAttr, *]) | refine aa0 (fun hb=>?_) fun hb=>?_ | refine aa1 (fun hb=>?_) fun hb=>?_
    all_goals (try simp only [FX] at *)
    all_goals first | omega | skip
    all_goals first | exact absurd trivial ‹¬True› | skip
    all_goals refine go _ _ ?_ rfl
    all_goals simp (disch := omega) only [go_sem, simprocAttr, Sl, ht, and_self, ab0]
   ·have hrf : r = false := by
     rw [← hr]
     refine decide_eq_false fun h => ?_
     subst h
     rw [hv] at hu
     simp only [Option.some.injEq] at hu
     exact e hu
    rw [hrf]
    have he : (v != u) = true := by simpa using e
    clear hK hn hr
    repeat' first | (simp (disch := first | omega | assumption) only [go_sem, simprocAttr, *]) | refine aa0 (fun hb=>?_) fun hb=>?_ | refine aa1 (fun hb=>?_) fun hb=>?_
    all_goals (try simp only [FX] at *)
    all_goals first | omega | skip
    exact ac8 rfl rfl
  ·have hie : i = la.length := by omega
   subst hie
   rw [List.take_length, hle, List.take_length] at hn
   have hrt : r = true := by rw [← hr]; exact decide_eq_true hn
   rw [hrt]
   clear hK hn hr
   repeat' first | (simp (disch := first | omega | assumption) only [go_sem, simprocAttr, *]) | refine aa0 (fun hb=>?_) fun hb=>?_ | refine aa1 (fun hb=>?_) fun hb=>?_
   all_goals (try simp only [FX] at *)
   all_goals first | omega | skip
   exact ac8 rfl rfl
 ·have hrf : r = false := by
   rw [← hr]
   refine decide_eq_false fun h => ?_
   subst h
   exact hle rfl
  rw [hrf]
  have hne : ((la.length : Int) != (lb.length : Int)) = true := by
   simp
   omega
  clear hr
  repeat' first | (simp (disch := first | omega | assumption) only [go_sem, simprocAttr, *]) | refine aa0 (fun hb=>?_) fun hb=>?_ | refine aa1 (fun hb=>?_) fun hb=>?_
  all_goals (try simp only [FX] at *)
  all_goals first | omega | skip
  exact ac8 rfl rfl
end
end Abs
