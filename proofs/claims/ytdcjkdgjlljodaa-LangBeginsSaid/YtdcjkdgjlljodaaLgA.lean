/- A part. -/
import Derived.Test.YtdcjkdgjlljodaaTrD
set_option linter.all false
namespace Abs
open Go
set_option maxRecDepth 20000
section
variable {E : Env} [R : SlcR E]
theorem dh7 (f : EV) (p : Int → Bool) (b : Nat) (l : List Int) (H : Heap) (hb : H[b]? = some (some (.row 1 (aa9 l)))) (hf : es8 E f p l H) (hl : l.length ≤ 9223372036854775806) :
  den E R.ac1 [.own b 1 0 l.length, f] H = some (.ret (.int .i64 (idxI p l 0)), H) := by
 refine ag1 R.ah8 (by simp) ?_
 unfold Gn.ae3 Gn.ad7
 simp (disch := omega) only [go_sem, simprocAttr, *]
 refine al1 (ι := Nat) (fun i => i ≤ l.length ∧ idxI p l 0 = idxI p (l.drop i) i) (fun i => l.length - i) (fun i => [(0, .own b 1 0 l.length), (1, f), (7, .int .i64 l.length), (8, .int .i64 i)]) (fun _ => H) 0 ⟨by omega, rfl⟩ ?_ rfl ?_
 ·simp (disch := omega) only [go_sem, simprocAttr, Sl]
 ·rintro i t ⟨hi, hr⟩ ht K hK
  simp (disch := omega) only [go_sem, simprocAttr, Sl] at ht
  by_cases hlt : i < l.length
  ·obtain ⟨v, hv⟩ := ac0 hlt
   have hg := aw9 hv
   have hc := hf v (List.mem_of_getElem? hv)
   have hlen := ab4 l
   rw [by0 hv] at hr
   simp only [idxI] at hr
   have go : p v = false → _ := fun h s' H' => hK (i + 1) s' H' ⟨by omega, by rw [hr, if_neg (by simp [h])]; rfl⟩ (by omega)
   cases hp : p v with
   | true =>
    rw [hp] at hc hr
    rw [if_pos rfl] at hr
    rw [hr]
    clear go hK hf hr
    repeat' first | (simp (disch := first | omega | assumption) only [go_sem, simprocAttr, *]) | refine aa0 (fun hb=>?_) fun hb=>?_ | refine aa1 (fun hb=>?_) fun hb=>?_
    all_goals (try simp only [FX] at *)
    all_goals first | omega | exact ac5 rfl rfl
   | false =>
    rw [hp] at hc
    replace go := go hp
    clear hK hf hr
    repeat' first | (simp (disch := first | omega | assumption) only [go_sem, simprocAttr, *]) | refine aa0 (fun hb=>?_) fun hb=>?_ | refine aa1 (fun hb=>?_) fun hb=>?_
    all_goals (try simp only [FX] at *)
    all_goals first
     | omega
     | (refine go _ _ ?_ rfl; simp (disch := omega) only [go_sem, simprocAttr, Sl, ht, and_self, ad6])
  ·have : i = l.length := by omega
   subst this
   have he : idxI p l 0 = -1 := by rw [hr]; simp [idxI]
   rw [he]
   clear hK hf hr
   repeat' first | (simp (disch := first | omega | assumption) only [go_sem, simprocAttr, *]) | refine aa0 (fun hb=>?_) fun hb=>?_ | refine aa1 (fun hb=>?_) fun hb=>?_
   all_goals (try simp only [FX] at *)
   all_goals first | omega | exact ac5 rfl rfl
theorem cy4 (f : EV) (p : Int → Bool) (b : Nat) (l : List Int) (H : Heap) (hb : H[b]? = some (some (.row 1 (aa9 l)))) (hf : ∀ r, es8 E f p l (H.set b (some (.row 1 r)))) (hl : l.length ≤ 9223372036854775806) :
  den E R.ad2 [.own b 1 0 l.length, f] H = some (.ret (.own b 1 0 (l.filter fun v => !p v).length), H.set b (some (.row 1 (aa9 (if idxI p l 0 = -1 then l else rowD (fun v => !p v) l))))) := by
 have hbl := (List.getElem?_eq_some_iff.1 hb).1
 have hself : H.set b (some (.row 1 (aa9 l))) = H := by
  apply List.ext_getElem?
  intro k
  by_cases hk : b = k
  ·subst hk; rw [List.getElem?_set_self hbl, hb]
  ·rw [List.getElem?_set_ne hk]
 have hf0 : es8 E f p l H := by have := hf (aa9 l); rwa [hself] at this
 have hx := dh7 (E := E) f p b l H hb hf0 hl
 refine ag1 R.ah1 (by simp) ?_
 unfold Gn.ae1 Gn.ad0
 by_cases hi : idxI p l 0 = -1
 ·rw [if_pos hi, hself, (bs2 (p := p) (l := l) (i := 0)).1 ⟨hi, by omega⟩]
  rw [hi] at hx
  clear hf hf0
  repeat' first | (simp (disch := first | omega | assumption) only [go_sem, simprocAttr, *]) | refine aa0 (fun hb=>?_) fun hb=>?_ | refine aa1 (fun hb=>?_) fun hb=>?_
  exact ac5 (by simp [EV.ok]; exact hbl) rfl
 ·rw [if_neg hi]
  obtain ⟨k, hk, hik, htk⟩ := (bs2 (p := p) (l := l) (i := 0)).2 (by omega) hi
  rw [hik] at hx
  have hx' : den E R.ac1 [.own b 1 0 l.length, f] H = some (.ret (.int .i64 k), H) := by rw [hx]; simp
  clear hx
  let q : Int → Bool := fun v => !p v
  let hp : Nat → Heap := fun j => H.set b (some (.row 1 (aa9 (rowK q l j))))
  have hrow0 : hp (k + 1) = H := by
   have : rowK q l (k + 1) = l := by
    unfold rowK
    rw [show (l.take (k + 1)).filter q = l.take k from htk]
    simp [Nat.min_eq_left (Nat.le_of_lt hk)]
   show H.set b (some (.row 1 (aa9 (rowK q l (k + 1))))) = H
   rw [this]; exact hself
  have hkn : ((k : Int) == -1) = false := by rw [beq_eq_false_iff_ne]; omega
  simp (disch := omega) only [go_sem, simprocAttr, hx', hkn]
  refine al1 (ι := Nat) (fun j => k + 1 ≤ j ∧ j ≤ l.length) (fun j => l.length - j) (fun j => [(0, .own b 1 0 l.length), (1, f), (5, .int .i64 ((l.take j).filter q).length), (6, .int .i64 j)]) hp (k + 1) ⟨by omega, by omega⟩ ?_ hrow0.symm ?_
  ·have hk0 : ((l.take (k + 1)).filter q).length = k := by rw [show (l.take (k + 1)).filter q = l.take k from htk]; simp; omega
   simp (disch := omega) only [go_sem, simprocAttr, Sl, hk0, ad6]
  ·rintro j t ⟨hj1, hj2⟩ ht K hK
   simp (disch := omega) only [go_sem, simprocAttr, Sl] at ht
   have hle := cj7 (q := q) hj2
   have hlen : (aa9 (rowK q l j)).length = l.length := by rw [ab4, da6 hj2]
   have hgb : (H.set b (some (EB.row 1 (aa9 (rowK q l j)))))[b]? = some (some (.row 1 (aa9 (rowK q l j)))) := List.getElem?_set_self hbl
   by_cases hlt : j < l.length
   ·obtain ⟨v, hv⟩ := ac0 hlt
    have hg := aw9 (ed1 (q := q) hv)
    have hc := hf (aa9 (rowK q l j)) v (List.mem_of_getElem? hv)
    clear hf hf0 hx'
    cases hpv : p v with
    | true =>
     have hqv : q v = false := by simp [q, hpv]
     have hs := bs6 (q := q) hv
     rw [hqv] at hs
     simp only [Bool.false_eq_true, if_false, List.append_nil] at hs
     have hk' := hK (j + 1)
     rw [hs, show hp (j + 1) = hp j by show H.set b _ = H.set b _; rw [do0 hv hqv]] at hk'
     rw [hpv] at hc
     clear hs hqv hpv
     show @Hd E ⟨_⟩ ⟨_⟩ ⟨H.set b (some (.row 1 (aa9 (rowK q l j))))⟩ ⟨_⟩
     repeat' first | (simp (disch := first | omega | assumption) only [go_sem, simprocAttr, *]) | refine aa0 (fun hb=>?_) fun hb=>?_ | refine aa1 (fun hb=>?_) fun hb=>?_
     all_goals (try simp only [FX] at *)
     all_goals first
      | omega
      | skip
     refine hk' _ _ ⟨by omega, by omega⟩ (by omega) ?_ rfl
     simp (disch := omega) only [go_sem, simprocAttr, Sl, ht, and_self, ad6]
    | false =>
     have hqv : q v = true := by simp [q, hpv]
     have hs := bs6 (q := q) hv
     rw [hqv] at hs
     simp only [if_true] at hs
     have hlt2 : ((l.take j).filter q).length < (rowK q l j).length := by rw [da6 hj2]; omega
     obtain ⟨w, hw⟩ := ac0 hlt2
     have hgw := aw9 hw
     have hst : (aa9 (rowK q l j)).set ((l.take j).filter q).length (.int .i64 v) = aa9 (rowK q l (j + 1)) := by
      rw [← dn9 hv hqv]
      unfold aa9
      rw [List.map_set]
     have hk' := hK (j + 1)
     rw [hs] at hk'
     simp only [List.length_append, List.length_cons, List.length_nil, Nat.zero_add] at hk'
     have hss : ∀ x y : Option EB, (H.set b x).set b y = H.set b y := fun x y => List.set_set ..
     rw [hpv] at hc
     clear hs hqv hpv
     show @Hd E ⟨_⟩ ⟨_⟩ ⟨H.set b (some (.row 1 (aa9 (rowK q l j))))⟩ ⟨_⟩
     repeat' first | (simp (disch := first | omega | assumption) only [go_sem, simprocAttr, *]) | refine aa0 (fun hb=>?_) fun hb=>?_ | refine aa1 (fun hb=>?_) fun hb=>?_
     all_goals (try simp only [FX] at *)
     all_goals first
      | omega
      | skip
     refine hk' _ _ ⟨by omega, by omega⟩ (by omega) ?_ rfl
     simp (disch := omega) only [go_sem, simprocAttr, Sl, ht, and_self, ad6]
   ·have hjl : j = l.length := by omega
    subst hjl
    have htl : (l.take l.length).filter q = l.filter q := by rw [List.take_length]
    rw [htl] at ht hle
    have hrd : (aa9 (rowK q l l.length)).take (l.filter q).length ++ List.replicate (l.length - (l.filter q).length) (EV.int .i64 0) ++ (aa9 (rowK q l l.length)).drop ((l.filter q).length + (l.length - (l.filter q).length)) = aa9 (rowD q l) := by
     unfold rowK rowD
     rw [htl, bs1, bs1, dt4]
     rw [List.take_append_of_le_length (by rw [ab4]; exact Nat.le_refl _), List.take_of_length_le (by rw [ab4]; exact Nat.le_refl _)]
     rw [List.drop_of_length_le (by rw [List.length_append, ab4, ab4, List.length_drop]; omega), List.append_nil]
    have hss : ∀ x y : Option EB, (H.set b x).set b y = H.set b y := fun x y => List.set_set ..
    have hcl : bp3 1 (.int .i64 0) (.own b 1 (l.filter q).length (l.length - (l.filter q).length)) (H.set b (some (EB.row 1 (aa9 (rowK q l l.length))))) = some (H.set b (some (.row 1 (aa9 (if (l.length - (l.filter q).length) = 0 then rowK q l l.length else rowD q l))))) := by
     unfold bp3
     by_cases hz : l.length - (l.filter q).length = 0
     ·simp only [if_pos hz]
     ·simp only [if_neg hz, hgb]
      rw [if_pos ⟨trivial, trivial, by rw [hlen]; omega⟩, hrd, hss]
    have hsame : (if (l.length - (l.filter q).length) = 0 then rowK q l l.length else rowD q l) = rowD q l := by
     split
     ·rename_i hz
      unfold rowK rowD
      rw [htl, hz]
      simp only [List.replicate_zero, List.append_nil]
      rw [List.drop_of_length_le (by omega), List.append_nil]
     ·rfl
    rw [hsame] at hcl
    have hfin : ∀ v, v.ok H.length = true → finV H v ER.ret (H.set b (some (.row 1 (aa9 (rowD q l))))) = some (.ret v, H.set b (some (.row 1 (aa9 (rowD q l))))) := fun v hv => by
     exact cp7 hv (by simp) rfl
    clear hf hf0 hx' hK hsame hrd hgb
    show @Hd E ⟨_⟩ ⟨_⟩ ⟨H.set b (some (.row 1 (aa9 (rowK q l l.length))))⟩ ⟨_⟩
    repeat' first | (simp (disch := first | omega | assumption) only [go_sem, simprocAttr, *]) | refine aa0 (fun hb=>?_) fun hb=>?_ | refine aa1 (fun hb=>?_) fun hb=>?_
    all_goals (try simp only [FX] at *)
    all_goals first
     | omega
     | exact hfin _ (by simp [EV.ok]; exact hbl)
theorem ch1 (x : EV) (l : List Int) (H : Heap) (hx : ArgI H x l) (hl : l.length ≤ 1000000) : (l = [] ∧ ∃ y, den E R.ac9 [x] H = some (.ret y, H) ∧ (y = .nilsl ∨ y = .zsl)) ∨ (l ≠ [] ∧ den E R.ac9 [x] H = some (.ret (.own H.length 1 0 l.length), H ++ [some (.row 1 (aa9 l))])) := by
 have hels := hx.els
 have hall : (aa9 l).all (fun e => e.cells.length == 1 && e.cells.all EV.one) = true := by
  rw [List.all_eq_true]
  intro e he
  obtain ⟨v, _, rfl⟩ := List.mem_map.1 he
  rfl
 rcases hx with ⟨rfl, this⟩ | ⟨rfl, this⟩ | ⟨s, rfl⟩ | ⟨b, rfl, hb⟩
 ·refine .inl ⟨this, .nilsl, ?_, .inl rfl⟩
  refine az0 R.ab3 (by simp) ?_
  unfold Gn.ab2 Gn.aa7
  repeat' first | (simp (disch := first | omega | assumption) only [go_sem, simprocAttr, *]) | refine aa0 (fun hb=>?_) fun hb=>?_ | refine aa1 (fun hb=>?_) fun hb=>?_
 ·refine .inl ⟨this, .zsl, ?_, .inr rfl⟩
  have hap : ab7 1 8 .zsl .zsl H = some (.zsl, H) := by unfold ab7; rw [hels, this]; simp [aa9]
  refine az0 R.ab3 (by simp) ?_
  unfold Gn.ab2 Gn.aa7
  repeat' first | (simp (disch := first | omega | assumption) only [go_sem, simprocAttr, *]) | refine aa0 (fun hb=>?_) fun hb=>?_ | refine aa1 (fun hb=>?_) fun hb=>?_
 ·cases hl0 : l with
  | nil =>
   subst hl0
   refine .inl ⟨rfl, .zsl, ?_, .inr rfl⟩
   have hap : ab7 1 8 .zsl (.imm s (aa9 [])) H = some (.zsl, H) := by unfold ab7; rw [hels]; simp [aa9]
   refine az0 R.ab3 (by simp) ?_
   unfold Gn.ab2 Gn.aa7
   repeat' first | (simp (disch := first | omega | assumption) only [go_sem, simprocAttr, *]) | refine aa0 (fun hb=>?_) fun hb=>?_ | refine aa1 (fun hb=>?_) fun hb=>?_
  | cons v r =>
   refine .inr ⟨by simp, ?_⟩
   rw [← hl0]
   have hne : ¬ (aa9 l).length = 0 := by rw [ab4, hl0]; simp
   have hap : ab7 1 8 .zsl (.imm s (aa9 l)) H = some (.own H.length 1 0 l.length, H ++ [some (.row 1 (aa9 l))]) := by
    unfold ab7
    rw [hels]
    simp only [hall, and_true]
    rw [if_pos (by omega), if_neg hne, ab4, if_pos ⟨by omega, by omega⟩]
   clear hl0 hne
   refine az0 R.ab3 (by simp) ?_
   unfold Gn.ab2 Gn.aa7
   repeat' first | (simp (disch := first | omega | assumption) only [go_sem, simprocAttr, *]) | refine aa0 (fun hb=>?_) fun hb=>?_ | refine aa1 (fun hb=>?_) fun hb=>?_
 ·cases hl0 : l with
  | nil =>
   subst hl0
   refine .inl ⟨rfl, .zsl, ?_, .inr rfl⟩
   have hap : ab7 1 8 .zsl (.own b 1 0 0) H = some (.zsl, H) := by unfold ab7; rw [show bi7 H (.own b 1 0 0) = some (aa9 []) from hels]; simp [aa9]
   refine az0 R.ab3 (by simp) ?_
   unfold Gn.ab2 Gn.aa7
   repeat' first | (simp (disch := first | omega | assumption) only [go_sem, simprocAttr, *]) | refine aa0 (fun hb=>?_) fun hb=>?_ | refine aa1 (fun hb=>?_) fun hb=>?_
  | cons v r =>
   refine .inr ⟨by simp, ?_⟩
   rw [← hl0]
   have hne : ¬ (aa9 l).length = 0 := by rw [ab4, hl0]; simp
   have hap : ab7 1 8 .zsl (.own b 1 0 l.length) H = some (.own H.length 1 0 l.length, H ++ [some (.row 1 (aa9 l))]) := by
    unfold ab7
    rw [hels]
    simp only [hall, and_true]
    rw [if_pos (by omega), if_neg hne, ab4, if_pos ⟨by omega, by omega⟩]
   clear hl0 hne
   refine az0 R.ab3 (by simp) ?_
   unfold Gn.ab2 Gn.aa7
   repeat' first | (simp (disch := first | omega | assumption) only [go_sem, simprocAttr, *]) | refine aa0 (fun hb=>?_) fun hb=>?_ | refine aa1 (fun hb=>?_) fun hb=>?_
theorem dj9 (x : EV) (hx : am9 x []) : ∃ y, (∀ H, den E R.ac9 [x] H = some (.ret y, H)) ∧ (y = .nilsl ∨ y = .zsl) := by
 rcases hx.shape with ⟨rfl, _⟩ | ⟨rfl, _⟩ | ⟨s, rfl⟩
 ·refine ⟨.nilsl, fun H => ?_, .inl rfl⟩
  refine az0 R.ab3 (by simp) ?_
  unfold Gn.ab2 Gn.aa7
  repeat' first | (simp (disch := first | omega | assumption) only [go_sem, simprocAttr, *]) | refine aa0 (fun hb=>?_) fun hb=>?_ | refine aa1 (fun hb=>?_) fun hb=>?_
 ·refine ⟨.zsl, fun H => ?_, .inr rfl⟩
  have hap : ab7 1 8 .zsl .zsl H = some (.zsl, H) := by unfold ab7; rw [hx.els]; simp [aa9]
  refine az0 R.ab3 (by simp) ?_
  unfold Gn.ab2 Gn.aa7
  repeat' first | (simp (disch := first | omega | assumption) only [go_sem, simprocAttr, *]) | refine aa0 (fun hb=>?_) fun hb=>?_ | refine aa1 (fun hb=>?_) fun hb=>?_
 ·refine ⟨.zsl, fun H => ?_, .inr rfl⟩
  have hap : ab7 1 8 .zsl (.imm s (aa9 [])) H = some (.zsl, H) := by unfold ab7; rw [hx.els]; simp [aa9]
  refine az0 R.ab3 (by simp) ?_
  unfold Gn.ab2 Gn.aa7
  repeat' first | (simp (disch := first | omega | assumption) only [go_sem, simprocAttr, *]) | refine aa0 (fun hb=>?_) fun hb=>?_ | refine aa1 (fun hb=>?_) fun hb=>?_
theorem cy3 (y : EV) (hy : y = .nilsl ∨ y = .zsl) (f : EV) (H : Heap) : den E R.ad2 [y, f] H = some (.ret y, H) := by
 have h1 : den E R.ac1 [y, f] H = some (.ret (.int .i64 (-1)), H) := by
  refine ag1 R.ah8 (by simp) ?_
  unfold Gn.ae3 Gn.ad7
  rcases hy with rfl | rfl
  ·simp (disch := omega) only [go_sem, simprocAttr]
   refine ar1 ?_
   repeat' first | (simp (disch := first | omega | assumption) only [go_sem, simprocAttr, *]) | refine aa0 (fun hb=>?_) fun hb=>?_ | refine aa1 (fun hb=>?_) fun hb=>?_
   exact ac5 rfl rfl
  ·simp (disch := omega) only [go_sem, simprocAttr]
   refine ar1 ?_
   repeat' first | (simp (disch := first | omega | assumption) only [go_sem, simprocAttr, *]) | refine aa0 (fun hb=>?_) fun hb=>?_ | refine aa1 (fun hb=>?_) fun hb=>?_
   exact ac5 rfl rfl
 refine ag1 R.ah1 (by simp) ?_
 unfold Gn.ae1 Gn.ad0
 rcases hy with rfl | rfl
 ·repeat' first | (simp (disch := first | omega | assumption) only [go_sem, simprocAttr, *]) | refine aa0 (fun hb=>?_) fun hb=>?_ | refine aa1 (fun hb=>?_) fun hb=>?_
  exact ac5 rfl rfl
 ·repeat' first | (simp (disch := first | omega | assumption) only [go_sem, simprocAttr, *]) | refine aa0 (fun hb=>?_) fun hb=>?_ | refine aa1 (fun hb=>?_) fun hb=>?_
  exact ac5 rfl rfl
theorem dt3 (v : Int) (H : Heap) : den E R.ar4 [.int .i64 v] H = some (.ret (.bool false), H) := by
 refine ag1 R.be5 (by simp) ?_
 unfold Gn.ax7 Gn.ar6
 repeat' first | (simp (disch := first | omega | assumption) only [go_sem, simprocAttr, *]) | refine aa0 (fun hb=>?_) fun hb=>?_ | refine aa1 (fun hb=>?_) fun hb=>?_
 all_goals (try simp only [FX] at *)
 exact ac5 rfl (by rw [bne_self_eq_false])
theorem dh6 (v : Int) (H : Heap) : den E R.al4 [.int .i64 v] H = some (.ret (.bool false), H) := by
 refine ag1 R.ax2 (by simp) ?_
 unfold Gn.ap0 Gn.al2
 repeat' first | (simp (disch := first | omega | assumption) only [go_sem, simprocAttr, *]) | refine aa0 (fun hb=>?_) fun hb=>?_ | refine aa1 (fun hb=>?_) fun hb=>?_
 all_goals (try simp only [FX] at *)
 exact ac5 rfl (by rw [bne_self_eq_false])
theorem ds5 (v u : Int) (H : Heap) : den E R.at3 [.int .i64 v, .int .i64 u] H = some (.ret (.bool (decide (v < u))), H) := by
 have h := fun H => dt3 (E := E) v H
 refine ag1 R.bg8 (by simp) ?_
 unfold Gn.ba6 Gn.at9
 repeat' first | (simp (disch := first | omega | assumption) only [go_sem, simprocAttr, *]) | refine aa0 (fun hb=>?_) fun hb=>?_ | refine aa1 (fun hb=>?_) fun hb=>?_
 all_goals (try simp only [FX] at *)
 exact ac5 rfl rfl
end
def posL : Nat → List Bool → List Int
 | _, [] => []
 | k, b :: a => if b = true then (k : Int) :: posL (k + 1) a else posL (k + 1) a
theorem al3 : ∀ {a : List Bool} {k : Nat} {v : Int}, v ∈ posL k a ↔ ∃ i : Nat, a.getD i false = true ∧ v = k + i
 | [], k, v => by simp [posL]
 | b :: a, k, v => by
  have ih := al3 (a := a) (k := k + 1) (v := v)
  have key : (∃ i : Nat, (b :: a).getD i false = true ∧ v = k + i) ↔ (b = true ∧ v = k) ∨ ∃ i : Nat, a.getD i false = true ∧ v = ((k + 1 : Nat) : Int) + i := by
   constructor
   ·rintro ⟨i, h1, h2⟩
    cases i with
    | zero => exact .inl ⟨by simpa using h1, by simpa using h2⟩
    | succ i => exact .inr ⟨i, by simpa using h1, by omega⟩
   ·rintro (⟨h1, h2⟩ | ⟨i, h1, h2⟩)
    ·exact ⟨0, by simpa using h1, by simpa using h2⟩
    ·exact ⟨i + 1, by simpa using h1, by omega⟩
  rw [key, ← ih]
  simp only [posL]
  cases b <;> simp
theorem eo0 {a : List Bool} {k : Nat} {v : Int} (h : v ∈ posL k a) : (k : Int) ≤ v := by
 obtain ⟨i, _, h2⟩ := al3.1 h
 omega
theorem aw6 : ∀ (a : List Bool) (k : Nat), (posL k a).Pairwise (· < ·)
 | [], _ => by simp [posL]
 | b :: a, k => by
  have ih := aw6 a (k + 1)
  unfold posL
  split
  ·refine List.pairwise_cons.2 ⟨fun v hv => ?_, ih⟩
   have := eo0 hv
   omega
  ·exact ih
theorem au1 : ∀ (a : List Bool) (k : Nat), (posL k a).length = cntT a
 | [], _ => rfl
 | b :: a, k => by
  have ih := au1 a (k + 1)
  unfold cntT at ih ⊢
  unfold posL
  rw [List.countP_cons]
  cases b <;> simp [ih]
theorem bz9 {a : List Bool} {v : Int} (h : v ∈ posL 0 a) : 0 ≤ v ∧ v < a.length ∧ a.getD v.toNat false = true := by
 obtain ⟨i, h1, h2⟩ := al3.1 h
 have e : v.toNat = i := by omega
 rw [e]
 refine ⟨by omega, ?_, h1⟩
 by_cases hi : i < a.length
 ·omega
 ·rw [List.getD_eq_getElem?_getD, List.getElem?_eq_none (by omega)] at h1
  simp at h1
theorem ca0 (n k : Nat) : posL k (af4 n) = [] := by
 refine List.eq_nil_iff_forall_not_mem.2 fun v hv => ?_
 obtain ⟨i, h1, _⟩ := al3.1 hv
 rw [ad8] at h1
 simp at h1
theorem dp5 (n p : Nat) (hp : p ≤ n) : posL 0 (atL n p) = [(p : Int)] := by
 have h1 := aw6 (atL n p) 0
 have h2 : ∀ v, v ∈ posL 0 (atL n p) ↔ v = (p : Int) := fun v => by
  rw [al3]
  constructor
  ·rintro ⟨i, h, e⟩
   rw [cd2 hp] at h
   simp only [decide_eq_true_eq] at h
   omega
  ·intro e
   exact ⟨p, by rw [cd2 hp]; simp, by omega⟩
 match hl : posL 0 (atL n p), h1, h2 with
 | [], _, h2 => exact absurd ((h2 p).2 rfl) (by simp)
 | [v], _, h2 => rw [(h2 v).1 (by simp)]
 | v :: u :: l, h1, h2 =>
  have e1 := (h2 v).1 (by simp)
  have e2 := (h2 u).1 (by simp)
  have := (List.pairwise_cons.1 h1).1 u (by simp)
  omega
theorem ci6 : ∀ {a b : List Int}, a.Pairwise (· < ·) → b.Pairwise (· < ·) → (∀ v, v ∈ a ↔ v ∈ b) → a = b
 | [], [], _, _, _ => rfl
 | [], y :: b, _, _, h => absurd ((h y).2 (by simp)) (by simp)
 | x :: a, [], _, _, h => absurd ((h x).1 (by simp)) (by simp)
 | x :: a, y :: b, ha, hb, h => by
  obtain ⟨a1, a2⟩ := List.pairwise_cons.1 ha
  obtain ⟨b1, b2⟩ := List.pairwise_cons.1 hb
  have e : x = y := by
   have h1 := (h x).1 (by simp)
   have h2 := (h y).2 (by simp)
   simp only [List.mem_cons] at h1 h2
   rcases h1 with h1 | h1
   ·exact h1
   ·rcases h2 with h2 | h2
    ·exact h2.symm
    ·have := b1 x h1
     have := a1 y h2
     omega
  subst e
  congr 1
  refine ci6 a2 b2 fun v => ?_
  have := h v
  simp only [List.mem_cons] at this
  constructor
  ·intro hv
   have h1 := a1 v hv
   rcases this.1 (.inr hv) with h2 | h2
   ·omega
   ·exact h2
  ·intro hv
   have h1 := b1 v hv
   rcases this.2 (.inr hv) with h2 | h2
   ·omega
   ·exact h2
def cmpF (p : Int) : List Int → List Int
 | [] => []
 | y :: l => if y = p then cmpF p l else y :: cmpF y l
def comp : List Int → List Int
 | [] => []
 | x :: l => x :: cmpF x l
theorem cc6 : ∀ (l : List Int) (p u v : Int), (p :: l).getLast? = some u → cmpF p (l ++ [v]) = cmpF p l ++ (if v = u then [] else [v])
 | [], p, u, v, h => by
  simp only [List.getLast?_singleton, Option.some.injEq] at h
  subst h
  simp only [List.nil_append, cmpF]
 | y :: l, p, u, v, h => by
  have h' : (y :: l).getLast? = some u := by simpa using h
  simp only [List.cons_append, cmpF]
  split
  ·rename_i e
   subst e
   exact cc6 l y u v h'
  ·rw [cc6 l y u v h', List.cons_append]
theorem cc5 {l : List Int} {j : Nat} {u v : Int} (hu : l[j]? = some u) (hv : l[j + 1]? = some v) : comp (l.take (j + 2)) = comp (l.take (j + 1)) ++ (if v = u then [] else [v]) := by
 have e : l.take (j + 2) = l.take (j + 1) ++ [v] := by rw [List.take_add_one, hv]; rfl
 have g : (l.take (j + 1)).getLast? = some u := by rw [List.take_add_one, hu]; simp
 rw [e]
 cases hl : l.take (j + 1) with
 | nil => rw [hl] at g; simp at g
 | cons x r =>
  rw [hl] at g
  simp only [List.cons_append, comp]
  rw [cc6 r x u v g]
theorem cy8 (p : Int) : ∀ l, (cmpF p l).length ≤ l.length
 | [] => Nat.le_refl _
 | y :: l => by
  simp only [cmpF]
  split
  ·have := cy8 p l; simp; omega
  ·have := cy8 y l; simp; omega
theorem dy3 : ∀ l, (comp l).length ≤ l.length
 | [] => Nat.le_refl _
 | x :: l => by have := cy8 x l; simp [comp]; omega
theorem cc7 : ∀ (l : List Int) (p : Int), (p :: l).Pairwise (· ≤ ·) → (p :: cmpF p l).Pairwise (· < ·) ∧ ∀ v, v ∈ p :: cmpF p l ↔ v ∈ p :: l
 | [], p, _ => ⟨by simp [cmpF], fun v => by simp [cmpF]⟩
 | y :: l, p, h => by
  obtain ⟨h1, h2⟩ := List.pairwise_cons.1 h
  simp only [cmpF]
  split
  ·rename_i e
   subst e
   obtain ⟨i1, i2⟩ := cc7 l y h2
   exact ⟨i1, fun v => by rw [i2 v]; simp⟩
  ·rename_i e
   obtain ⟨i1, i2⟩ := cc7 l y h2
   refine ⟨List.pairwise_cons.2 ⟨fun v hv => ?_, i1⟩, fun v => by rw [List.mem_cons, i2 v, List.mem_cons (l := y :: l)]⟩
   have hy := h1 y (by simp)
   rcases List.mem_cons.1 hv with rfl | hv'
   ·omega
   ·have := (List.pairwise_cons.1 i1).1 v hv'
    omega
theorem dy2 {l : List Int} (h : l.Pairwise (· ≤ ·)) : (comp l).Pairwise (· < ·) ∧ ∀ v, v ∈ comp l ↔ v ∈ l := by
 cases l with
 | nil => exact ⟨by simp [comp], fun v => by simp [comp]⟩
 | cons x l => exact cc7 l x h
def srt (l : List Int) : List Int := l.mergeSort fun x y => decide (x ≤ y)
theorem dn0 (l : List Int) : (srt l).length = l.length := by simp [srt]
theorem ec6 (l : List Int) : (srt l).Pairwise (· ≤ ·) := by
 have := List.pairwise_mergeSort (le := fun x y : Int => decide (x ≤ y)) (by intro a b c; simp only [decide_eq_true_eq]; omega) (by intro a b; simp only [Bool.or_eq_true, decide_eq_true_eq]; omega) l
 simpa [srt] using this
theorem em7 (l : List Int) (v : Int) : v ∈ srt l ↔ v ∈ l := by simp [srt]
theorem ds0 {a b : List Bool} (h : a.length = b.length) : comp (srt (posL 0 a ++ posL 0 b)) = posL 0 (orL a b) := by
 obtain ⟨h1, h2⟩ := dy2 (ec6 (posL 0 a ++ posL 0 b))
 refine ci6 h1 (aw6 _ _) fun v => ?_
 rw [h2, em7, List.mem_append, al3, al3, al3]
 constructor
 ·rintro (⟨i, h3, h4⟩ | ⟨i, h3, h4⟩)
  ·exact ⟨i, by rw [ac8 h, h3]; rfl, h4⟩
  ·exact ⟨i, by rw [ac8 h, h3, Bool.or_true], h4⟩
 ·rintro ⟨i, h3, h4⟩
  rw [ac8 h, Bool.or_eq_true] at h3
  rcases h3 with h3 | h3
  ·exact .inl ⟨i, h3, h4⟩
  ·exact .inr ⟨i, h3, h4⟩
theorem ef9 {a b : List Bool} (h : a.length = b.length) : (posL 0 a).filter (fun v => !decide (v ∈ posL 0 b)) = posL 0 (av5 a b) := by
 refine ci6 ((aw6 _ _).filter _) (aw6 _ _) fun v => ?_
 rw [List.mem_filter, al3 (a := a), al3 (a := av5 a b)]
 constructor
 ·rintro ⟨⟨i, h3, h4⟩, h5⟩
  refine ⟨i, ?_, h4⟩
  rw [aw8 h, h3]
  cases hb : b.getD i false with
  | false => rfl
  | true => rw [decide_eq_true (al3.2 ⟨i, hb, h4⟩)] at h5; simp at h5
 ·rintro ⟨i, h3, h4⟩
  rw [aw8 h, Bool.and_eq_true] at h3
  refine ⟨⟨i, h3.1, h4⟩, ?_⟩
  rw [Bool.not_eq_true', decide_eq_false_iff_not]
  intro hv
  obtain ⟨j, h5, h6⟩ := al3.1 hv
  have : i = j := by omega
  subst this
  rw [h5] at h3
  simp at h3
def bg5 (w : Nat → Nat) (s : List UInt8) (p : Int) : Option Int := if p < s.length ∧ bd8 w (s.getD p.toNat 0).toNat = true then some (p + 1) else none
theorem ec2 (w : Nat → Nat) {s : List UInt8} {a : List Bool} (h : a.length = s.length + 1) : (posL 0 a).filterMap (bg5 w s) = posL 0 (bp7 w s a) := by
 refine ci6 ?_ (aw6 _ _) fun v => ?_
 ·refine List.Pairwise.filterMap (bg5 w s) ?_ (aw6 a 0)
  intro x y hxy x' hx y' hy
  unfold bg5 at hx hy
  split at hx <;> simp at hx
  split at hy <;> simp at hy
  omega
 ·rw [List.mem_filterMap, al3]
  constructor
  ·rintro ⟨p, hp, hs⟩
   obtain ⟨h0, h1, h2⟩ := bz9 hp
   unfold bg5 at hs
   split at hs <;> simp at hs
   rename_i hc
   obtain ⟨b, hb⟩ := ac0 (l := s) (i := p.toNat) (by omega)
   refine ⟨p.toNat + 1, ?_, by omega⟩
   rw [aq3 hb, h2]
   have := hc.2
   rw [List.getD_eq_getElem?_getD, hb] at this
   exact this
  ·rintro ⟨i, h1, h2⟩
   cases i with
   | zero => rw [bi9] at h1; simp at h1
   | succ i =>
    by_cases hi : i < s.length
    ·obtain ⟨b, hb⟩ := ac0 hi
     rw [aq3 hb, Bool.and_eq_true] at h1
     refine ⟨(i : Int), al3.2 ⟨i, h1.1, by omega⟩, ?_⟩
     unfold bg5
     rw [if_pos ⟨by omega, by rw [Int.toNat_natCast, List.getD_eq_getElem?_getD, hb]; exact h1.2⟩]
     exact congrArg some (by omega)
    ·rw [bj0 (by omega)] at h1; simp at h1
section
variable {E : Env} [R : SlcR E]
theorem cz5 (x : EV) (l : List Int) (hx : am9 x l) (hl : l.length ≤ 1000000) (hs : l.Pairwise (· < ·)) (v : Int) (H : Heap) :
  ∃ p : Int, den E R.ac3 [x, .int .i64 v] H = some (.ret (.tup [.int .i64 p, .bool (decide (v ∈ l))]), H) := by
 have lx := hx.lenI
 have ox := hx.one.2
 have hL := fun (u w : Int) H => ds5 (E := E) u w H
 have hN := fun (u : Int) H => dh6 (E := E) u H
 suffices h : ∃ r, den E R.ac3 [x, .int .i64 v] H = some r ∧ ∃ p : Int, r = (ER.ret (.tup [.int .i64 p, .bool (decide (v ∈ l))]), H) by
  obtain ⟨r, h1, p, rfl⟩ := h
  exact ⟨p, h1⟩
 refine cq7 R.aj1 (by simp) ?_
 unfold Gn.ae6 Gn.ad9
 unfold EV.one at ox
 simp (disch := omega) only [go_sem, simprocAttr, *]
 refine al1 (ι := Nat × Nat) (fun q => q.1 ≤ q.2 ∧ q.2 ≤ l.length ∧ (∀ (k : Nat) (u : Int), l[k]? = some u → k < q.1 → u < v) ∧ ∀ (k : Nat) (u : Int), l[k]? = some u → q.2 ≤ k → v ≤ u) (fun q => q.2 - q.1)
  (fun q => [(0, x), (1, .int .i64 v), (6, .int .i64 l.length), (7, .int .i64 q.1), (8, .int .i64 q.2)]) (fun _ => H) (0, l.length) ⟨by simp, by simp, fun k u _ h => by simp at h, fun k u h1 h2 => absurd (aa2 h1) (by simp at h2; omega)⟩ ?_ rfl ?_
 ·simp (disch := omega) only [go_sem, simprocAttr, Sl]
 rintro ⟨i, j⟩ t ⟨h1, h2, h3, h4⟩ ht K hK
 simp only at h1 h2 h3 h4 ht
 simp (disch := omega) only [go_sem, simprocAttr, Sl] at ht
 by_cases hlt : i < j
 ·obtain ⟨m, hm1, hm2, hsh⟩ : ∃ m : Nat, i ≤ m ∧ m < j ∧ ((i : Int) + j).fdiv (2 ^ min 1 64) = (m : Int) := by
   refine ⟨(i + j) / 2, by omega, by omega, ?_⟩
   show ((i : Int) + j).fdiv 2 = _
   rw [Int.fdiv_eq_ediv_of_nonneg _ (by omega)]
   omega
  obtain ⟨u, hu⟩ := ac0 (l := l) (i := m) (by omega)
  have hat := hx.at hu
  have ho : ∀ (k k' : Nat) (y z : Int), l[k]? = some y → l[k']? = some z → k < k' → y < z := fun k k' y z hy hz hk => by
   have := (List.pairwise_iff_getElem.1 hs) k k' (aa2 hy) (aa2 hz) hk
   rwa [(List.getElem?_eq_some_iff.1 hy).2, (List.getElem?_eq_some_iff.1 hz).2] at this
  by_cases hc : u < v
  ·have go := fun s' H' => hK (m + 1, j) s' H' ⟨by simp only; omega, h2, fun k w hw hk => by
    simp only at hk
    by_cases e : k = m
    ·subst e
     rw [hu] at hw
     simp only [Option.some.injEq] at hw
     omega
    ·have := ho k m w u hw hu (by omega)
     omega, h4⟩ (by simp only; omega)
   have hd : decide (u < v) = true := decide_eq_true hc
   clear hK h3 h4 hs ho
   repeat' first | (simp (disch := first | omega | assumption) only [go_sem, simprocAttr, *]) | refine aa0 (fun hb=>?_) fun hb=>?_ | refine aa1 (fun hb=>?_) fun hb=>?_
   all_goals (try simp only [FX] at *)
   all_goals first | omega | skip
   refine go _ _ ?_ rfl
   simp (disch := omega) only [go_sem, simprocAttr, Sl, ht, and_self, ad6]
  ·have go := fun s' H' => hK (i, m) s' H' ⟨by simp only; omega, by simp only; omega, h3, fun k w hw hk => by
    simp only at hk
    by_cases e : k = m
    ·subst e
     rw [hu] at hw
     simp only [Option.some.injEq] at hw
     omega
    ·have := ho m k u w hu hw (by omega)
     omega⟩ (by simp only; omega)
   have hd : decide (u < v) = false := decide_eq_false hc
   clear hK h3 h4 hs ho
   repeat' first | (simp (disch := first | omega | assumption) only [go_sem, simprocAttr, *]) | refine aa0 (fun hb=>?_) fun hb=>?_ | refine aa1 (fun hb=>?_) fun hb=>?_
   all_goals (try simp only [FX] at *)
   all_goals first | omega | skip
   refine go _ _ ?_ rfl
   simp (disch := omega) only [go_sem, simprocAttr, Sl, ht, and_self, ad6]
 ·have hij : i = j := by omega
  subst hij
  clear hK
  by_cases hin : i < l.length
  ·obtain ⟨u, hu⟩ := ac0 hin
   have hat := hx.at hu
   have hge := h4 i u hu (Nat.le_refl _)
   by_cases e : u = v
   ·subst e
    have hd : decide (u ∈ l) = true := decide_eq_true (List.mem_of_getElem? hu)
    rw [hd]
    clear h3 h4 hs
    repeat' first | (simp (disch := first | omega | assumption) only [go_sem, simprocAttr, *]) | refine aa0 (fun hb=>?_) fun hb=>?_ | refine aa1 (fun hb=>?_) fun hb=>?_
    all_goals (try simp only [FX] at *)
    all_goals first | omega | skip
    exact ⟨_, ac5 rfl rfl, _, rfl⟩
   ·have hd : decide (v ∈ l) = false := decide_eq_false fun hv => by
     obtain ⟨k, hk, hkv⟩ := List.mem_iff_getElem.1 hv
     by_cases c1 : k < i
     ·have := h3 k v (by rw [List.getElem?_eq_getElem hk, hkv]) c1
      omega
     ·by_cases c2 : k = i
      ·subst c2
       rw [List.getElem?_eq_getElem hk, hkv] at hu
       simp only [Option.some.injEq] at hu
       exact e hu.symm
      ·have := (List.pairwise_iff_getElem.1 hs) i k hin hk (by omega)
       rw [(List.getElem?_eq_some_iff.1 hu).2, hkv] at this
       omega
    have hue : (u == v) = false := beq_eq_false_iff_ne.2 e
    rw [hd]
    clear h3 h4 hs hd
    repeat' first | (simp (disch := first | omega | assumption) only [go_sem, simprocAttr, *]) | refine aa0 (fun hb=>?_) fun hb=>?_ | refine aa1 (fun hb=>?_) fun hb=>?_
    all_goals (try simp only [FX] at *)
    all_goals first | omega | skip
    exact ⟨_, ac5 rfl rfl, _, rfl⟩
  ·have hd : decide (v ∈ l) = false := decide_eq_false fun hv => by
    obtain ⟨k, hk, hkv⟩ := List.mem_iff_getElem.1 hv
    have := h3 k v (by rw [List.getElem?_eq_getElem hk, hkv]) (by omega)
    omega
   have hie : i = l.length := by omega
   rw [hd]
   clear h3 h4 hs hd
   repeat' first | (simp (disch := first | omega | assumption) only [go_sem, simprocAttr, *]) | refine aa0 (fun hb=>?_) fun hb=>?_ | refine aa1 (fun hb=>?_) fun hb=>?_
   all_goals (try simp only [FX] at *)
   all_goals first | omega | skip
   exact ⟨_, ac5 rfl rfl, _, rfl⟩
theorem eg6 (n : Nat) (hn : 0 < n) (hl : n ≤ 1000000) (H : Heap) : den E R.ag9 [.nilsl, .int .i64 n] H = some (.ret (.own H.length 1 0 0), H ++ [some (.row 1 (List.replicate n (.int .i64 0)))]) := by
 refine az0 R.am4 (by simp) ?_
 unfold Gn.ai1 Gn.ag7
 have hz : cq3 1 8 (.int .i64 0) .nilsl (.int .i64 ((n : Int) - 0)) H = some (.own H.length 1 0 n, H ++ [some (.row 1 (List.replicate n (.int .i64 0)))]) := by
  simp only [cq3]
  rw [Int.sub_zero, if_pos ⟨by omega, by omega, by omega⟩, if_neg (by omega), Int.toNat_natCast]
 repeat' first | (simp (disch := first | omega | assumption) only [go_sem, simprocAttr, *]) | refine aa0 (fun hb=>?_) fun hb=>?_ | refine aa1 (fun hb=>?_) fun hb=>?_
 all_goals (try simp only [FX] at *)
 all_goals first | omega | skip
theorem du1 (H : Heap) : den E R.ag9 [.nilsl, .int .i64 0] H = some (.ret .nilsl, H) := by
 refine az0 R.am4 (by simp) ?_
 unfold Gn.ai1 Gn.ag7
 repeat' first | (simp (disch := first | omega | assumption) only [go_sem, simprocAttr, *]) | refine aa0 (fun hb=>?_) fun hb=>?_ | refine aa1 (fun hb=>?_) fun hb=>?_
 all_goals (try simp only [FX] at *)
 all_goals first | omega | skip
end
section
variable {E : Env} [R : SlcR E]
theorem dc1 (l : List Int) : (aa9 l).all (fun e => e.cells.length == 1 && e.cells.all EV.one) = true := by
 rw [List.all_eq_true]
 intro e he
 obtain ⟨v, _, rfl⟩ := List.mem_map.1 he
 rfl
theorem dj8 (x y : EV) (la lb : List Int) (hx : am9 x la) (hy : am9 y lb) (hl : la.length + lb.length ≤ 1000000) (H : Heap) :
  (la ++ lb = [] ∧ den E R.ae9 [.imm 1 [x, y]] H = some (.ret .nilsl, H)) ∨
   la ++ lb ≠ [] ∧ den E R.ae9 [.imm 1 [x, y]] H = some (.ret (.own (H.length + 2) 1 0 (la ++ lb).length), H ++ [none, none, some (.row 1 (aa9 (la ++ lb)))]) := by
 have lx := hx.lenI
 have ly := hy.lenI
 obtain ⟨cx, ox⟩ := hx.one
 obtain ⟨cy, oy⟩ := hy.one
 unfold EV.one at ox oy
 unfold EV.cells at cx cy
 by_cases hz : la ++ lb = []
 ·obtain ⟨rfl, rfl⟩ := List.append_eq_nil_iff.1 hz
  refine .inl ⟨rfl, ?_⟩
  have hg := du1 (E := E) H
  have a1 : ab7 1 8 .nilsl x H = some (.nilsl, H) := by unfold ab7; rw [hx.els]; rfl
  have a2 : ab7 1 8 .nilsl y H = some (.nilsl, H) := by unfold ab7; rw [hy.els]; rfl
  refine az0 R.aj5 (by simp) ?_
  unfold Gn.ag8 Gn.ae7
  repeat' first | (simp (disch := first | omega | assumption) only [go_sem, simprocAttr, *]) | refine aa0 (fun hb=>?_) fun hb=>?_ | refine aa1 (fun hb=>?_) fun hb=>?_
  refine ar1 ?_
  repeat' first | (simp (disch := first | omega | assumption) only [go_sem, simprocAttr, *]) | refine aa0 (fun hb=>?_) fun hb=>?_ | refine aa1 (fun hb=>?_) fun hb=>?_
  refine ar1 ?_
  repeat' first | (simp (disch := first | omega | assumption) only [go_sem, simprocAttr, *]) | refine aa0 (fun hb=>?_) fun hb=>?_ | refine aa1 (fun hb=>?_) fun hb=>?_
  refine ar1 ?_
  repeat' first | (simp (disch := first | omega | assumption) only [go_sem, simprocAttr, *]) | refine aa0 (fun hb=>?_) fun hb=>?_ | refine aa1 (fun hb=>?_) fun hb=>?_
  refine ar1 ?_
  repeat' first | (simp (disch := first | omega | assumption) only [go_sem, simprocAttr, *]) | refine aa0 (fun hb=>?_) fun hb=>?_ | refine aa1 (fun hb=>?_) fun hb=>?_
  refine ar1 ?_
  repeat' first | (simp (disch := first | omega | assumption) only [go_sem, simprocAttr, *]) | refine aa0 (fun hb=>?_) fun hb=>?_ | refine aa1 (fun hb=>?_) fun hb=>?_
  refine ar1 ?_
  repeat' first | (simp (disch := first | omega | assumption) only [go_sem, simprocAttr, *]) | refine aa0 (fun hb=>?_) fun hb=>?_ | refine aa1 (fun hb=>?_) fun hb=>?_
  all_goals (try simp only [FX] at *)
  all_goals first | omega | skip
 ·refine .inr ⟨hz, ?_⟩
  have hne : 0 < la.length + lb.length := by
   have := List.length_pos_iff.2 hz
   rwa [List.length_append] at this
  have hg := eg6 (E := E) (la.length + lb.length) hne hl H
  rw [show ((la.length + lb.length : Nat) : Int) = 0 + la.length + lb.length by omega] at hg
  have a1 : ab7 1 8 (.own H.length 1 0 0) x (H ++ [some (.row 1 (List.replicate (la.length + lb.length) (.int .i64 0)))]) = some (.own (H.length + 1) 1 0 la.length, H ++ [none, some (.row 1 (aa9 la))]) := by
   unfold ab7
   rw [hx.els]
   simp only [dc1, and_true]
   rw [if_pos (by omega)]
   simp only [List.getElem?_append_right (Nat.le_refl _), Nat.sub_self, List.getElem?_cons_zero]
   rw [if_pos ⟨trivial, trivial, trivial, by omega, by rw [ab4]; omega, by rw [ab4]; omega⟩, List.set_append_right _ _ (Nat.le_refl _), Nat.sub_self, ab4]
   simp
  have a2 : ab7 1 8 (.own (H.length + 1) 1 0 la.length) y (H ++ [none, some (.row 1 (aa9 la))]) = some (.own (H.length + 2) 1 0 (la ++ lb).length, H ++ [none, none, some (.row 1 (aa9 (la ++ lb)))]) := by
   unfold ab7
   rw [hy.els]
   simp only [dc1, and_true]
   rw [if_pos (by omega)]
   have g : (H ++ [none, some (EB.row 1 (aa9 la))])[H.length + 1]? = some (some (.row 1 (aa9 la))) := by rw [List.getElem?_append_right (by omega), Nat.add_sub_cancel_left]; rfl
   simp only [g]
   rw [if_pos ⟨trivial, trivial, trivial, by rw [ab4]; omega, by rw [ab4]; omega, by rw [ab4]; omega⟩, List.set_append_right _ _ (by omega), Nat.add_sub_cancel_left, ab4, List.take_of_length_le (by rw [ab4]; omega), bs1, List.length_append]
   simp
  refine az0 R.aj5 (by simp) ?_
  unfold Gn.ag8 Gn.ae7
  repeat' first | (simp (disch := first | omega | assumption) only [go_sem, simprocAttr, *]) | refine aa0 (fun hb=>?_) fun hb=>?_ | refine aa1 (fun hb=>?_) fun hb=>?_
  refine ar1 ?_
  repeat' first | (simp (disch := first | omega | assumption) only [go_sem, simprocAttr, *]) | refine aa0 (fun hb=>?_) fun hb=>?_ | refine aa1 (fun hb=>?_) fun hb=>?_
  all_goals (try simp only [FX] at *)
  all_goals first | omega | skip
  refine ar1 ?_
  repeat' first | (simp (disch := first | omega | assumption) only [go_sem, simprocAttr, *]) | refine aa0 (fun hb=>?_) fun hb=>?_ | refine aa1 (fun hb=>?_) fun hb=>?_
  all_goals (try simp only [FX] at *)
  all_goals first | omega | skip
  refine ar1 ?_
  repeat' first | (simp (disch := first | omega | assumption) only [go_sem, simprocAttr, *]) | refine aa0 (fun hb=>?_) fun hb=>?_ | refine aa1 (fun hb=>?_) fun hb=>?_
  all_goals (try simp only [FX] at *)
  all_goals first | omega | skip
  refine ar1 ?_
  repeat' first | (simp (disch := first | omega | assumption) only [go_sem, simprocAttr, *]) | refine aa0 (fun hb=>?_) fun hb=>?_ | refine aa1 (fun hb=>?_) fun hb=>?_
  all_goals (try simp only [FX] at *)
  all_goals first | omega | skip
  refine ar1 ?_
  repeat' first | (simp (disch := first | omega | assumption) only [go_sem, simprocAttr, *]) | refine aa0 (fun hb=>?_) fun hb=>?_ | refine aa1 (fun hb=>?_) fun hb=>?_
  all_goals (try simp only [FX] at *)
  all_goals first | omega | skip
  refine ar1 ?_
  repeat' first | (simp (disch := first | omega | assumption) only [go_sem, simprocAttr, *]) | refine aa0 (fun hb=>?_) fun hb=>?_ | refine aa1 (fun hb=>?_) fun hb=>?_
  all_goals (try simp only [FX] at *)
  all_goals first | omega | skip
  all_goals (try simp only [FX] at *)
  all_goals first | omega | skip
end
def rowC (l : List Int) (n : Nat) : List Int := comp (l.take n) ++ l.drop (comp (l.take n)).length
def cLen (l : List Int) (n : Nat) : Nat := (comp (l.take n)).length
theorem da8 {l : List Int} {n i : Nat} (h : cLen l n ≤ i) : (rowC l n)[i]? = l[i]? := by
 unfold rowC
 unfold cLen at h
 rw [List.getElem?_append_right h, List.getElem?_drop]
 congr 1
 omega
theorem cz1 {l : List Int} {n : Nat} (h : n ≤ l.length) : cLen l n ≤ n := by
 have := dy3 (l.take n)
 rw [List.length_take] at this
 unfold cLen
 omega
theorem da7 {l : List Int} {n : Nat} (h : n ≤ l.length) : (rowC l n).length = l.length := by
 have := cz1 h
 unfold cLen at this
 unfold rowC
 rw [List.length_append, List.length_drop]
 omega
theorem bz5 {l : List Int} {n : Nat} {u : Int} (h0 : 0 < n) (hu : l[n - 1]? = some u) (hv : l[n]? = some u) : rowC l (n + 1) = rowC l n ∧ cLen l (n + 1) = cLen l n := by
 have := cc5 (l := l) (j := n - 1) (u := u) (v := u) hu (by rw [show n - 1 + 1 = n by omega]; exact hv)
 rw [show n - 1 + 2 = n + 1 by omega, show n - 1 + 1 = n by omega, if_pos rfl, List.append_nil] at this
 unfold rowC cLen
 rw [this]
 exact ⟨rfl, rfl⟩
theorem cn1 {l : List Int} {n : Nat} {u v : Int} (h0 : 0 < n) (hu : l[n - 1]? = some u) (hv : l[n]? = some v) (hne : v ≠ u) : (rowC l n).set (cLen l n) v = rowC l (n + 1) ∧ cLen l (n + 1) = cLen l n + 1 := by
 have := cc5 (l := l) (j := n - 1) (u := u) (v := v) hu (by rw [show n - 1 + 1 = n by omega]; exact hv)
 rw [show n - 1 + 2 = n + 1 by omega, show n - 1 + 1 = n by omega, if_neg hne] at this
 have hn := aa2 hv
 have hle := cz1 (l := l) (n := n) (by omega)
 unfold cLen at hle
 unfold rowC cLen
 rw [this, List.length_append, List.length_cons, List.length_nil, List.set_append_right _ _ (Nat.le_refl _), Nat.sub_self]
 refine ⟨?_, rfl⟩
 obtain ⟨z, hz⟩ := ac0 (l := l) (i := (comp (l.take n)).length) (by omega)
 rw [by0 hz, List.set_cons_zero]
 simp
theorem cr5 {l : List Int} {n : Nat} (h : n ≤ l.length) (hc : cLen l n = n) : comp (l.take n) = l.take n := by
 have key : ∀ m, m ≤ l.length → (cLen l m = m → comp (l.take m) = l.take m) := by
  intro m
  induction m with
  | zero => intro _ _; simp [comp]
  | succ m ih =>
   intro hm hcm
   cases m with
   | zero =>
    cases l with
    | nil => simp at hm
    | cons x l => simp [comp, cmpF]
   | succ m =>
    obtain ⟨u, hu⟩ := ac0 (l := l) (i := m) (by omega)
    obtain ⟨v, hv⟩ := ac0 (l := l) (i := m + 1) (by omega)
    have hn := cc5 hu hv
    have hle := cz1 (l := l) (n := m + 1) (by omega)
    unfold cLen at hcm hle
    rw [hn, List.length_append] at hcm
    by_cases e : v = u
    ·rw [if_pos e] at hcm
     simp at hcm
     omega
    ·rw [if_neg e] at hcm hn
     simp only [List.length_cons, List.length_nil] at hcm
     rw [hn, ih (by omega) (by unfold cLen; omega), List.take_add_one (i := m + 1), hv]
     rfl
 exact key n h hc
section
variable {E : Env} [R : SlcR E]
set_option maxHeartbeats 1000000 in
theorem cy6 (b : Nat) (l : List Int) (H : Heap) (hb : H[b]? = some (some (.row 1 (aa9 l)))) (hl : l.length ≤ 1000000) :
  ∃ r : List EV, den E R.ad3 [.own b 1 0 l.length] H = some (.ret (.own b 1 0 (comp l).length), H.set b (some (.row 1 r))) ∧ r.take (comp l).length = aa9 (comp l) ∧ (comp l).length ≤ r.length := by
 have hbl := aa2 hb
 have hself : H.set b (some (.row 1 (aa9 l))) = H := by
  apply List.ext_getElem?
  intro k
  by_cases hk : b = k
  ·subst hk; rw [List.getElem?_set_self hbl, hb]
  ·rw [List.getElem?_set_ne hk]
 have hsame : comp l = l → ∀ r, r = (ER.ret (.own b 1 0 l.length), H) → ∃ r' : List EV, r = (ER.ret (.own b 1 0 (comp l).length), H.set b (some (.row 1 r'))) ∧ r'.take (comp l).length = aa9 (comp l) ∧ (comp l).length ≤ r'.length := fun hc r hr => by
  refine ⟨aa9 l, ?_, ?_, ?_⟩
  ·rw [hc, hself, hr]
  ·rw [hc, List.take_of_length_le (by rw [ab4]; exact Nat.le_refl _)]
  ·rw [hc, ab4]; exact Nat.le_refl _
 suffices h : ∃ r, den E R.ad3 [.own b 1 0 l.length] H = some r ∧ ∃ r' : List EV, r = (ER.ret (.own b 1 0 (comp l).length), H.set b (some (.row 1 r'))) ∧ r'.take (comp l).length = aa9 (comp l) ∧ (comp l).length ≤ r'.length by
  obtain ⟨r, h1, r', rfl, h2⟩ := h
  exact ⟨r', h1, h2⟩
 refine cq7 R.ai9 (by simp) ?_
 unfold Gn.af6 Gn.ae4
 have hfin : ∀ (m : Nat) (G : Heap), finV H (.own b 1 0 m) ER.ret G = finV H (.own b 1 0 m) ER.ret G := fun _ _ => rfl
 have hok : ∀ m, (EV.own b 1 0 m).ok H.length = true := fun m => by simp [EV.ok]; exact hbl
 by_cases h2 : l.length < 2
 ·have hc : comp l = l := by
   match l, h2 with
   | [], _ => rfl
   | [x], _ => rfl
  replace hsame := hsame hc
  clear hself
  repeat' first | (simp (disch := first | omega | assumption) only [go_sem, simprocAttr, *]) | refine aa0 (fun hb=>?_) fun hb=>?_ | refine aa1 (fun hb=>?_) fun hb=>?_
  all_goals (try simp only [FX] at *)
  all_goals first | omega | skip
  exact ⟨_, ac5 (hok _) rfl, by have := hsame _ rfl; rwa [hc] at this⟩
 repeat' first | (simp (disch := first | omega | assumption) only [go_sem, simprocAttr, *]) | refine aa0 (fun hb=>?_) fun hb=>?_ | refine aa1 (fun hb=>?_) fun hb=>?_
 all_goals (try simp only [FX] at *)
 all_goals first | omega | skip
 refine al1 (ι := Nat) (fun k => 1 ≤ k ∧ k ≤ l.length ∧ cLen l k = k) (fun k => l.length - k) (fun k => [(0, .own b 1 0 l.length), (3, .int .i64 k)]) (fun _ => H) 1 ⟨Nat.le_refl _, by omega, ?_⟩ ?_ rfl ?_
 ·cases l with
  | nil => simp at h2
  | cons x l => simp [cLen, comp, cmpF]
 ·simp (disch := omega) only [go_sem, simprocAttr, Sl]
 rintro k t ⟨hk1, hk2, hk3⟩ ht K hK
 simp (disch := omega) only [go_sem, simprocAttr, Sl] at ht
 by_cases hlt : k < l.length
 ·obtain ⟨v, hv⟩ := ac0 hlt
  obtain ⟨u, hu⟩ := ac0 (l := l) (i := k - 1) (by omega)
  have hlen := ab4 l
  have hvE := aw9 hv
  have huE := aw9 hu
  have hkk : (k : Int) - 1 = ((k - 1 : Nat) : Int) := by omega
  by_cases e : v = u
  ·subst e
   have he : (v == v) = true := by simp
   have hc1 := (bz5 (by omega) hu hv).2
   rw [hk3] at hc1
   have hr1 := (bz5 (by omega) hu hv).1
   have hr0 : rowC l k = l := by
    unfold rowC
    rw [cr5 (by omega) hk3, List.length_take, Nat.min_eq_left (by omega)]
    exact List.take_append_drop k l
   rw [hr0] at hr1
   clear hK hk3 hr0
   repeat' first | (simp (disch := first | omega | assumption) only [go_sem, simprocAttr, *]) | refine aa0 (fun hb=>?_) fun hb=>?_ | refine aa1 (fun hb=>?_) fun hb=>?_
   all_goals (try simp only [FX] at *)
   all_goals first | omega | skip
   refine al1 (ι := Nat) (fun j => 1 ≤ j ∧ k + j ≤ l.length ∧ cLen l (k + j) + 1 ≤ k + j ∧ 1 ≤ cLen l (k + j)) (fun j => l.length - j) (fun j => [(0, .own b 1 0 l.length), (3, .int .i64 (cLen l (k + j))), (4, .own b 1 k (l.length - k)), (5, .int .i64 j)])
    (fun j => H.set b (some (.row 1 (aa9 (rowC l (k + j)))))) 1 ⟨Nat.le_refl _, by omega, by rw [hc1]; omega, by rw [hc1]; omega⟩ ?_ (by rw [hr1, hself]) ?_
   ·simp (disch := omega) only [go_sem, simprocAttr, Sl, hc1, ht, and_self]
   clear ht hr1 hc1 he hvE huE hu hv v
   rintro j t ⟨hj1, hj2, hj3, hj4⟩ ht K hK
   simp (disch := omega) only [go_sem, simprocAttr, Sl] at ht
   have hlenR : (aa9 (rowC l (k + j))).length = l.length := by rw [ab4, da7 hj2]
   have hgb : (H.set b (some (EB.row 1 (aa9 (rowC l (k + j))))))[b]? = some (some (.row 1 (aa9 (rowC l (k + j))))) := List.getElem?_set_self hbl
   have hss : ∀ x y : Option EB, (H.set b x).set b y = H.set b y := fun x y => List.set_set ..
   have hix : k + ((j : Int) - 1).toNat = k + j - 1 := by omega
   by_cases hjl : k + j < l.length
   ·obtain ⟨v, hv⟩ := ac0 hjl
    obtain ⟨u, hu⟩ := ac0 (l := l) (i := k + j - 1) (by omega)
    have hvE := aw9 ((da8 (l := l) (n := k + j) (i := k + j) (by omega)).trans hv)
    have huE := aw9 ((da8 (l := l) (n := k + j) (i := k + j - 1) (by omega)).trans hu)
    by_cases e : v = u
    ·subst e
     obtain ⟨e1, e2⟩ := bz5 (by omega) hu hv
     have go := hK (j + 1)
     rw [show k + (j + 1) = k + j + 1 by omega, e1, e2] at go
     have he : (v != v) = false := by simp
     show @Hd E ⟨_⟩ ⟨_⟩ ⟨H.set b (some (.row 1 (aa9 (rowC l (k + j)))))⟩ ⟨_⟩
     clear hK hself e1 e2
     repeat' first | (simp (disch := first | omega | assumption) only [go_sem, simprocAttr, *]) | refine aa0 (fun hb=>?_) fun hb=>?_ | refine aa1 (fun hb=>?_) fun hb=>?_
     all_goals (try simp only [FX] at *)
     all_goals first | omega | skip
     refine go _ _ ⟨by omega, by omega, by omega, by omega⟩ (by omega) ?_ rfl
     simp (disch := omega) only [go_sem, simprocAttr, Sl, ht, and_self, ad6]
    ·obtain ⟨e1, e2⟩ := cn1 (by omega) hu hv e
     have hst : (aa9 (rowC l (k + j))).set (cLen l (k + j)) (.int .i64 v) = aa9 (rowC l (k + j + 1)) := by
      rw [← e1]
      unfold aa9
      rw [List.map_set]
     have go := hK (j + 1)
     rw [show k + (j + 1) = k + j + 1 by omega, e2] at go
     have he : (v != u) = true := by simpa using e
     have hcl : cLen l (k + j) < l.length := by omega
     obtain ⟨z, hz⟩ := ac0 (l := rowC l (k + j)) (i := cLen l (k + j)) (by rw [da7 hj2]; omega)
     replace hz := aw9 hz
     show @Hd E ⟨_⟩ ⟨_⟩ ⟨H.set b (some (.row 1 (aa9 (rowC l (k + j)))))⟩ ⟨_⟩
     clear hK hself e1 e2
     repeat' first | (simp (disch := first | omega | assumption) only [go_sem, simprocAttr, *]) | refine aa0 (fun hb=>?_) fun hb=>?_ | refine aa1 (fun hb=>?_) fun hb=>?_
     all_goals (try simp only [FX] at *)
     all_goals first | omega | skip
     refine go _ _ ⟨by omega, by omega, by omega, by omega⟩ (by omega) ?_ (by rw [← hst])
     simp (disch := omega) only [go_sem, simprocAttr, Sl, ht, and_self, ad6]
   ·have hjk : k + j = l.length := by omega
    have hcl : comp (l.take l.length) = comp l := by rw [List.take_length]
    rw [hjk] at ht hgb hlenR hj4 hj3 ⊢
    clear hK hself
    unfold cLen at ht hj3 hj4
    rw [hcl] at ht hj3 hj4
    have hclr : ∃ r : List EV, bp3 1 (.int .i64 0) (.own b 1 (comp l).length (l.length - (comp l).length)) (H.set b (some (EB.row 1 (aa9 (rowC l l.length))))) = some (H.set b (some (.row 1 r))) ∧ r.take (comp l).length = aa9 (comp l) ∧ (comp l).length ≤ r.length := by
     refine ⟨(aa9 (rowC l l.length)).take (comp l).length ++ List.replicate (l.length - (comp l).length) (.int .i64 0) ++ (aa9 (rowC l l.length)).drop ((comp l).length + (l.length - (comp l).length)), ?_, ?_, ?_⟩
     ·unfold bp3
      simp only [hgb]
      rw [if_neg (by omega), if_pos ⟨trivial, trivial, by rw [hlenR]; omega⟩, hss]
     ·have hrl : aa9 (rowC l l.length) = aa9 (comp l) ++ aa9 (l.drop (comp l).length) := by unfold rowC; rw [hcl, bs1]
      rw [hrl, List.append_assoc, List.take_append_of_le_length (by rw [List.length_take, List.length_append, ab4]; omega), List.take_take, Nat.min_self, List.take_append_of_le_length (by rw [ab4]; omega), List.take_of_length_le (by rw [ab4]; omega)]
     ·simp only [List.length_append, List.length_take, List.length_replicate, List.length_drop, hlenR]
      omega
    obtain ⟨r, hclr, hr1, hr2⟩ := hclr
    show @Hd E ⟨_⟩ ⟨_⟩ ⟨H.set b (some (.row 1 (aa9 (rowC l l.length))))⟩ ⟨_⟩
    repeat' first | (simp (disch := first | omega | assumption) only [go_sem, simprocAttr, *]) | refine aa0 (fun hb=>?_) fun hb=>?_ | refine aa1 (fun hb=>?_) fun hb=>?_
    all_goals (try simp only [FX] at *)
    all_goals first | omega | skip
    rw [Nat.sub_zero]
    exact ⟨_, cp7 (hok _) (by simp) rfl, r, rfl, hr1, hr2⟩
  ·have hc2 : cLen l (k + 1) = k + 1 := by rw [(cn1 (by omega) hu hv e).2, hk3]
   have go := fun s' H' => hK (k + 1) s' H' ⟨by omega, by omega, hc2⟩ (by omega)
   have he : (v == u) = false := by simpa using e
   clear hK hself hc2
   repeat' first | (simp (disch := first | omega | assumption) only [go_sem, simprocAttr, *]) | refine aa0 (fun hb=>?_) fun hb=>?_ | refine aa1 (fun hb=>?_) fun hb=>?_
   all_goals (try simp only [FX] at *)
   all_goals first | omega | skip
   refine go _ _ ?_ rfl
   simp (disch := omega) only [go_sem, simprocAttr, Sl, ht, and_self, ad6]
 ·have hkl : k = l.length := by omega
  have hc : comp l = l := by
   have := cr5 (l := l) (n := l.length) (Nat.le_refl _) (by rw [← hkl]; exact hk3)
   rwa [List.take_length] at this
  have hsm := hsame hc (ER.ret (.own b 1 0 l.length), H) rfl
  clear hK hself hsame
  repeat' first | (simp (disch := first | omega | assumption) only [go_sem, simprocAttr, *]) | refine aa0 (fun hb=>?_) fun hb=>?_ | refine aa1 (fun hb=>?_) fun hb=>?_
  all_goals (try simp only [FX] at *)
  all_goals first | omega | skip
  exact ⟨_, ac5 (hok _) rfl, by rwa [hc] at hsm⟩
end
structure bb4 (E : Env) (f : FuncId) : Prop where
 row : ∀ (H : Heap) (k : Nat) (l : List Int), H[k]? = some (some (.row 1 (aa9 l))) → l.length ≤ 1000000 → den E f [.own k 1 0 l.length] H = some (.ret (.tup []), H.set k (some (.row 1 (aa9 (srt l)))))
 nil : ∀ H : Heap, den E f [.nilsl] H = some (.ret (.tup []), H)
def outV (l : List Int) : EV := if l = [] then .nilsl else .imm 1 (aa9 l)
theorem dp6 {l : List Int} (hl : l.length ≤ 1000000) : am9 (outV l) l := by
 unfold outV
 split
 ·rename_i h; subst h; exact .nil
 ·exact bn9 (by omega)
section
variable {E : Env} [R : bv0 E]
theorem ds6 (y : EV) (lb : List Int) (hy : am9 y lb) (hl : lb.length ≤ 1000000) (hs : lb.Pairwise (· < ·)) (v : Int) (j : Nat) (H : Heap) (hj : H[j]? = some (some (.row 1 [y]))) :
  den E R.ai7 [.int .i64 v, .ptr j 1 0 0] H = some (.ret (.bool (decide (v ∈ lb))), H) := by
 obtain ⟨cy, oy⟩ := hy.one
 obtain ⟨p, hp⟩ := cz5 (E := E) y lb hy hl hs v H
 refine ag1 R.ax4 (by simp) ?_
 unfold Gn.ap6 Gn.al9
 unfold EV.one at oy
 unfold EV.cells at cy
 generalize decide (v ∈ lb) = d at hp ⊢
 repeat' first | (simp (disch := first | omega | assumption) only [go_sem, simprocAttr, *]) | refine aa0 (fun hb=>?_) fun hb=>?_ | refine aa1 (fun hb=>?_) fun hb=>?_
 all_goals (try simp only [FX] at *)
 exact ac5 rfl rfl
theorem eg0 (x y : EV) (la lb : List Int) (hx : am9 x la) (hy : am9 y lb) (hla : la.length ≤ 1000000) (hl : lb.length ≤ 1000000) (hs : lb.Pairwise (· < ·)) :
  ∃ z, (∀ H, den E R.aj8 [x, y] H = some (.ret z, H)) ∧ am9 z (la.filter fun v => !decide (v ∈ lb)) := by
 obtain ⟨cx, ox⟩ := hx.one
 obtain ⟨cy, oy⟩ := hy.one
 by_cases hne : la = []
 ·subst hne
  obtain ⟨z, hcl, hz⟩ := dj9 (E := E) x hx
  refine ⟨z, fun H => ?_, by rcases hz with rfl | rfl; exact .nil; exact .zsl⟩
  have hd := cy3 (E := E) z hz
  have hyo : z.ok H.length = true := by rcases hz with rfl | rfl <;> rfl
  refine ag1 R.ax5 (by simp) ?_
  unfold Gn.as1 Gn.an6
  unfold EV.one at ox oy
  unfold EV.cells at cx cy
  clear hz
  repeat' first | (simp (disch := first | omega | assumption) only [go_sem, simprocAttr, *]) | refine aa0 (fun hb=>?_) fun hb=>?_ | refine aa1 (fun hb=>?_) fun hb=>?_
  all_goals (try simp only [FX] at *)
  exact aa4 hyo rfl
 ·refine ⟨.imm 1 (aa9 (la.filter fun v => !decide (v ∈ lb))), fun H => ?_, bn9 (by have := List.length_filter_le (fun v => !decide (v ∈ lb)) la; omega)⟩
  let H2 : Heap := H ++ [some (.row 1 [y])]
  have hcl := ch1 (E := E) x la H2 (hx.arg H2) hla
  rcases hcl with ⟨h0, _⟩ | ⟨_, hcl⟩
  ·exact absurd h0 hne
  let q : Int → Bool := fun v => !decide (v ∈ lb)
  let H3 : Heap := H2 ++ [some (.row 1 (aa9 la))]
  have hb3 : H3[H.length + 1]? = some (some (.row 1 (aa9 la))) := by
   simp only [H3, H2]
   rw [List.getElem?_append_right (by simp)]
   simp
  have hlen3 : H2.length = H.length + 1 := by simp [H2]
  have hset : ∀ r, H3.set (H.length + 1) (some (.row 1 r)) = H2 ++ [some (.row 1 r)] := fun r => by
   simp only [H3]
   rw [List.set_append_right _ _ (by omega), hlen3]
   simp
  have hdel := cy4 (E := E) (.func (.func R.ai7) [] [.ptr H.length 1 0 0]) (fun v => !q v) (H.length + 1) la H3 hb3 (fun r v hv => by
   rw [hset]
   have := ds6 (E := E) y lb hy hl hs v H.length (H2 ++ [some (.row 1 r)]) (by simp [H2])
   simpa [ei7, q] using this) (by omega)
  have hnot : (fun v => !(fun v => !q v) v) = q := by funext v; simp
  rw [hnot] at hdel
  rw [hset] at hdel
  rw [hlen3] at hcl
  have hfr : ∃ es, (if idxI (fun v => !q v) la 0 = -1 then la else rowD q la) = es ∧ es.take (la.filter q).length = la.filter q ∧ (la.filter q).length ≤ es.length := by
   by_cases hi : idxI (fun v => !q v) la 0 = -1
   ·rw [if_pos hi]
    have := (bs2 (p := fun v => !q v) (l := la) (i := 0)).1 ⟨hi, by omega⟩
    rw [hnot] at this
    exact ⟨la, rfl, by rw [this]; simp, by rw [this]; exact Nat.le_refl _⟩
   ·rw [if_neg hi]
    exact ⟨_, rfl, by unfold rowD; simp, by unfold rowD; simp⟩
  obtain ⟨es, hes, htk, hle⟩ := hfr
  rw [hes] at hdel
  show den E R.aj8 [x, y] H = some (.ret (.imm 1 (aa9 (la.filter q))), H)
  have hfin : finV H (.own (H.length + 1) 1 0 (la.filter q).length) ER.ret (H2 ++ [some (.row 1 (aa9 es))]) = some (.ret (.imm 1 (aa9 (la.filter q))), H) := by
   have hH2 : H2 ++ [some (EB.row 1 (aa9 es))] = H ++ [some (.row 1 [y]), some (.row 1 (aa9 es))] := by simp [H2]
   rw [hH2]
   refine cb6 rfl (v' := .imm 1 (aa9 (la.filter q))) ?_ rfl
   have := cp5 (L := H.length) (H := H ++ [some (.row 1 [y]), some (.row 1 (aa9 es))]) (n := 7) (b := H.length + 1) (sz := 1) (off := 0) (len := (la.filter q).length) (es := aa9 es) (by omega) (by rw [List.getElem?_append_right (by omega)]; simp) (by rw [ab4]; omega) (br3 _ _)
   rw [this]
   simp only [List.drop_zero]
   unfold aa9
   rw [← List.map_take, htk]
  simp only [H2, H3] at hcl hdel hfin
  simp only [List.append_assoc, List.cons_append, List.nil_append] at hcl hdel hfin
  clear hb3 hset hes htk
  refine ag1 R.ax5 (by simp) ?_
  unfold Gn.as1 Gn.an6
  unfold EV.one at ox oy
  unfold EV.cells at cx cy
  clear hnot
  generalize la.filter q = f at hdel hfin ⊢
  repeat' first | (simp (disch := first | omega | assumption) only [go_sem, simprocAttr, *]) | refine aa0 (fun hb=>?_) fun hb=>?_ | refine aa1 (fun hb=>?_) fun hb=>?_
theorem cy5 (H : Heap) : den E R.ad3 [.nilsl] H = some (.ret .nilsl, H) := by
 refine ag1 R.ai9 (by simp) ?_
 unfold Gn.af6 Gn.ae4
 repeat' first | (simp (disch := first | omega | assumption) only [go_sem, simprocAttr, *]) | refine aa0 (fun hb=>?_) fun hb=>?_ | refine aa1 (fun hb=>?_) fun hb=>?_
 all_goals (try simp only [FX] at *)
 all_goals first | omega | exact ac5 rfl rfl
theorem dh1 (hS : bb4 E R.ab1) (x y : EV) (la lb : List Int) (hx : am9 x la) (hy : am9 y lb) (hl : la.length + lb.length ≤ 1000000) (H : Heap) :
  den E R.af0 [x, y] H = some (.ret (outV (comp (srt (la ++ lb)))), H) := by
 obtain ⟨cx, ox⟩ := hx.one
 obtain ⟨cy, oy⟩ := hy.one
 rcases dj8 (E := E) x y la lb hx hy hl H with ⟨hz, hc⟩ | ⟨hz, hc⟩
 ·rw [hz]
  show den E R.af0 [x, y] H = some (.ret (outV (comp (List.mergeSort _ _))), H)
  rw [List.mergeSort_nil]
  show den E R.af0 [x, y] H = some (.ret .nilsl, H)
  have h1 := hS.nil H
  have h2 := cy5 (E := E) H
  refine ag1 R.as5 (by simp) ?_
  unfold Gn.an5 Gn.aj7
  unfold EV.one at ox oy
  unfold EV.cells at cx cy
  repeat' first | (simp (disch := first | omega | assumption) only [go_sem, simprocAttr, *]) | refine aa0 (fun hb=>?_) fun hb=>?_ | refine aa1 (fun hb=>?_) fun hb=>?_
  all_goals (try simp only [FX] at *)
  exact ac5 rfl rfl
 ·have hm0 : comp (srt (la ++ lb)) ≠ [] := fun h => by
   have h1 := dn0 (la ++ lb)
   have h2 := List.length_pos_iff.2 hz
   cases hq : srt (la ++ lb) with
   | nil => rw [hq, List.length_nil] at h1; omega
   | cons v r => rw [hq] at h; simp [comp] at h
  clear hz
  have hl2 : (la ++ lb).length ≤ 1000000 := by rw [List.length_append]; omega
  generalize la ++ lb = l at hc hl2 hm0 ⊢
  have hls := dn0 l
  have h1 := hS.row (H ++ [none, none, some (.row 1 (aa9 l))]) (H.length + 2) l (by rw [List.getElem?_append_right (by omega), Nat.add_sub_cancel_left]; rfl) (by omega)
  rw [List.set_append_right _ _ (by omega), Nat.add_sub_cancel_left] at h1
  simp only [List.set_cons_succ, List.set_cons_zero] at h1
  have h2 := cy6 (E := E) (H.length + 2) (srt l) (H ++ [none, none, some (.row 1 (aa9 (srt l)))]) (by rw [List.getElem?_append_right (by omega), Nat.add_sub_cancel_left]; rfl) (by omega)
  obtain ⟨r, h2, hr1, hr2⟩ := h2
  rw [hls, List.set_append_right _ _ (by omega), Nat.add_sub_cancel_left] at h2
  simp only [List.set_cons_succ, List.set_cons_zero] at h2
  have hle := dy3 (srt l)
  generalize comp (srt l) = m at h2 hr1 hr2 hle hm0 ⊢
  rw [show outV m = .imm 1 (aa9 m) by unfold outV; rw [if_neg hm0]]
  clear hm0
  have hfz : Abs.fz H.length (H ++ [none, none, some (.row 1 r)]) 8 (.own (H.length + 2) 1 0 m.length) = some (.imm 1 (aa9 m)) := by
   unfold Abs.fz
   rw [if_neg (by simp [EV.ok])]
   have hg : (H ++ [none, none, some (EB.row 1 r)])[H.length + 2]? = some (some (.row 1 r)) := by rw [List.getElem?_append_right (by omega), Nat.add_sub_cancel_left]; rfl
   simp only [hg, if_pos (Nat.le_add_right _ _)]
   rw [if_pos ⟨trivial, by omega⟩, List.drop_zero, hr1, br7 fun x hx => by
    obtain ⟨v, _, rfl⟩ := List.mem_map.1 hx
    exact bg6 rfl]
   rfl
  refine ag1 R.as5 (by simp) ?_
  unfold Gn.an5 Gn.aj7
  unfold EV.one at ox oy
  unfold EV.cells at cx cy
  clear hr1 hr2
  repeat' first | (simp (disch := first | omega | assumption) only [go_sem, simprocAttr, *]) | refine aa0 (fun hb=>?_) fun hb=>?_ | refine aa1 (fun hb=>?_) fun hb=>?_
  all_goals (try simp only [FX] at *)
  exact cb6 rfl hfz rfl
end
def outX (D : Nat) (l : List Int) : EV := if l = [] then .nilsl else .own (D + (l.length - 1)) 1 0 l.length
def outG (l : List Int) : Heap := if l = [] then [] else List.replicate (l.length - 1) none ++ [some (.row 1 (aa9 l))]
theorem db6 (D : Nat) (l : List Int) : (outX D l).one = true ∧ (outX D l).cells = [outX D l] := by
 unfold outX
 split <;> exact ⟨rfl, rfl⟩
theorem db7 {P : Heap} {D : Nat} (hP : P.length = D) {l : List Int} (h : l ≠ []) : (P ++ outG l)[D + (l.length - 1)]? = some (some (.row 1 (aa9 l))) := by
 unfold outG
 rw [if_neg h, List.getElem?_append_right (by omega), hP, Nat.add_sub_cancel_left, List.getElem?_append_right (by rw [List.length_replicate]; exact Nat.le_refl _), List.length_replicate, Nat.sub_self]
 rfl
theorem df8 {P : Heap} {D : Nat} (hP : P.length = D) {l : List Int} (hl : l.length ≤ 1000000) (v : Int) : ab7 1 8 (outX D l) (.imm 1 [.int .i64 v]) (P ++ outG l) = some (outX D (l ++ [v]), P ++ outG (l ++ [v])) := by
 have hne : l ++ [v] ≠ [] := by simp
 by_cases h : l = []
 ·subst h
  unfold ab7
  simp [outX, outG, bi7, EV.cells, EV.one, aa9, hP]
 ·have hg := db7 hP h
  have hlp := List.length_pos_iff.2 h
  have e1 : outX D l = .own (D + (l.length - 1)) 1 0 l.length := by unfold outX; rw [if_neg h]
  rw [e1]
  unfold ab7
  simp only [bi7, hg]
  have hall : ([EV.int .i64 v].all fun e => e.cells.length == 1 && e.cells.all EV.one) = true := rfl
  rw [if_pos ⟨by omega, hall⟩, if_pos ⟨trivial, trivial, trivial, by rw [ab4]; exact Nat.le_refl _, by simp; omega, by simp; omega⟩]
  have hGl : (outG l).length = l.length := by unfold outG; rw [if_neg h]; simp; omega
  have e2 : (outG l).set (l.length - 1) none = List.replicate l.length none := by
   unfold outG
   rw [if_neg h, List.set_append_right _ _ (by rw [List.length_replicate]; exact Nat.le_refl _), List.length_replicate, Nat.sub_self, List.set_cons_zero]
   have : List.replicate l.length (none : Option EB) = List.replicate (l.length - 1 + 1) none := by rw [show l.length - 1 + 1 = l.length by omega]
   rw [this, List.replicate_succ']
  have e3 : aa9 l ++ [EV.int .i64 v] = aa9 (l ++ [v]) := by simp [aa9]
  rw [List.set_append_right _ _ (by omega), hP, Nat.add_sub_cancel_left, e2, List.length_append, hP, hGl, List.take_of_length_le (by rw [ab4]; exact Nat.le_refl _), e3]
  unfold outX outG
  rw [if_neg hne, if_neg hne]
  simp only [List.length_append, List.length_cons, List.length_nil, Nat.zero_add, Nat.add_sub_cancel, List.append_assoc]
theorem eu3 {P : Heap} {L D : Nat} (hP : P.length = D) (hL : L ≤ D) (l : List Int) : Abs.fz L (P ++ outG l) 8 (outX D l) = some (outV l) := by
 unfold outX outV
 by_cases h : l = []
 ·rw [if_pos h, if_pos h]; exact bg6 rfl
 ·rw [if_neg h, if_neg h, cp5 (es := aa9 l) (by omega) (db7 hP h) (by rw [ab4]; omega) (br3 _ _)]
  simp only [List.drop_zero]
  rw [List.take_of_length_le (by rw [ab4]; exact Nat.le_refl _)]
def opB (w : Nat → Nat) (n : Nat) (l : List Int) : Bool := l.any (fun p => decide (p = n)) && !zset w
theorem da1 (w : Nat → Nat) : eqL [.int .u64 (w 0 : Nat), .int .u64 (w 1 : Nat), .int .u64 (w 2 : Nat), .int .u64 (w 3 : Nat)] (tab 4 fun _ => .int .u64 0) = zset w := by
 rw [show (tab 4 fun _ => EV.int .u64 0) = [.int .u64 0, .int .u64 0, .int .u64 0, .int .u64 0] from rfl]
 rw [Bool.eq_iff_iff]
 simp [eqL, sceq, zset]
section
variable {E : Env} [R : bv0 E]
set_option maxHeartbeats 2000000 in
theorem ei8 (hH : bt4 E R.al0 .u8) (w : Nat → Nat) (hw : bp9 w) (s : List UInt8) (hs : s.length ≤ 100000) (x : EV) (l : List Int) (hx : am9 x l) (hl : l.length ≤ 100001) (hp : ∀ p ∈ l, 0 ≤ p ∧ p ≤ s.length) (k : Nat) (o : Bool) (H : Heap)
  (hk : H[k]? = some (some (.row 2 [.agg [.str s, .bool o]]))) :
  den E R.ap1 [.ptr k 2 0 0, .agg [.int .u64 (w 0 : Nat), .int .u64 (w 1 : Nat), .int .u64 (w 2 : Nat), .int .u64 (w 3 : Nat)], x] H =
   some (.ret (outV (l.filterMap (bg5 w s))), H.set k (some (.row 2 [.agg [.str s, .bool (o || opB w s.length l)]]))) := by
 have hkl := aa2 hk
 have hself : H.set k (some (.row 2 [.agg [.str s, .bool o]])) = H := by
  apply List.ext_getElem?
  intro j
  by_cases hj : k = j
  ·subst hj; rw [List.getElem?_set_self hkl, hk]
  ·rw [List.getElem?_set_ne hj]
 have lx := hx.lenI
 obtain ⟨cx, ox⟩ := hx.one
 have hHas : ∀ (b : Nat) (H : Heap), b < 256 → den E R.al0 [.agg [.int .u64 (w 0 : Nat), .int .u64 (w 1 : Nat), .int .u64 (w 2 : Nat), .int .u64 (w 3 : Nat)], .int .u8 b] H = some (.ret (.bool (bd8 w b)), H) := fun b H hb => hH w b H hw hb
 have g1 : ∀ (b : Option EB) (G : Heap), (H.set k b ++ G)[k]? = some b := fun b G => by rw [List.getElem?_append_left (by simpa using hkl), List.getElem?_set_self hkl]
 have s1 : ∀ (b c : Option EB) (G : Heap), (H.set k b ++ G).set k c = H.set k c ++ G := fun b c G => by rw [List.set_append_left _ _ (by simpa using hkl), List.set_set]
 have a1 : ∀ (b c : Option EB) (G : Heap), (H.set k b ++ c :: G)[H.length]? = some c := fun b c G => by rw [List.getElem?_append_right (by simp)]; simp
 refine ag1 R.bb2 (by simp) ?_
 unfold Gn.at6 Gn.ap5
 unfold EV.one at ox
 unfold EV.cells at cx
 repeat' first | (simp (disch := first | omega | assumption) only [go_sem, simprocAttr, *]) | refine aa0 (fun hb=>?_) fun hb=>?_ | refine aa1 (fun hb=>?_) fun hb=>?_
 all_goals (try simp only [FX] at *)
 refine al1 (ι := Nat) (fun i => i ≤ l.length) (fun i => l.length - i) (fun i => [(0, .ptr k 2 0 0), (4, .ptr H.length 4 0 0), (7, outX (H.length + 1) ((l.take i).filterMap (bg5 w s))), (10, x), (11, .int .i64 l.length), (12, .int .i64 i)])
  (fun i => H.set k (some (.row 2 [.agg [.str s, .bool (o || opB w s.length (l.take i))]])) ++ some (.row 4 [.agg [.int .u64 (w 0 : Nat), .int .u64 (w 1 : Nat), .int .u64 (w 2 : Nat), .int .u64 (w 3 : Nat)]]) :: outG ((l.take i).filterMap (bg5 w s))) 0 (by omega) ?_ ?_ ?_
 ·simp (disch := omega) only [go_sem, simprocAttr, Sl, List.take_zero, List.filterMap_nil, outX, if_true]
 ·simp [opB, outG, hself]
 clear hself hk
 rintro i t hi ht K hK
 simp (disch := omega) only [go_sem, simprocAttr, Sl] at ht
 by_cases hlt : i < l.length
 ·obtain ⟨p, hpi⟩ := ac0 hlt
  have hat := hx.at hpi
  obtain ⟨h0, h1⟩ := hp p (List.mem_of_getElem? hpi)
  have htk : l.take (i + 1) = l.take i ++ [p] := by rw [List.take_add_one, hpi]; rfl
  have hop : opB w s.length (l.take (i + 1)) = (opB w s.length (l.take i) || decide (p = s.length) && !zset w) := by
   unfold opB
   rw [htk, List.any_append]
   simp only [List.any_cons, List.any_nil, Bool.or_false]
   cases (l.take i).any fun p => decide (p = (s.length : Int)) <;> cases decide (p = (s.length : Int)) <;> cases zset w <;> rfl
  have hfm : (l.take (i + 1)).filterMap (bg5 w s) = (l.take i).filterMap (bg5 w s) ++ (match bg5 w s p with | some v => [v] | none => []) := by
   rw [htk, List.filterMap_append]
   cases h : bg5 w s p <;> simp [h]
  have hflen : ((l.take i).filterMap (bg5 w s)).length ≤ 1000000 := by
   have := List.length_filterMap_le (bg5 w s) (l.take i)
   rw [List.length_take] at this
   omega
  have go := fun s' H' => hK (i + 1) s' H' (by omega) (by omega)
  rw [hop, hfm] at go
  clear hK hop hfm htk
  generalize opB w s.length (l.take i) = q at go ⊢
  generalize (l.take i).filterMap (bg5 w s) = out at ht hflen go ⊢
  obtain ⟨oo, oc⟩ := db6 (H.length + 1) out
  unfold EV.one at oo
  unfold EV.cells at oc
  by_cases he : p = s.length
  ·have hst : bg5 w s p = none := by unfold bg5; rw [if_neg (fun h => by omega)]
   rw [hst] at go
   simp only [List.append_nil, he, decide_true, Bool.true_and] at go
   have hpe : (p == (s.length : Int)) = true := by rw [he]; simp
   cases hoq : (o || q) with
   | true =>
    rw [← Bool.or_assoc, hoq, Bool.true_or] at go
    repeat' first | (simp (disch := first | omega | assumption) only [go_sem, simprocAttr, *]) | refine aa0 (fun hb=>?_) fun hb=>?_ | refine aa1 (fun hb=>?_) fun hb=>?_
    all_goals (try simp only [FX] at *)
    all_goals first | omega | skip
    refine go _ _ ?_ rfl
    simp (disch := omega) only [go_sem, simprocAttr, Sl, ht, and_self, ad6]
   | false =>
    obtain ⟨rfl, rfl⟩ : o = false ∧ q = false := by simpa using hoq
    simp only [Bool.false_or] at go
    repeat' first | (simp (disch := first | omega | assumption) only [go_sem, simprocAttr, *]) | refine aa0 (fun hb=>?_) fun hb=>?_ | refine aa1 (fun hb=>?_) fun hb=>?_
    all_goals (try simp only [FX] at *)
    all_goals first | omega | skip
    refine go _ _ ?_ (by rw [da1])
    simp (disch := omega) only [go_sem, simprocAttr, Sl, ht, and_self, ad6]
  ·have hst : bg5 w s p = if bd8 w (s.getD p.toNat 0).toNat = true then some (p + 1) else none := by
    unfold bg5
    by_cases hc : bd8 w (s.getD p.toNat 0).toNat = true
    ·rw [if_pos ⟨by omega, hc⟩, if_pos hc]
    ·rw [if_neg (fun h => hc h.2), if_neg hc]
   obtain ⟨b, hb⟩ := ac0 (l := s) (i := p.toNat) (by omega)
   rw [List.getD_eq_getElem?_getD, hb, Option.getD_some] at hst
   have hbl : b.toNat < 256 := b.toNat_lt
   have hpe : (p == (s.length : Int)) = false := by simpa using he
   have hdp : decide (p = (s.length : Int)) = false := decide_eq_false he
   rw [hdp, Bool.false_and, Bool.or_false] at go
   have hHb := fun H => hHas b.toNat H hbl
   cases hc : bd8 w b.toNat with
   | true =>
    rw [hc] at hHb
    rw [hst, if_pos hc] at go
    simp only at go
    have happ := fun (b : Option EB) (c : EB) => df8 (P := H.set k b ++ [some c]) (D := H.length + 1) (by simp) hflen (p + 1)
    simp only [List.append_assoc, List.cons_append, List.nil_append] at happ
    clear hHas hst hc
    repeat' first | (simp (disch := first | omega | assumption) only [go_sem, simprocAttr, *]) | refine aa0 (fun hb=>?_) fun hb=>?_ | refine aa1 (fun hb=>?_) fun hb=>?_
    all_goals (try simp only [FX] at *)
    all_goals first | omega | skip
    refine go _ _ ?_ rfl
    simp (disch := omega) only [go_sem, simprocAttr, Sl, ht, and_self, ad6]
   | false =>
    rw [hc] at hHb
    rw [hst, hc, if_neg (by simp)] at go
    simp only [List.append_nil] at go
    clear hHas hst hc
    repeat' first | (simp (disch := first | omega | assumption) only [go_sem, simprocAttr, *]) | refine aa0 (fun hb=>?_) fun hb=>?_ | refine aa1 (fun hb=>?_) fun hb=>?_
    all_goals (try simp only [FX] at *)
    all_goals first | omega | skip
    refine go _ _ ?_ rfl
    simp (disch := omega) only [go_sem, simprocAttr, Sl, ht, and_self, ad6]
 ·have hie : i = l.length := by omega
  subst hie
  rw [List.take_length] at ht ⊢
  clear hK
  have hfz := fun (b : Option EB) (c : EB) => eu3 (P := H.set k b ++ [some c]) (L := H.length) (D := H.length + 1) (by simp) (by omega) (l.filterMap (bg5 w s))
  simp only [List.append_assoc, List.cons_append, List.nil_append] at hfz
  generalize l.filterMap (bg5 w s) = out at ht hfz ⊢
  obtain ⟨oo, oc⟩ := db6 (H.length + 1) out
  unfold EV.one at oo
  unfold EV.cells at oc
  repeat' first | (simp (disch := first | omega | assumption) only [go_sem, simprocAttr, *]) | refine aa0 (fun hb=>?_) fun hb=>?_ | refine aa1 (fun hb=>?_) fun hb=>?_
  all_goals (try simp only [FX] at *)
  all_goals first | omega | skip
  exact bf7 (by unfold outX; split <;> rfl) (hfz _ _) rfl rfl
end
def rnd (f : List Bool → List Bool) (a : List Bool) : Nat → List Bool × List Bool
 | 0 => (a, a)
 | k + 1 => (orL (rnd f a k).1 (av5 (f (rnd f a k).2) (rnd f a k).1), av5 (f (rnd f a k).2) (rnd f a k).1)
section
variable {m : Nat} {f : List Bool → List Bool} (hf : Lin m f) {a : List Bool} (ha : a.length = m)
include hf ha
theorem ba9 : ∀ k, (rnd f a k).1.length = m ∧ (rnd f a k).2.length = m ∧ Sub (rnd f a k).2 (rnd f a k).1 ∧ Sub (f (rnd f a k).1) (orL (rnd f a k).1 (f (rnd f a k).2)) ∧ (rnd f a k).1 = sumN f a k
 | 0 => ⟨ha, ha, fun _ h => h, fun i h => by
  have := hf.len a ha
  show (orL a (f a)).getD i false = true
  rw [ac8 (by omega)]
  have h' : (f a).getD i false = true := h
  rw [h', Bool.or_true], rfl⟩
 | k + 1 => by
  obtain ⟨h1, h2, h3, h4, h5⟩ := ba9 k
  have l1 := hf.len _ h2
  have l2 : (av5 (f (rnd f a k).2) (rnd f a k).1).length = m := by rw [at4 (by omega), l1]
  have hn := de6 hf h1 h2 h3 h4
  refine ⟨by show (orL _ _).length = m; rw [af9 (by omega), h1], l2, fun i h => ?_, hn, ?_⟩
  ·show (orL _ _).getD i false = true
   rw [ac8 (by omega)]
   have h' : (av5 (f (rnd f a k).2) (rnd f a k).1).getD i false = true := h
   rw [h', Bool.or_true]
  ·show orL _ _ = orL (sumN f a k) (f (sumN f a k))
   rw [cn2 hf h1 h2 h3 h4, h5]
theorem da9 {j : Nat} (h : cntT (rnd f a j).2 = 0) : Sub (f (sumN f a j)) (sumN f a j) ∧ ∀ i, cntT (rnd f a (j + i)).2 = 0 := by
 have key : ∀ i, (rnd f a (j + i)).2 = af4 m := by
  intro i
  induction i with
  | zero =>
   have := be7 h
   rw [(ba9 hf ha j).2.1] at this
   exact this
  | succ i ih =>
   show av5 (f (rnd f a (j + i)).2) (rnd f a (j + i)).1 = af4 m
   rw [ih, hf.no]
   have l := (ba9 hf ha (j + i)).1
   refine ao5 (by rw [at4 (by rw [ah3]; omega)]) fun i => ?_
   rw [aw8 (by rw [ah3]; omega), ad8]; rfl
 obtain ⟨h1, h2, h3, h4, h5⟩ := ba9 hf ha j
 have hk := key 0
 rw [Nat.add_zero] at hk
 rw [hk, hf.no, h5] at h4
 rw [h5] at h1
 refine ⟨fun i hi => ?_, fun i => ?_⟩
 ·have := h4 i hi
  rw [ac8 (by rw [ah3]; omega), ad8, Bool.or_false] at this
  exact this
 ·rw [key i]
  unfold cntT
  rw [List.countP_eq_zero]
  intro b hb
  rw [af4, List.mem_replicate] at hb
  simp [hb.2]
theorem df0 : ∃ k, k ≤ m + 1 ∧ cntT (rnd f a k).2 = 0 := by
 obtain ⟨k, hk, hc⟩ := bj2 hf ha
 refine ⟨k + 1, by omega, ?_⟩
 obtain ⟨h1, h2, h3, h4, h5⟩ := ba9 hf ha k
 have e : av5 (f (rnd f a k).2) (rnd f a k).1 = af4 m := by
  have l1 := hf.len _ h2
  refine ao5 (by rw [at4 (by omega), ah3]; omega) fun i => ?_
  rw [aw8 (by omega), ad8]
  cases hq : (f (rnd f a k).2).getD i false with
  | false => rfl
  | true =>
   have hor := hf.or _ _ h1 h2
   rw [Sub.or (by omega) h3] at hor
   have l2 := hf.len _ h1
   have : (f (rnd f a k).1).getD i false = true := by
    rw [hor, ac8 (by omega), hq, Bool.or_true]
   rw [h5] at this ⊢
   rw [hc i this]; rfl
 show cntT (av5 _ _) = 0
 rw [e]
 unfold cntT
 rw [List.countP_eq_zero]
 intro b hb
 rw [af4, List.mem_replicate] at hb
 simp [hb.2]
theorem ed3 {j M : Nat} (h : (cntT (rnd f a j).2 = 0 ∧ (j ≤ M ∨ m ≤ M)) ∨ j = M) : (rnd f a j).1 = sumN f a M := by
 rw [(ba9 hf ha j).2.2.2.2]
 rcases h with ⟨h, hM⟩ | rfl
 ·have hs := (da9 hf ha h).1
  by_cases hj : j ≤ M
  ·have := at0 hf ha hs (M - j)
   rw [show j + (M - j) = M by omega] at this
   exact this.symm
  ·have hM' : m ≤ M := by omega
   obtain ⟨k, hk, hc⟩ := bj2 hf ha
   have h1 := at0 hf ha hc (j - k)
   have h2 := at0 hf ha hc (M - k)
   rw [show k + (j - k) = j by omega] at h1
   rw [show k + (M - k) = M by omega] at h2
   rw [h1, h2]
 ·rfl
theorem ed2 {j : Nat} (h : cntT (rnd f a j).2 ≠ 0) :
  2 * (m - cntT (rnd f a (j + 1)).1) + (if cntT (rnd f a (j + 1)).2 = 0 then 0 else 1) < 2 * (m - cntT (rnd f a j).1) + (if cntT (rnd f a j).2 = 0 then 0 else 1) := by
 obtain ⟨h1, h2, _, _, _⟩ := ba9 hf ha j
 obtain ⟨h1', h2', _, _, _⟩ := ba9 hf ha (j + 1)
 have l1 := hf.len _ h2
 have hg : cntT (rnd f a (j + 1)).1 = cntT (rnd f a j).1 + cntT (rnd f a (j + 1)).2 := bt1 (by omega)
 have hle := bb3 (rnd f a (j + 1)).1
 rw [if_neg h]
 split <;> omega
end
def opP (f : List Bool → List Bool) (g : List Bool → Bool) : Nat → List Bool → Bool
 | 0, _ => false
 | n + 1, a => opP f g n a || g (powN f n a)
def opQ (f : List Bool → List Bool) (g : List Bool → Bool) (a : List Bool) : Nat → Bool
 | 0 => false
 | k + 1 => opQ f g a k || g (rnd f a k).2
theorem ee3 {m : Nat} {f : List Bool → List Bool} (hf : Lin m f) {a : List Bool} (ha : a.length = m) {g : List Bool → Bool} (hg : ∀ b, cntT b = 0 → g b = false) {j M : Nat}
  (h : (cntT (rnd f a j).2 = 0 ∧ (j ≤ M ∨ m + 1 ≤ M)) ∨ j = M) : opQ f g a j = opQ f g a M := by
 have key : ∀ j, cntT (rnd f a j).2 = 0 → ∀ i, opQ f g a (j + i) = opQ f g a j := by
  intro j h i
  induction i with
  | zero => rfl
  | succ i ih =>
   show (opQ f g a (j + i) || g (rnd f a (j + i)).2) = _
   rw [ih, hg _ ((da9 hf ha h).2 i), Bool.or_false]
 rcases h with ⟨h, hM⟩ | rfl
 ·by_cases hj : j ≤ M
  ·have := key j h (M - j)
   rw [show j + (M - j) = M by omega] at this
   exact this.symm
  ·have hM' : m + 1 ≤ M := by omega
   obtain ⟨k, hk, hc⟩ := df0 hf ha
   have h1 := key k hc (j - k)
   have h2 := key k hc (M - k)
   rw [show k + (j - k) = j by omega] at h1
   rw [show k + (M - k) = M by omega] at h2
   rw [h1, h2]
 ·rfl
mutual
def as8 (s : List UInt8) : RT → List Bool → Bool
 | .mk k w _ ts lo hi, a => if cntT a = 0 then false else if k = 1 then a.getD s.length false && !zset w else if k = 2 then bj6 s ts a else if k = 3 then bl0 s ts a else if k = 4 then bw3 s ts lo hi a else false
def bj6 (s : List UInt8) : List RT → List Bool → Bool
 | [], _ => false
 | t :: ts, a => as8 s t a || bj6 s ts (aa5 s t a)
def bl0 (s : List UInt8) : List RT → List Bool → Bool
 | [], _ => false
 | t :: ts, a => as8 s t a || bl0 s ts a
def bw3 (s : List UInt8) : List RT → Int → Int → List Bool → Bool
 | [], _, _, _ => false
 | t :: _, lo, hi, a => opP (aa5 s t) (as8 s t) lo.toNat a || opQ (aa5 s t) (as8 s t) (powN (aa5 s t) lo.toNat a) (if hi < 0 then s.length + 2 else (hi - lo).toNat)
end
theorem dp7 (s : List UInt8) (t : RT) (a : List Bool) (h : cntT a = 0) : as8 s t a = false := by
 cases t
 simp [as8, h]
theorem cf3 {s : List UInt8} {t : RT} : ∀ {ts : List RT} {i : Nat} {a : List Bool}, ts[i]? = some t → bj6 s (ts.take (i + 1)) a = (bj6 s (ts.take i) a || as8 s t (((ts.take i).map (aa5 s)).foldl (fun x f => f x) a))
 | [], i, a, h => by simp at h
 | u :: ts, 0, a, h => by
  simp only [List.getElem?_cons_zero, Option.some.injEq] at h
  subst h
  simp [bj6]
 | u :: ts, i + 1, a, h => by
  have ih := cf3 (s := s) (t := t) (ts := ts) (i := i) (a := aa5 s u a) (by simpa using h)
  simp only [List.take_succ_cons, bj6, ih, List.map_cons, List.foldl_cons, Bool.or_assoc]
theorem cf4 {s : List UInt8} {t : RT} : ∀ {ts : List RT} {i : Nat} {a : List Bool}, ts[i]? = some t → bl0 s (ts.take (i + 1)) a = (bl0 s (ts.take i) a || as8 s t a)
 | [], i, a, h => by simp at h
 | u :: ts, 0, a, h => by
  simp only [List.getElem?_cons_zero, Option.some.injEq] at h
  subst h
  simp [bl0]
 | u :: ts, i + 1, a, h => by
  have ih := cf4 (s := s) (t := t) (ts := ts) (i := i) (a := a) (by simpa using h)
  simp only [List.take_succ_cons, bl0, ih, Bool.or_assoc]
def fitB (k : Int) (n : Nat) (lo hi : Int) : Bool := decide (0 ≤ k) && (decide (k ≤ 4) && (decide (k ≠ 4) || (decide (1 ≤ n) && (decide (0 ≤ lo) && (decide (lo ≤ 64) && decide (hi ≤ 64))))))
mutual
def fitT : RT → Bool
 | .mk k _ _ ts lo hi => fitB k ts.length lo hi && fitL ts
def fitL : List RT → Bool
 | [] => true
 | t :: ts => fitT t && fitL ts
end
theorem dc4 : ∀ {ts : List RT}, fitL ts = true → ∀ t ∈ ts, fitT t = true
 | [], _, t, h => by simp at h
 | u :: ts, hn, t, h => by
  simp only [fitL, Bool.and_eq_true] at hn
  rcases List.mem_cons.1 h with rfl | h
  ·exact hn.1
  ·exact dc4 hn.2 t h
theorem ef7 {k : Int} {w : Nat → Nat} {x : EV} {ts : List RT} {lo hi : Int} (h : bd3 (.mk k w x ts lo hi) = true) : fitB k ts.length lo hi = true := by
 unfold fitB
 simp only [Bool.and_eq_true, Bool.or_eq_true, decide_eq_true_eq]
 by_cases k0 : k = 0
 ·omega
 by_cases k1 : k = 1
 ·omega
 by_cases k2 : k = 2
 ·omega
 by_cases k3 : k = 3
 ·omega
 by_cases k4 : k = 4
 ·simp [bd3, k4] at h
  omega
 ·simp [bd3, k0, k1, k2, k3, k4] at h
theorem co0 : ∀ {t : RT}, aj3 t = true → fitT t = true := by
 intro t
 refine RT.rec (motive_1 := fun t => aj3 t = true → fitT t = true) (motive_2 := fun ts => bh8 ts = true → fitL ts = true) ?_ ?_ ?_ t
 ·intro k w x ts lo hi ih h
  simp only [aj3, Bool.and_eq_true] at h
  simp only [fitT, Bool.and_eq_true]
  exact ⟨ef7 h.1, ih h.2⟩
 ·intro _; simp [fitL]
 ·intro t ts h1 h2 h
  simp only [bh8, Bool.and_eq_true] at h
  simp only [fitL, Bool.and_eq_true]
  exact ⟨h1 h.1, h2 h.2⟩
section
variable {E : Env} [R : bv0 E]
theorem SlV.newP {sz : Nat} {x : EV} {es : List EV} (h : SlV sz x es) (L : Nat) : newP L x = false := by
 rcases h.shape with ⟨rfl, _⟩ | ⟨rfl, _⟩ | ⟨s, rfl⟩ <;> rfl
def dk9 (E : Env) [R : bv0 E] (s : List UInt8) (t : RT) : Prop := ∀ (x : EV) (a : List Bool) (k : Nat) (o : Bool) (H : Heap), am9 x (posL 0 a) → a.length = s.length + 1 → H[k]? = some (some (.row 2 [.agg [.str s, .bool o]])) →
 ∃ y, den E R.ag2 [.ptr k 2 0 0, t.E, x] H = some (.ret y, H.set k (some (.row 2 [.agg [.str s, .bool (o || as8 s t a)]]))) ∧ am9 y (posL 0 (aa5 s t a))
theorem dr9 (hS : bb4 E R.ab1) {m : Nat} (hm : m ≤ 100001) {x y : EV} {a b : List Bool} (hx : am9 x (posL 0 a)) (hy : am9 y (posL 0 b)) (ha : a.length = m) (hb : b.length = m) (H : Heap) :
  den E R.af0 [x, y] H = some (.ret (outV (posL 0 (orL a b))), H) := by
 have l1 := au1 a 0
 have l2 := au1 b 0
 have c1 := bb3 a
 have c2 := bb3 b
 have h := dh1 (E := E) hS x y _ _ hx hy (by omega) H
 rwa [ds0 (by omega)] at h
theorem lessP {m : Nat} (hm : m ≤ 100001) {x y : EV} {a b : List Bool} (hx : am9 x (posL 0 a)) (hy : am9 y (posL 0 b)) (ha : a.length = m) (hb : b.length = m) :
  ∃ z, (∀ H, den E R.aj8 [x, y] H = some (.ret z, H)) ∧ am9 z (posL 0 (av5 a b)) := by
 have l1 := au1 a 0
 have l2 := au1 b 0
 have c1 := bb3 a
 have c2 := bb3 b
 have h := eg0 (E := E) x y _ _ hx hy (by omega) (by omega) (aw6 _ _)
 rwa [ef9 (by omega)] at h
theorem eo1 {m : Nat} (hm : m ≤ 100001) {a : List Bool} (ha : a.length = m) : am9 (outV (posL 0 a)) (posL 0 a) := by
 have l1 := au1 a 0
 have c1 := bb3 a
 exact dp6 (by omega)
set_option maxHeartbeats 4000000 in
theorem df2 (hS : bb4 E R.ab1) (s : List UInt8) (hs : s.length ≤ 100000) (w : Nat → Nat) (x0 : EV) (ts : List RT) (lo hi : Int) (hx0 : SlV 8 x0 (ts.map RT.E)) (t : RT) (ht0 : ts[0]? = some t) (hl : Lin (s.length + 1) (aa5 s t)) (hc : dk9 E s t)
  (hlo : 0 ≤ lo ∧ lo ≤ 64) (hhi : hi ≤ 64) (x : EV) (a : List Bool) (hx : am9 x (posL 0 a)) (ha : a.length = s.length + 1) (k : Nat) (o : Bool) (H : Heap) (hk : H[k]? = some (some (.row 2 [.agg [.str s, .bool o]]))) :
  ∃ y, den E R.ai6 [.ptr k 2 0 0, .agg [.int .i64 4, .int .u64 (w 0 : Nat), .int .u64 (w 1 : Nat), .int .u64 (w 2 : Nat), .int .u64 (w 3 : Nat), x0, .int .i64 lo, .int .i64 hi], x] H =
    some (.ret y, H.set k (some (.row 2 [.agg [.str s, .bool (o || bw3 s ts lo hi a)]]))) ∧ am9 y (posL 0 (an0 s 4 w lo hi (ts.map (aa5 s)) a)) := by
 have hts : ∃ r, ts = t :: r := by
  cases ts with
  | nil => simp at ht0
  | cons u r => exact ⟨r, by simp at ht0; rw [ht0]⟩
 have hF : an0 s 4 w lo hi (ts.map (aa5 s)) a = sumN (aa5 s t) (powN (aa5 s t) lo.toNat a) (if hi < 0 then s.length + 1 else (hi - lo).toNat) := by
  obtain ⟨r, rfl⟩ := hts
  simp [an0]
 have hG : bw3 s ts lo hi a = (opP (aa5 s t) (as8 s t) lo.toNat a || opQ (aa5 s t) (as8 s t) (powN (aa5 s t) lo.toNat a) (if hi < 0 then s.length + 2 else (hi - lo).toNat)) := by
  obtain ⟨r, rfl⟩ := hts
  simp [bw3]
 rw [hF, hG]
 have hg0 := dp7 s t
 have hf : dk9 E s t := hc
 unfold dk9 at hf
 generalize as8 s t = g at hf hg0 ⊢
 generalize aa5 s t = f at hf hl ⊢
 clear hF hG hts hc
 have hat : be0 8 0 x0 = some (.iptr t.E.cells 0) := hx0.atT ht0
 have hyl := RT.cells t
 have hyt : List.take 8 t.E.cells = t.E.cells := List.take_of_length_le (by omega)
 have hya : EV.agg t.E.cells = t.E := by cases t; rfl
 unfold EV.cells at hyt hyl hya hat
 have ox := hx0.one.2
 have cx := hx0.one.1
 obtain ⟨cf, oF⟩ := hx.one
 have hkl := aa2 hk
 have hself : H.set k (some (.row 2 [.agg [.str s, .bool o]])) = H := by
  apply List.ext_getElem?
  intro j
  by_cases hj : k = j
  ·subst hj; rw [List.getElem?_set_self hkl, hk]
  ·rw [List.getElem?_set_ne hj]
 have g1 : ∀ (b : Option EB) (G : Heap), (H.set k b ++ G)[k]? = some b := fun b G => by rw [List.getElem?_append_left (by simpa using hkl), List.getElem?_set_self hkl]
 have s1 : ∀ (b c : Option EB) (G : Heap), (H.set k b ++ G).set k c = H.set k c ++ G := fun b c G => by rw [List.set_append_left _ _ (by simpa using hkl), List.set_set]
 have a1 : ∀ (b c : Option EB), (H.set k b ++ [c])[H.length]? = some c := fun b c => by rw [List.getElem?_append_right (by simp)]; simp
 generalize hM : (if hi < 0 then s.length + 2 else (hi - lo).toNat) = M2
 generalize hM1 : (if hi < 0 then s.length + 1 else (hi - lo).toNat) = M1
 suffices h : ∃ r, den E R.ai6 [.ptr k 2 0 0, .agg [.int .i64 4, .int .u64 (w 0 : Nat), .int .u64 (w 1 : Nat), .int .u64 (w 2 : Nat), .int .u64 (w 3 : Nat), x0, .int .i64 lo, .int .i64 hi], x] H = some r ∧
   ∃ y, r = (.ret y, H.set k (some (.row 2 [.agg [.str s, .bool (o || opP f g lo.toNat a || opQ f g (powN f lo.toNat a) M2)]]))) ∧ am9 y (posL 0 (sumN f (powN f lo.toNat a) M1)) by
  rw [← Bool.or_assoc]
  obtain ⟨r, h1, y, rfl, h2⟩ := h
  exact ⟨y, h1, h2⟩
 refine cq7 R.ax3 (by simp) ?_
 unfold Gn.ap3 Gn.al8
 unfold EV.one at ox oF
 unfold EV.cells at cx cf
 repeat' first | (simp (disch := first | omega | assumption) only [go_sem, simprocAttr, *]) | refine aa0 (fun hb=>?_) fun hb=>?_ | refine aa1 (fun hb=>?_) fun hb=>?_
 all_goals (try simp only [FX] at *)
 all_goals first | omega | skip
 refine al1 (ι := Nat × EV) (fun q => q.1 ≤ lo.toNat ∧ am9 q.2 (posL 0 (powN f q.1 a))) (fun q => lo.toNat - q.1) (fun q => [(0, .ptr k 2 0 0), (2, q.2), (4, .ptr H.length 8 0 0), (12, .int .i64 lo), (13, .int .i64 q.1)])
  (fun q => H.set k (some (.row 2 [.agg [.str s, .bool (o || opP f g q.1 a)]])) ++ [some (.row 8 [.agg [.int .i64 4, .int .u64 (w 0 : Nat), .int .u64 (w 1 : Nat), .int .u64 (w 2 : Nat), .int .u64 (w 3 : Nat), x0, .int .i64 lo, .int .i64 hi]])]) (0, x) ⟨by simp, hx⟩ ?_ ?_ ?_
 ·simp (disch := omega) only [go_sem, simprocAttr, Sl]
 ·simp [opP, hself]
 clear hself hk hx cf oF x
 rintro ⟨i, y⟩ t1 ⟨hi1, hy⟩ ht K hK
 simp only at hi1 hy ht
 simp (disch := omega) only [go_sem, simprocAttr, Sl] at ht
 obtain ⟨cy, oy⟩ := hy.one
 unfold EV.one at oy
 unfold EV.cells at cy
 have hpl := (ae8 hl i).len a ha
 by_cases hlt : i < lo.toNat
 ·obtain ⟨z, h1, h2⟩ := hf y (powN f i a) k (o || opP f g i a) (H.set k (some (.row 2 [.agg [.str s, .bool (o || opP f g i a)]])) ++ [some (.row 8 [.agg [.int .i64 4, .int .u64 (w 0 : Nat), .int .u64 (w 1 : Nat), .int .u64 (w 2 : Nat), .int .u64 (w 3 : Nat), x0, .int .i64 lo, .int .i64 hi]])]) hy hpl (g1 _ _)
  rw [s1] at h1
  have go := fun s' H' => hK (i + 1, z) s' H' ⟨by simp only; omega, h2⟩ (by simp only; omega)
  simp only [opP, ← Bool.or_assoc] at go
  clear hK
  obtain ⟨cz, oz⟩ := h2.one
  unfold EV.one at oz
  unfold EV.cells at cz
  repeat' first | (simp (disch := first | omega | assumption) only [go_sem, simprocAttr, *]) | refine aa0 (fun hb=>?_) fun hb=>?_ | refine aa1 (fun hb=>?_) fun hb=>?_
  all_goals (try simp only [FX] at *)
  all_goals first | omega | skip
  refine go _ _ ?_ rfl
  simp (disch := omega) only [go_sem, simprocAttr, Sl, ht, and_self, ad6]
 ·have hie : i = lo.toNat := by omega
  subst hie
  clear hK
  generalize opP f g lo.toNat a = op1 at ht ⊢
  generalize powN f lo.toNat a = b at hy hpl ⊢
  repeat' first | (simp (disch := first | omega | assumption) only [go_sem, simprocAttr, *]) | refine aa0 (fun hb=>?_) fun hb=>?_ | refine aa1 (fun hb=>?_) fun hb=>?_
  all_goals (try simp only [FX] at *)
  all_goals first | omega | skip
  generalize (o || op1) = O
  clear o hlt hi1 ha a
  have hmu : ∀ j, (rnd f b j).1.length = s.length + 1 ∧ (rnd f b j).2.length = s.length + 1 := fun j => ⟨(ba9 hl hpl j).1, (ba9 hl hpl j).2.1⟩
  refine al1 (ι := Nat × EV × EV) (fun q => am9 q.2.1 (posL 0 (rnd f b q.1).1) ∧ am9 q.2.2 (posL 0 (rnd f b q.1).2) ∧ q.1 + (2 * (s.length + 1 - cntT (rnd f b q.1).1) + (if cntT (rnd f b q.1).2 = 0 then 0 else 1)) ≤ 2 * (s.length + 1) + 1 ∧ (0 ≤ hi → q.1 ≤ (hi - lo).toNat))
   (fun q => 2 * (s.length + 1 - cntT (rnd f b q.1).1) + (if cntT (rnd f b q.1).2 = 0 then 0 else 1)) (fun q => [(0, .ptr k 2 0 0), (4, .ptr H.length 8 0 0), (7, q.2.1), (8, q.2.2), (9, .int .i64 (lo + q.1))])
   (fun q => H.set k (some (.row 2 [.agg [.str s, .bool (O || opQ f g b q.1)]])) ++ [some (.row 8 [.agg [.int .i64 4, .int .u64 (w 0 : Nat), .int .u64 (w 1 : Nat), .int .u64 (w 2 : Nat), .int .u64 (w 3 : Nat), x0, .int .i64 lo, .int .i64 hi]])]) (0, y, y) ⟨hy, hy, ?_, by simp⟩ ?_ ?_ ?_
  ·simp only
   split <;> omega
  ·simp (disch := omega) only [go_sem, simprocAttr, Sl, ht, and_self, Int.natCast_zero, Int.add_zero]
  ·simp [opQ]
  clear ht hy cy oy y t1
  rintro ⟨j, ya, yf⟩ t1 ⟨hya', hyf, hj1, hj2⟩ ht K hK
  simp only at hya' hyf hj1 hj2 ht
  simp (disch := omega) only [go_sem, simprocAttr, Sl] at ht
  obtain ⟨cya, oya⟩ := hya'.one
  obtain ⟨cyf, oyf⟩ := hyf.one
  unfold EV.one at oya oyf
  unfold EV.cells at cya cyf
  have lyf := hyf.lenI
  rw [au1] at lyf
  obtain ⟨hL1, hL2⟩ := hmu j
  by_cases hcont : cntT (rnd f b j).2 ≠ 0 ∧ (hi < 0 ∨ lo + j < hi)
  ·obtain ⟨hc0, hc1⟩ := hcont
   obtain ⟨z, h1, h2⟩ := hf yf (rnd f b j).2 k (O || opQ f g b j) (H.set k (some (.row 2 [.agg [.str s, .bool (O || opQ f g b j)]])) ++ [some (.row 8 [.agg [.int .i64 4, .int .u64 (w 0 : Nat), .int .u64 (w 1 : Nat), .int .u64 (w 2 : Nat), .int .u64 (w 3 : Nat), x0, .int .i64 lo, .int .i64 hi]])]) hyf hL2 (g1 _ _)
   rw [s1] at h1
   obtain ⟨z2, h3, h4⟩ := lessP (E := E) (m := s.length + 1) (by omega) h2 hya' (hl.len _ hL2) hL1
   have hL3 : (av5 (f (rnd f b j).2) (rnd f b j).1).length = s.length + 1 := (hmu (j + 1)).2
   have h5 := dr9 (E := E) hS (m := s.length + 1) (by omega) hya' h4 hL1 hL3
   have h6 := eo1 (m := s.length + 1) (by omega) (a := orL (rnd f b j).1 (av5 (f (rnd f b j).2) (rnd f b j).1)) (hmu (j + 1)).1
   have hless := ed2 hl hpl hc0
   have go := fun s' H' => hK (j + 1, outV (posL 0 (orL (rnd f b j).1 (av5 (f (rnd f b j).2) (rnd f b j).1))), z2) s' H' ⟨h6, h4, by simp only; omega, fun h => by simp only; omega⟩ hless
   simp only [opQ, ← Bool.or_assoc] at go
   generalize outV (posL 0 (orL (rnd f b j).1 (av5 (f (rnd f b j).2) (rnd f b j).1))) = z3 at go h5 h6
   obtain ⟨cz, oz⟩ := h2.one
   obtain ⟨cz2, oz2⟩ := h4.one
   obtain ⟨cz3, oz3⟩ := h6.one
   unfold EV.one at oz oz2 oz3
   unfold EV.cells at cz cz2 cz3
   have hcj : 0 < cntT (rnd f b j).2 := Nat.pos_of_ne_zero hc0
   generalize cntT (rnd f b j).2 = c at lyf hcj
   clear hK hless h2 h4 h6 hf hmu hya' hyf hj2
   rcases hc1 with hc1 | hc1
   ·repeat' first | (simp (disch := first | omega | assumption) only [go_sem, simprocAttr, *]) | refine aa0 (fun hb=>?_) fun hb=>?_ | refine aa1 (fun hb=>?_) fun hb=>?_
    all_goals (try simp only [FX] at *)
    all_goals first | omega | skip
    refine go _ _ ?_ rfl
    simp (disch := omega) only [go_sem, simprocAttr, Sl, ht, and_self, ad6, Int.add_assoc]
   ·have hi0 : ¬ hi < 0 := by omega
    repeat' first | (simp (disch := first | omega | assumption) only [go_sem, simprocAttr, *]) | refine aa0 (fun hb=>?_) fun hb=>?_ | refine aa1 (fun hb=>?_) fun hb=>?_
    all_goals (try simp only [FX] at *)
    all_goals first | omega | skip
    refine go _ _ ?_ rfl
    simp (disch := omega) only [go_sem, simprocAttr, Sl, ht, and_self, ad6, Int.add_assoc]
  ·have hall : (rnd f b j).1 = sumN f b M1 := by
    refine ed3 hl hpl ?_
    by_cases hc0 : cntT (rnd f b j).2 = 0
    ·refine .inl ⟨hc0, ?_⟩
     rw [← hM1]
     split <;> omega
    ·refine .inr ?_
     rw [← hM1]
     split <;> omega
   have hopn : opQ f g b j = opQ f g b M2 := by
    refine ee3 hl hpl hg0 ?_
    by_cases hc0 : cntT (rnd f b j).2 = 0
    ·refine .inl ⟨hc0, ?_⟩
     rw [← hM]
     split <;> omega
    ·refine .inr ?_
     rw [← hM]
     split <;> omega
   rw [hall] at hya'
   rw [hopn]
   generalize cntT (rnd f b j).2 = c at lyf hcont
   have hyok := hya'.ok H.length
   clear hK hall hopn hmu hf hyf hj1 hj2 hL1 hL2 hM hM1 hl hpl hS
   by_cases hc0 : c = 0
   ·subst hc0
    repeat' first | (simp (disch := first | omega | assumption) only [go_sem, simprocAttr, *]) | refine aa0 (fun hb=>?_) fun hb=>?_ | refine aa1 (fun hb=>?_) fun hb=>?_
    all_goals (try simp only [FX] at *)
    all_goals first | omega | skip
    exact ⟨_, bf7 (hya'.newP _) (bg6 hyok) rfl rfl, ya, rfl, hya'⟩
   ·have h1 : ¬ hi < 0 := by omega
    have h2 : ¬ lo + j < hi := by omega
    have h3 : 0 < c := by omega
    repeat' first | (simp (disch := first | omega | assumption) only [go_sem, simprocAttr, *]) | refine aa0 (fun hb=>?_) fun hb=>?_ | refine aa1 (fun hb=>?_) fun hb=>?_
    all_goals (try simp only [FX] at *)
    all_goals first | omega | skip
    exact ⟨_, bf7 (hya'.newP _) (bg6 hyok) rfl rfl, ya, rfl, hya'⟩
end
def boxT (ts : List RT) : Heap := ts.map fun t => some (.row 8 [t.E])
theorem RT.ones {t : RT} (h : t.Ok) : t.E.cells.all EV.one = true := by
 cases h with
 | mk k w x ts lo hi hw hx hts =>
  have := hx.one.2
  simp [RT.E, EV.cells, this]
  simp [EV.one]
section
variable {E : Env} [R : bv0 E]
set_option maxHeartbeats 4000000 in
theorem co5 (hH : bt4 E R.al0 .u8) (hS : bb4 E R.ab1) (s : List UInt8) (hs : s.length ≤ 100000) {t : RT} (ht : t.Ok) : fitT t = true → dk9 E s t := by
 induction ht with
 | mk kd w x0 ts lo hi hw hx0 hts ih =>
  intro hfit x a k o H hx ha hk
  simp only [fitT, Bool.and_eq_true] at hfit
  obtain ⟨hfb, hfl⟩ := hfit
  simp only [fitB, Bool.and_eq_true, Bool.or_eq_true, decide_eq_true_eq] at hfb
  have hsub := fun t hm => ih t hm (dc4 hfl t hm)
  have hlin : ∀ t ∈ ts, Lin (s.length + 1) (aa5 s t) := fun t hm => ak6 s (hts t hm)
  have hlT : Lin (s.length + 1) (aa5 s (.mk kd w x0 ts lo hi)) := ak6 s (.mk kd w x0 ts lo hi hw hx0 hts)
  have he : aa5 s (.mk kd w x0 ts lo hi) a = an0 s kd w lo hi (ts.map (aa5 s)) a := by rw [aa5, aq1]
  have ho : as8 s (.mk kd w x0 ts lo hi) a = if cntT a = 0 then false else if kd = 1 then a.getD s.length false && !zset w else if kd = 2 then bj6 s ts a else if kd = 3 then bl0 s ts a else if kd = 4 then bw3 s ts lo hi a else false := by rw [as8]
  have lx0 := hx0.len
  rw [List.length_map] at lx0
  have lex := hx0.le
  rw [List.length_map] at lex
  have ox := hx0.one.2
  have cx := hx0.one.1
  obtain ⟨cf, oF⟩ := hx.one
  have lf := hx.lenI
  rw [au1] at lf
  have hcle := bb3 a
  have hkl := aa2 hk
  have hself : H.set k (some (.row 2 [.agg [.str s, .bool o]])) = H := by
   apply List.ext_getElem?
   intro j
   by_cases hj : k = j
   ·subst hj; rw [List.getElem?_set_self hkl, hk]
   ·rw [List.getElem?_set_ne hj]
  have g1 : ∀ (b : Option EB) (G : Heap), (H.set k b ++ G)[k]? = some b := fun b G => by rw [List.getElem?_append_left (by simpa using hkl), List.getElem?_set_self hkl]
  have s1 : ∀ (b c : Option EB) (G : Heap), (H.set k b ++ G).set k c = H.set k c ++ G := fun b c G => by rw [List.set_append_left _ _ (by simpa using hkl), List.set_set]
  suffices h : ∃ r, den E R.ag2 [.ptr k 2 0 0, .agg [.int .i64 kd, .int .u64 (w 0 : Nat), .int .u64 (w 1 : Nat), .int .u64 (w 2 : Nat), .int .u64 (w 3 : Nat), x0, .int .i64 lo, .int .i64 hi], x] H = some r ∧
    ∃ y, r = (.ret y, H.set k (some (.row 2 [.agg [.str s, .bool (o || as8 s (.mk kd w x0 ts lo hi) a)]]))) ∧ am9 y (posL 0 (aa5 s (.mk kd w x0 ts lo hi) a)) by
   obtain ⟨r, h1, y, rfl, h2⟩ := h
   exact ⟨y, h1, h2⟩
  refine cq7 R.bb1 (by simp) ?_
  unfold Gn.at5 Gn.ap4
  by_cases hc0 : cntT a = 0
  ·have hz : a = af4 (s.length + 1) := by rw [← ha]; exact be7 hc0
   have e1 : posL 0 (aa5 s (.mk kd w x0 ts lo hi) a) = [] := by rw [hz, hlT.no, ca0]
   have e2 : as8 s (.mk kd w x0 ts lo hi) a = false := by rw [ho, if_pos hc0]
   rw [hc0] at lf
   rw [e1, e2, Bool.or_false, hself]
   clear ih hsub hlin hlT he ho e1 e2 hfl hfb hself s1 g1
   unfold EV.one at ox oF
   unfold EV.cells at cx cf
   repeat' first | (simp (disch := first | omega | assumption) only [go_sem, simprocAttr, *]) | refine aa0 (fun hb=>?_) fun hb=>?_ | refine aa1 (fun hb=>?_) fun hb=>?_
   all_goals (try simp only [FX] at *)
   all_goals first | omega | skip
   exact ⟨_, aa4 rfl rfl, .nilsl, rfl, .nil⟩
  have hcp : 0 < cntT a := Nat.pos_of_ne_zero hc0
  rw [if_neg hc0] at ho
  have g2 : ∀ (b : EB), (H ++ [some b])[k]? = some (some (.row 2 [.agg [.str s, .bool o]])) := fun b => by rw [List.getElem?_append_left hkl]; exact hk
  have s2 : ∀ (b : Option EB) (c : EB), (H ++ [some c]).set k b = H.set k b ++ [some c] := fun b c => List.set_append_left _ _ hkl
  rw [ho, he]
  by_cases k0 : kd = 0
  ·subst k0
   have e1 : an0 s 0 w lo hi (ts.map (aa5 s)) a = a := by simp [an0]
   have hxo := hx.ok H.length
   rw [e1]
   rw [if_neg (by omega), if_neg (by omega), if_neg (by omega), if_neg (by omega), Bool.or_false, hself]
   generalize cntT a = c at lf hcp
   clear ih hsub hlin hlT he ho e1 hfl hfb hself s1 g1 g2 s2 hc0 hcle
   unfold EV.one at ox oF
   unfold EV.cells at cx cf
   repeat' first | (simp (disch := first | omega | assumption) only [go_sem, simprocAttr, *]) | refine aa0 (fun hb=>?_) fun hb=>?_ | refine aa1 (fun hb=>?_) fun hb=>?_
   all_goals (try simp only [FX] at *)
   all_goals first | omega | skip
   exact ⟨_, aa4 hxo rfl, x, rfl, hx⟩
  by_cases k1 : kd = 1
  ·subst k1
   have e1 : an0 s 1 w lo hi (ts.map (aa5 s)) a = bp7 w s a := by simp [an0]
   rw [e1, if_pos rfl]
   have hb := ei8 (E := E) hH w hw s hs x (posL 0 a) hx (by rw [au1]; omega) (fun p hp => by have := bz9 hp; omega) k o _ (g2 (.row 8 [.agg [.int .i64 1, .int .u64 (w 0 : Nat), .int .u64 (w 1 : Nat), .int .u64 (w 2 : Nat), .int .u64 (w 3 : Nat), x0, .int .i64 lo, .int .i64 hi]]))
   have hop : opB w s.length (posL 0 a) = (a.getD s.length false && !zset w) := by
    unfold opB
    congr 1
    rw [Bool.eq_iff_iff, List.any_eq_true]
    constructor
    ·rintro ⟨p, h1, h2⟩
     have h3 := (bz9 h1).2.2
     simp only [decide_eq_true_eq] at h2
     rw [h2] at h3
     exact h3
    ·intro h
     exact ⟨s.length, al3.2 ⟨s.length, h, by omega⟩, by simp⟩
   rw [ec2 w ha, hop, s2] at hb
   have hV := eo1 (m := s.length + 1) (by omega) (a := bp7 w s a) (by rw [be8 ha])
   have hVo := hV.ok H.length
   generalize (a.getD s.length false && !zset w) = ob at hb ⊢
   generalize outV (posL 0 (bp7 w s a)) = z at hb hV hVo
   generalize cntT a = c at lf hcp
   obtain ⟨cz, oz⟩ := hV.one
   clear ih hsub hlin hlT he ho e1 hfl hfb hself s1 g1 g2 s2 hc0 hcle
   unfold EV.one at ox oF oz
   unfold EV.cells at cx cf cz
   repeat' first | (simp (disch := first | omega | assumption) only [go_sem, simprocAttr, *]) | refine aa0 (fun hb=>?_) fun hb=>?_ | refine aa1 (fun hb=>?_) fun hb=>?_
   all_goals (try simp only [FX] at *)
   all_goals first | omega | skip
   exact ⟨_, bf7 (hV.newP _) (bg6 hVo) rfl rfl, z, rfl, hV⟩
  by_cases k2 : kd = 2
  ·subst k2
   have e1 : an0 s 2 w lo hi (ts.map (aa5 s)) a = (ts.map (aa5 s)).foldl (fun x f => f x) a := by simp [an0]
   rw [e1, if_neg (by omega), if_pos rfl]
   have hcc : 0 < cntT a := hcp
   generalize hcd : cntT a = c at lf hcp
   clear ih hlT he ho e1 hfl hfb hc0 hcle
   unfold EV.one at ox oF
   unfold EV.cells at cx cf
   repeat' first | (simp (disch := first | omega | assumption) only [go_sem, simprocAttr, *]) | refine aa0 (fun hb=>?_) fun hb=>?_ | refine aa1 (fun hb=>?_) fun hb=>?_
   all_goals (try simp only [FX] at *)
   all_goals first | omega | skip
   refine al1 (ι := Nat × EV) (fun q => q.1 ≤ ts.length ∧ am9 q.2 (posL 0 (((ts.take q.1).map (aa5 s)).foldl (fun x f => f x) a))) (fun q => ts.length - q.1) (fun q => [(0, .ptr k 2 0 0), (2, q.2), (27, x0), (28, .int .i64 ts.length), (29, .int .i64 q.1)])
    (fun q => H.set k (some (.row 2 [.agg [.str s, .bool (o || bj6 s (ts.take q.1) a)]])) ++ some (.row 8 [.agg [.int .i64 2, .int .u64 (w 0 : Nat), .int .u64 (w 1 : Nat), .int .u64 (w 2 : Nat), .int .u64 (w 3 : Nat), x0, .int .i64 lo, .int .i64 hi]]) :: boxT (ts.take q.1)) (0, x) ⟨by simp, hx⟩ ?_ ?_ ?_
   ·simp (disch := omega) only [go_sem, simprocAttr, Sl]
   ·simp [bj6, boxT, hself]
   clear hself hk hx cf oF g2 s2 lf x
   rintro ⟨i, y⟩ t1 ⟨hi1, hy⟩ ht K hK
   simp only at hi1 hy ht
   simp (disch := omega) only [go_sem, simprocAttr, Sl] at ht
   obtain ⟨cy, oy⟩ := hy.one
   unfold EV.one at oy
   unfold EV.cells at cy
   by_cases hlt : i < ts.length
   ·obtain ⟨u, hu⟩ := ac0 hlt
    have hum := List.mem_of_getElem? hu
    have hat := hx0.atT hu
    have hyl := RT.cells u
    have hyt : List.take 8 u.E.cells = u.E.cells := List.take_of_length_le (by omega)
    have hya : EV.agg u.E.cells = u.E := by cases u; rfl
    have hal : (((ts.take i).map (aa5 s)).foldl (fun x f => f x) a).length = s.length + 1 := (bs5 fun f hf => by
     obtain ⟨t, h1, rfl⟩ := List.mem_map.1 hf
     exact hlin t (List.mem_of_mem_take h1)).len a ha
    have hon := cf3 (s := s) (a := a) hu
    have hfn : ((ts.take (i + 1)).map (aa5 s)).foldl (fun x f => f x) a = aa5 s u (((ts.take i).map (aa5 s)).foldl (fun x f => f x) a) := by
     rw [List.take_add_one, hu, List.map_append, List.foldl_append]
     rfl
    have hbn : boxT (ts.take (i + 1)) = boxT (ts.take i) ++ [some (.row 8 [u.E])] := by
     unfold boxT
     rw [List.take_add_one, hu, List.map_append]
     rfl
    have hbl : (boxT (ts.take i)).length = i := by unfold boxT; rw [List.length_map, List.length_take]; omega
    have hI := hsub u hum
    unfold dk9 at hI
    obtain ⟨z, h1, h2⟩ := hI y _ k (o || bj6 s (ts.take i) a) (H.set k (some (.row 2 [.agg [.str s, .bool (o || bj6 s (ts.take i) a)]])) ++ some (.row 8 [.agg [.int .i64 2, .int .u64 (w 0 : Nat), .int .u64 (w 1 : Nat), .int .u64 (w 2 : Nat), .int .u64 (w 3 : Nat), x0, .int .i64 lo, .int .i64 hi]]) :: (boxT (ts.take i) ++ [some (.row 8 [u.E])])) hy hal (g1 _ _)
    rw [s1] at h1
    have go := fun s' H' => hK (i + 1, z) s' H' ⟨by simp only; omega, by simp only; rw [hfn]; exact h2⟩ (by simp only; omega)
    simp only [hon, hbn, ← Bool.or_assoc] at go
    obtain ⟨cz, oz⟩ := h2.one
    have hyo := RT.ones (hts u hum)
    unfold EV.one at oz
    unfold EV.cells at hyt hyl hya hat cz hyo
    generalize boxT (ts.take i) = G at h1 go hbl ⊢
    have a1 : ∀ (b c d : Option EB), (H.set k b ++ c :: (G ++ [d]))[H.length + (i + 1)]? = some d := fun b c d => by
     rw [List.getElem?_append_right (by simp), List.length_set, Nat.add_sub_cancel_left, List.getElem?_cons_succ, List.getElem?_append_right (by omega), hbl, Nat.sub_self]
     rfl
    have a2 : ∀ (b c d e : Option EB), (H.set k b ++ c :: (G ++ [d])).set (H.length + (i + 1)) e = H.set k b ++ c :: (G ++ [e]) := fun b c d e => by
     rw [List.set_append_right _ _ (by simp), List.length_set, Nat.add_sub_cancel_left, List.set_cons_succ, List.set_append_right _ _ (by omega), hbl, Nat.sub_self]
     rfl
    generalize bj6 s (ts.take i) a = oc at h1 go ⊢
    generalize as8 s u (((ts.take i).map (aa5 s)).foldl (fun x f => f x) a) = ou at h1 go
    clear hK hI hsub hlin hon hfn hbn
    repeat' first | (simp (disch := first | omega | assumption) only [go_sem, simprocAttr, *]) | refine aa0 (fun hb=>?_) fun hb=>?_ | refine aa1 (fun hb=>?_) fun hb=>?_
    all_goals (try simp only [FX] at *)
    all_goals first | omega | skip
    refine go _ _ ?_ rfl
    simp (disch := omega) only [go_sem, simprocAttr, Sl, ht, and_self, ad6]
   ·have hie : i = ts.length := by omega
    subst hie
    rw [List.take_length] at hy ⊢
    have hyok := hy.ok H.length
    generalize boxT ts = G
    clear hK hsub hlin
    repeat' first | (simp (disch := first | omega | assumption) only [go_sem, simprocAttr, *]) | refine aa0 (fun hb=>?_) fun hb=>?_ | refine aa1 (fun hb=>?_) fun hb=>?_
    all_goals (try simp only [FX] at *)
    all_goals first | omega | skip
    exact ⟨_, bf7 (hy.newP _) (bg6 hyok) rfl rfl, y, rfl, hy⟩
  by_cases k3 : kd = 3
  ·subst k3
   have e1 : an0 s 3 w lo hi (ts.map (aa5 s)) a = (ts.map (aa5 s)).foldl (fun o f => orL o (f a)) (af4 (s.length + 1)) := by simp [an0]
   rw [e1, if_neg (by omega), if_neg (by omega), if_pos rfl]
   generalize hcd : cntT a = c at lf hcp
   clear ih hlT he ho e1 hfl hfb hc0 hcle
   unfold EV.one at ox oF
   unfold EV.cells at cx cf
   repeat' first | (simp (disch := first | omega | assumption) only [go_sem, simprocAttr, *]) | refine aa0 (fun hb=>?_) fun hb=>?_ | refine aa1 (fun hb=>?_) fun hb=>?_
   all_goals (try simp only [FX] at *)
   all_goals first | omega | skip
   refine al1 (ι := Nat × EV) (fun q => q.1 ≤ ts.length ∧ am9 q.2 (posL 0 (((ts.take q.1).map (aa5 s)).foldl (fun o f => orL o (f a)) (af4 (s.length + 1))))) (fun q => ts.length - q.1) (fun q => [(0, .ptr k 2 0 0), (2, x), (9, q.2), (42, x0), (43, .int .i64 ts.length), (44, .int .i64 q.1)])
    (fun q => H.set k (some (.row 2 [.agg [.str s, .bool (o || bl0 s (ts.take q.1) a)]])) ++ some (.row 8 [.agg [.int .i64 3, .int .u64 (w 0 : Nat), .int .u64 (w 1 : Nat), .int .u64 (w 2 : Nat), .int .u64 (w 3 : Nat), x0, .int .i64 lo, .int .i64 hi]]) :: boxT (ts.take q.1)) (0, .nilsl) ⟨by simp, by simp only [List.take_zero, List.map_nil, List.foldl_nil, ca0]; exact .nil⟩ ?_ ?_ ?_
   ·simp (disch := omega) only [go_sem, simprocAttr, Sl]
   ·simp [bl0, boxT, hself]
   clear hself hk g2 s2 lf
   rintro ⟨i, y⟩ t1 ⟨hi1, hy⟩ ht K hK
   simp only at hi1 hy ht
   simp (disch := omega) only [go_sem, simprocAttr, Sl] at ht
   obtain ⟨cy, oy⟩ := hy.one
   unfold EV.one at oy
   unfold EV.cells at cy
   by_cases hlt : i < ts.length
   ·obtain ⟨u, hu⟩ := ac0 hlt
    have hum := List.mem_of_getElem? hu
    have hat := hx0.atT hu
    have hyl := RT.cells u
    have hyt : List.take 8 u.E.cells = u.E.cells := List.take_of_length_le (by omega)
    have hya : EV.agg u.E.cells = u.E := by cases u; rfl
    have hal : (((ts.take i).map (aa5 s)).foldl (fun o f => orL o (f a)) (af4 (s.length + 1))).length = s.length + 1 := (cb5 (g := fun _ => af4 (s.length + 1)) (cr4 _) fun f hf => by
     obtain ⟨t, h1, rfl⟩ := List.mem_map.1 hf
     exact hlin t (List.mem_of_mem_take h1)).len a ha
    have hel := (hlin u hum).len a ha
    have hon := cf4 (s := s) (a := a) hu
    have hfn : ((ts.take (i + 1)).map (aa5 s)).foldl (fun o f => orL o (f a)) (af4 (s.length + 1)) = orL (((ts.take i).map (aa5 s)).foldl (fun o f => orL o (f a)) (af4 (s.length + 1))) (aa5 s u a) := by
     rw [List.take_add_one, hu, List.map_append, List.foldl_append]
     rfl
    have hbn : boxT (ts.take (i + 1)) = boxT (ts.take i) ++ [some (.row 8 [u.E])] := by
     unfold boxT
     rw [List.take_add_one, hu, List.map_append]
     rfl
    have hbl : (boxT (ts.take i)).length = i := by unfold boxT; rw [List.length_map, List.length_take]; omega
    have hI := hsub u hum
    unfold dk9 at hI
    obtain ⟨z, h1, h2⟩ := hI x _ k (o || bl0 s (ts.take i) a) (H.set k (some (.row 2 [.agg [.str s, .bool (o || bl0 s (ts.take i) a)]])) ++ some (.row 8 [.agg [.int .i64 3, .int .u64 (w 0 : Nat), .int .u64 (w 1 : Nat), .int .u64 (w 2 : Nat), .int .u64 (w 3 : Nat), x0, .int .i64 lo, .int .i64 hi]]) :: (boxT (ts.take i) ++ [some (.row 8 [u.E])])) hx ha (g1 _ _)
    rw [s1] at h1
    have h3 := dr9 (E := E) hS (m := s.length + 1) (by omega) hy h2 hal hel
    have h4 := eo1 (m := s.length + 1) (by omega) (a := orL (((ts.take i).map (aa5 s)).foldl (fun o f => orL o (f a)) (af4 (s.length + 1))) (aa5 s u a)) (by rw [af9 (by omega)]; exact hal)
    have go := fun s' H' => hK (i + 1, outV (posL 0 (orL (((ts.take i).map (aa5 s)).foldl (fun o f => orL o (f a)) (af4 (s.length + 1))) (aa5 s u a)))) s' H' ⟨by simp only; omega, by simp only; rw [hfn]; exact h4⟩ (by simp only; omega)
    simp only [hon, hbn, ← Bool.or_assoc] at go
    obtain ⟨cz, oz⟩ := h2.one
    have hyo := RT.ones (hts u hum)
    unfold EV.one at oz
    unfold EV.cells at hyt hyl hya hat cz hyo
    generalize boxT (ts.take i) = G at h1 go hbl ⊢
    have a1 : ∀ (b c d : Option EB), (H.set k b ++ c :: (G ++ [d]))[H.length + (i + 1)]? = some d := fun b c d => by
     rw [List.getElem?_append_right (by simp), List.length_set, Nat.add_sub_cancel_left, List.getElem?_cons_succ, List.getElem?_append_right (by omega), hbl, Nat.sub_self]
     rfl
    have a2 : ∀ (b c d e : Option EB), (H.set k b ++ c :: (G ++ [d])).set (H.length + (i + 1)) e = H.set k b ++ c :: (G ++ [e]) := fun b c d e => by
     rw [List.set_append_right _ _ (by simp), List.length_set, Nat.add_sub_cancel_left, List.set_cons_succ, List.set_append_right _ _ (by omega), hbl, Nat.sub_self]
     rfl
    generalize bl0 s (ts.take i) a = oc at h1 go ⊢
    generalize as8 s u a = ou at h1 go
    generalize outV (posL 0 (orL (((ts.take i).map (aa5 s)).foldl (fun o f => orL o (f a)) (af4 (s.length + 1))) (aa5 s u a))) = z4 at h3 h4 go
    obtain ⟨cz4, oz4⟩ := h4.one
    unfold EV.one at oz4
    unfold EV.cells at cz4
    clear hK hI hsub hlin hon hfn hbn
    repeat' first | (simp (disch := first | omega | assumption) only [go_sem, simprocAttr, *]) | refine aa0 (fun hb=>?_) fun hb=>?_ | refine aa1 (fun hb=>?_) fun hb=>?_
    all_goals (try simp only [FX] at *)
    all_goals first | omega | skip
    refine go _ _ ?_ rfl
    simp (disch := omega) only [go_sem, simprocAttr, Sl, ht, and_self, ad6]
   ·have hie : i = ts.length := by omega
    subst hie
    rw [List.take_length] at hy ⊢
    have hyok := hy.ok H.length
    generalize boxT ts = G
    clear hK hsub hlin
    repeat' first | (simp (disch := first | omega | assumption) only [go_sem, simprocAttr, *]) | refine aa0 (fun hb=>?_) fun hb=>?_ | refine aa1 (fun hb=>?_) fun hb=>?_
    all_goals (try simp only [FX] at *)
    all_goals first | omega | skip
    exact ⟨_, bf7 (hy.newP _) (bg6 hyok) rfl rfl, y, rfl, hy⟩
  have k4 : kd = 4 := by omega
  subst k4
  rw [if_neg (by omega), if_neg (by omega), if_neg (by omega), if_pos rfl]
  obtain ⟨u, hu⟩ := ac0 (l := ts) (i := 0) (by omega)
  have hum := List.mem_of_getElem? hu
  obtain ⟨y, h1, h2⟩ := df2 (E := E) hS s hs w x0 ts lo hi hx0 u hu (hlin u hum) (hsub u hum) (by omega) (by omega) x a hx ha k o _ (g2 (.row 8 [.agg [.int .i64 4, .int .u64 (w 0 : Nat), .int .u64 (w 1 : Nat), .int .u64 (w 2 : Nat), .int .u64 (w 3 : Nat), x0, .int .i64 lo, .int .i64 hi]]))
  rw [s2] at h1
  have hyok := h2.ok H.length
  obtain ⟨cy, oy⟩ := h2.one
  generalize cntT a = c at lf hcp
  generalize bw3 s ts lo hi a = ou at h1 ⊢
  clear ih hsub hlin hlT he ho hfl hfb hself s1 g1 g2 s2 hc0 hcle
  unfold EV.one at ox oF oy
  unfold EV.cells at cx cf cy
  repeat' first | (simp (disch := first | omega | assumption) only [go_sem, simprocAttr, *]) | refine aa0 (fun hb=>?_) fun hb=>?_ | refine aa1 (fun hb=>?_) fun hb=>?_
  all_goals (try simp only [FX] at *)
  all_goals first | omega | skip
  exact ⟨_, bf7 (h2.newP _) (bg6 hyok) rfl rfl, y, rfl, h2⟩
end
mutual
def nodW : RT → Int
 | .mk _ _ _ ts _ _ => nodL ts 1
def nodL : List RT → Int → Int
 | [], n => n
 | t :: ts, n => nodL ts (IntKind.i64.wrap (n + nodW t))
end
def capW (v : Int) : Int := if 1000000 < v then 1000000 else v
def wN (k hi n : Int) : Int := if k = 4 ∧ hi < 0 then capW ((if k = 4 ∧ 1 < hi ∧ hi ≤ 64 then capW (n * hi) else n) * 40) else if k = 4 ∧ 1 < hi ∧ hi ≤ 64 then capW (n * hi) else n
mutual
def wT : RT → Int
 | .mk k _ _ ts _ hi => wN k hi (wL ts 1)
def wL : List RT → Int → Int
 | [], n => n
 | t :: ts, n => wL ts (capW (n + wT t))
end
theorem co1 : ∀ {ts : List RT} {i : Nat} {t : RT} (n : Int), ts[i]? = some t → nodL (ts.take (i + 1)) n = IntKind.i64.wrap (nodL (ts.take i) n + nodW t)
 | [], i, t, n, h => by simp at h
 | u :: ts, 0, t, n, h => by
  simp only [List.getElem?_cons_zero, Option.some.injEq] at h
  subst h
  simp [nodL]
 | u :: ts, i + 1, t, n, h => by
  have ih := co1 (ts := ts) (i := i) (t := t) (IntKind.i64.wrap (n + nodW u)) (by simpa using h)
  simp only [List.take_succ_cons, nodL, ih]
theorem dl7 : ∀ {ts : List RT} {i : Nat} {t : RT} (n : Int), ts[i]? = some t → wL (ts.take (i + 1)) n = capW (wL (ts.take i) n + wT t)
 | [], i, t, n, h => by simp at h
 | u :: ts, 0, t, n, h => by
  simp only [List.getElem?_cons_zero, Option.some.injEq] at h
  subst h
  simp [wL]
 | u :: ts, i + 1, t, n, h => by
  have ih := dl7 (ts := ts) (i := i) (t := t) (capW (n + wT u)) (by simpa using h)
  simp only [List.take_succ_cons, wL, ih]
theorem dy6 {v : Int} (h : 1 ≤ v) : 1 ≤ capW v ∧ capW v ≤ 1000000 ∧ capW v ≤ v := by unfold capW; split <;> omega
theorem wN_b {k hi n : Int} (h : 1 ≤ n ∧ n ≤ 1000000) : 1 ≤ wN k hi n ∧ wN k hi n ≤ 1000000 ∧ (wN k hi n < 1000000 → n ≤ wN k hi n) := by
 have h1 : ∀ m : Int, 1 ≤ m → m ≤ 1000000 → 1 ≤ capW (m * 40) ∧ capW (m * 40) ≤ 1000000 ∧ (capW (m * 40) < 1000000 → m ≤ capW (m * 40)) := fun m h _ => by unfold capW; split <;> omega
 have h2 : 1 < hi → n ≤ n * hi := fun h' => by
  have := Int.mul_le_mul_of_nonneg_left (show (1 : Int) ≤ hi by omega) (show 0 ≤ n by omega)
  omega
 unfold wN
 split
 ·rename_i hc
  rw [if_neg (by omega)]
  exact h1 n h.1 h.2
 ·split
  ·rename_i hc
   have h3 := h2 hc.2.1
   unfold capW
   split <;> omega
  ·omega
theorem w_b : ∀ t : RT, 1 ≤ wT t ∧ wT t ≤ 1000000 := by
 intro t
 refine RT.rec (motive_1 := fun t => 1 ≤ wT t ∧ wT t ≤ 1000000) (motive_2 := fun ts => ∀ n, 1 ≤ n ∧ n ≤ 1000000 → 1 ≤ wL ts n ∧ wL ts n ≤ 1000000) ?_ ?_ ?_ t
 ·intro k w x ts lo hi ih
  have := wN_b (k := k) (hi := hi) (ih 1 (by omega))
  simp only [wT]
  exact ⟨this.1, this.2.1⟩
 ·intro n h; exact h
 ·intro t ts h1 h2 n hn
  simp only [wL]
  have := dy6 (v := n + wT t) (by omega)
  exact h2 _ ⟨this.1, this.2.1⟩
theorem wL_b : ∀ (ts : List RT) (n : Int), 1 ≤ n ∧ n ≤ 1000000 → 1 ≤ wL ts n ∧ wL ts n ≤ 1000000
 | [], n, h => h
 | t :: ts, n, h => by
  have := w_b t
  have h2 := dy6 (v := n + wT t) (by omega)
  simp only [wL]
  exact wL_b ts _ ⟨h2.1, h2.2.1⟩
mutual
def szT : RT → Nat
 | .mk _ _ _ ts _ _ => szL ts + 1
def szL : List RT → Nat
 | [] => 0
 | t :: ts => szT t + szL ts
end
theorem sz_w : ∀ t : RT, wT t < 1000000 → (szT t : Int) ≤ wT t := by
 intro t
 refine RT.rec (motive_1 := fun t => wT t < 1000000 → (szT t : Int) ≤ wT t) (motive_2 := fun ts => ∀ n, 1 ≤ n ∧ n ≤ 1000000 → wL ts n < 1000000 → n + szL ts ≤ wL ts n) ?_ ?_ ?_ t
 ·intro k w x ts lo hi ih h
  simp only [wT] at h ⊢
  have hb := wL_b ts 1 (by omega)
  have h2 := (wN_b (k := k) (hi := hi) hb).2.2 h
  have h3 := ih 1 (by omega) (by omega)
  simp only [szT]
  omega
 ·intro n hn h
  simp [wL, szL]
 ·intro t ts h1 h2 n hn h
  simp only [wL] at h ⊢
  have hw := w_b t
  have hb := dy6 (v := n + wT t) (by omega)
  have h3 := h2 _ ⟨hb.1, hb.2.1⟩ h
  have h4 : capW (n + wT t) = n + wT t := by
   by_cases hc : 1000000 < n + wT t
   ·have e : capW (n + wT t) = 1000000 := if_pos hc
    rw [e] at h3 h
    omega
   ·exact if_neg hc
  rw [h4] at h3 h ⊢
  have h5 := h1 (by omega)
  simp only [szL]
  omega
theorem da2 : bp9 fun _ => 0 := fun i => by simp
def Le (k : Nat) (a b : List Bool) : Prop := ∀ i, a.getD i false = true → b.getD (k + i) false = true
theorem Le.or {k : Nat} {a b c d : List Bool} (h1 : Le k a b) (h2 : Le k c d) (hl : a.length = c.length) (hr : b.length = d.length) : Le k (orL a c) (orL b d) := fun i hi => by
 rw [ac8 hl, Bool.or_eq_true] at hi
 rw [ac8 hr]
 rcases hi with hi | hi
 ·rw [h1 i hi, Bool.true_or]
 ·rw [h2 i hi, Bool.or_true]
structure Add (m : Nat) (g : List Bool → Bool) : Prop where
 or : ∀ a b, a.length = m → b.length = m → g (orL a b) = (g a || g b)
 no : g (af4 m) = false
theorem ea0 (m i : Nat) : Add m fun a => a.getD i false := ⟨fun a b ha hb => ac8 (by omega) i, ad8 m i⟩
theorem ch5 (m : Nat) : Add m fun _ => false := ⟨fun _ _ _ _ => rfl, rfl⟩
section
variable {m : Nat} {f : List Bool → List Bool} {g h : List Bool → Bool}
theorem Add.comp (hg : Add m g) (hf : Lin m f) : Add m fun a => g (f a) := ⟨fun a b ha hb => by rw [hf.or a b ha hb, hg.or _ _ (hf.len a ha) (hf.len b hb)], by rw [hf.no, hg.no]⟩
theorem Add.sum (hg : Add m g) (hh : Add m h) : Add m fun a => g a || h a := ⟨fun a b ha hb => by
 show (g (orL a b) || h (orL a b)) = _
 rw [hg.or a b ha hb, hh.or a b ha hb]
 cases g a <;> cases g b <;> cases h a <;> cases h b <;> rfl, by rw [hg.no, hh.no]; rfl⟩
theorem Add.congr (hh : Add m h) (e : ∀ a, a.length = m → g a = h a) : Add m g := ⟨fun a b ha hb => by rw [e _ (by rw [af9 (by omega)]; exact ha), e _ ha, e _ hb, hh.or a b ha hb], by rw [e _ (ah3 m), hh.no]⟩
theorem bd2 {a : List Bool} : ∀ {n : Nat}, opP f g n a = true ↔ ∃ j, j < n ∧ g (powN f j a) = true
 | 0 => ⟨fun h => by simp [opP] at h, fun ⟨j, h, _⟩ => by omega⟩
 | n + 1 => by
  rw [opP, Bool.or_eq_true, bd2]
  constructor
  ·rintro (⟨j, h1, h2⟩ | h)
   ·exact ⟨j, by omega, h2⟩
   ·exact ⟨n, by omega, h⟩
  ·rintro ⟨j, h1, h2⟩
   by_cases e : j = n
   ·exact .inr (e ▸ h2)
   ·exact .inl ⟨j, by omega, h2⟩
theorem bt5 (hf : Lin m f) (hg : Add m g) {a : List Bool} (ha : a.length = m) : ∀ {k : Nat}, g (sumN f a k) = true ↔ ∃ j, j ≤ k ∧ g (powN f j a) = true
 | 0 => ⟨fun h => ⟨0, Nat.le_refl _, h⟩, fun ⟨j, h1, h2⟩ => by
  obtain rfl : j = 0 := by omega
  exact h2⟩
 | k + 1 => by
  rw [da4 hf ha k, hg.or _ _ (au0 hf ha k) ((ae8 hf _).len _ ha), Bool.or_eq_true, bt5 hf hg ha]
  constructor
  ·rintro (⟨j, h1, h2⟩ | h)
   ·exact ⟨j, by omega, h2⟩
   ·exact ⟨k + 1, by omega, h⟩
  ·rintro ⟨j, h1, h2⟩
   by_cases e : j = k + 1
   ·exact .inr (e ▸ h2)
   ·exact .inl ⟨j, by omega, h2⟩
theorem da3 (hf : Lin m f) {a : List Bool} (ha : a.length = m) (hm : 0 < m) : sumN f a m = sumN f a (m - 1) := by
 obtain ⟨k, hk, hc⟩ := bj2 hf ha
 by_cases h : k ≤ m - 1
 ·have h1 := at0 hf ha hc (m - k)
  have h2 := at0 hf ha hc (m - 1 - k)
  rw [show k + (m - k) = m by omega] at h1
  rw [show k + (m - 1 - k) = m - 1 by omega] at h2
  rw [h1, h2]
 ·have key : ∀ k, (∃ j, j ≤ k ∧ Sub (f (sumN f a j)) (sumN f a j)) ∨ k + 1 ≤ cntT (sumN f a k) ∨ cntT a = 0 := by
   intro k
   induction k with
   | zero =>
    by_cases h0 : cntT a = 0
    ·exact .inr (.inr h0)
    ·exact .inr (.inl (by show 0 + 1 ≤ cntT a; omega))
   | succ k ih =>
    rcases ih with ⟨j, h1, h2⟩ | ih | h0
    ·exact .inl ⟨j, by omega, h2⟩
    ·by_cases hs : Sub (f (sumN f a k)) (sumN f a k)
     ·exact .inl ⟨k, by omega, hs⟩
     ·right; left
      have hl := au0 hf ha k
      have hl2 := hf.len _ hl
      have e : sumN f a (k + 1) = orL (sumN f a k) (av5 (f (sumN f a k)) (sumN f a k)) := by
       rw [sumN]
       refine ao5 (by rw [af9 (by omega), af9 (by rw [at4 (by omega)]; omega)]) fun i => ?_
       rw [ac8 (by omega), ac8 (by rw [at4 (by omega)]; omega), aw8 (by omega)]
       cases (sumN f a k).getD i false <;> cases (f (sumN f a k)).getD i false <;> rfl
      rw [e, bt1 (by omega)]
      have : cntT (av5 (f (sumN f a k)) (sumN f a k)) ≠ 0 := fun h0 => hs fun i hi => by
       have hz := be7 h0
       have := aw8 (a := f (sumN f a k)) (b := sumN f a k) (by omega) i
       rw [hz, ad8, hi] at this
       simpa using this.symm
      omega
    ·exact .inr (.inr h0)
  have hcl : ∃ j, j ≤ m - 1 ∧ Sub (f (sumN f a j)) (sumN f a j) := by
   rcases key (m - 1) with h1 | h1 | h0
   ·exact h1
   ·refine ⟨m - 1, Nat.le_refl _, fun i hi => ?_⟩
    have hl := au0 hf ha (m - 1)
    have hl2 := hf.len _ hl
    have hi2 : i < m := by
     by_cases h : i < m
     ·exact h
     ·rw [List.getD_eq_getElem?_getD, List.getElem?_eq_none (by omega)] at hi
      simp at hi
    have hall : ∀ b ∈ sumN f a (m - 1), b = true := by
     have := bb3 (sumN f a (m - 1))
     have e : (sumN f a (m - 1)).countP (fun b => b) = (sumN f a (m - 1)).length := by unfold cntT at h1 this; omega
     exact fun b hb => List.countP_eq_length.1 e b hb
    rw [List.getD_eq_getElem?_getD, List.getElem?_eq_getElem (by omega), Option.getD_some]
    exact hall _ (List.getElem_mem _)
   ·refine ⟨0, by omega, fun i hi => ?_⟩
    have := be7 h0
    rw [ha] at this
    have hi' : (f a).getD i false = true := hi
    rw [this, hf.no, ad8] at hi'
    simp at hi'
  obtain ⟨j, h1, h2⟩ := hcl
  have e1 := at0 hf ha h2 (m - j)
  have e2 := at0 hf ha h2 (m - 1 - j)
  rw [show j + (m - j) = m by omega] at e1
  rw [show j + (m - 1 - j) = m - 1 by omega] at e2
  rw [e1, e2]
theorem ci9 (hf : Lin m f) (hg : Add m g) {a : List Bool} (ha : a.length = m) : ∀ k, opQ f g a (k + 1) = g (sumN f a k)
 | 0 => by simp [opQ, rnd, sumN]
 | k + 1 => by
  have ih := ci9 hf hg ha k
  obtain ⟨h1, h2, _, _, h5⟩ := ba9 hf ha k
  obtain ⟨h1', h2', _, _, h5'⟩ := ba9 hf ha (k + 1)
  show (opQ f g a (k + 1) || g (rnd f a (k + 1)).2) = _
  rw [ih, ← h5', ← h5]
  have e : (rnd f a (k + 1)).1 = orL (rnd f a k).1 (rnd f a (k + 1)).2 := rfl
  rw [e, hg.or _ _ h1 h2']
theorem cj0 (hf : Lin m f) (hg : Add m g) {a : List Bool} (ha : a.length = m) : ∀ k, opQ f g a k = opP f g k a
 | 0 => rfl
 | k + 1 => by
  rw [ci9 hf hg ha, Bool.eq_iff_iff, bt5 hf hg ha, bd2]
  exact ⟨fun ⟨j, h1, h2⟩ => ⟨j, by omega, h2⟩, fun ⟨j, h1, h2⟩ => ⟨j, by omega, h2⟩⟩
theorem ee4 (hf : Lin m f) (hg : Add m g) {a : List Bool} (ha : a.length = m) (hm : 0 < m) : opP f g (m + 1) a = opP f g m a := by
 obtain ⟨k, rfl⟩ : ∃ k, m = k + 1 := ⟨m - 1, by omega⟩
 rw [← cj0 hf hg ha, ← cj0 hf hg ha, ci9 hf hg ha, ci9 hf hg ha, da3 hf ha (by omega)]
 rfl
theorem dp8 {a : List Bool} (lo : Nat) : ∀ M, opP f g (lo + M) a = (opP f g lo a || opP f g M (powN f lo a))
 | 0 => by simp [opP]
 | M + 1 => by
  rw [show lo + (M + 1) = (lo + M) + 1 by omega, opP, opP, dp8 lo M, bn4, Bool.or_assoc]
theorem cu9 (hf : Lin m f) (hg : Add m g) : ∀ n, Add m fun a => opP f g n a
 | 0 => ch5 m
 | n + 1 => (cu9 hf hg n).sum (hg.comp (ae8 hf n))
theorem en6 (hf : Lin m f) {n : Nat} {a : List Bool} (ha : a.length = m) (hL : ∀ b : List Bool, b.length = m → b.getD n false = true → (g b || (f b).getD n false) = true) (lo M : Nat) :
  (opP f g (lo + M) a || (sumN f (powN f lo a) M).getD n false) = (a.getD n false || (opP f (fun b => g b || (f b).getD n false) (lo + M) a || (powN f (lo + M) a).getD n false)) := by
 have hp := (ae8 hf lo).len _ ha
 have hs : ∀ j, lo ≤ j → j ≤ lo + M → (powN f j a).getD n false = true → (sumN f (powN f lo a) M).getD n false = true := fun j h1 h2 h3 => by
  have := (bt5 hf (ea0 m n) hp (k := M)).2 ⟨j - lo, by omega, by rw [← bn4, show lo + (j - lo) = j by omega]; exact h3⟩
  exact this
 have up : ∀ d j, lo - j = d → j ≤ lo + M → (powN f j a).getD n false = true → (opP f g (lo + M) a || (sumN f (powN f lo a) M).getD n false) = true := by
  intro d
  induction d with
  | zero => intro j h1 h2 h3; rw [hs j (by omega) h2 h3, Bool.or_true]
  | succ d ih =>
   intro j h1 h2 h3
   have := hL _ ((ae8 hf j).len _ ha) h3
   rw [Bool.or_eq_true] at this
   rcases this with h | h
   ·rw [bd2.2 ⟨j, by omega, h⟩, Bool.true_or]
   ·exact ih (j + 1) (by omega) (by omega) h
 rw [Bool.eq_iff_iff]
 constructor
 ·intro h
  rw [Bool.or_eq_true] at h
  rcases h with h | h
  ·obtain ⟨j, h1, h2⟩ := bd2.1 h
   rw [bd2.2 ⟨j, h1, by rw [h2, Bool.true_or]⟩, Bool.true_or, Bool.or_true]
  ·obtain ⟨j, h1, h2⟩ := (bt5 hf (ea0 m n) hp (k := M)).1 h
   rw [← bn4] at h2
   cases hj : lo + j with
   | zero =>
    rw [hj] at h2
    have h2' : a.getD n false = true := h2
    rw [h2', Bool.true_or]
   | succ i =>
    rw [hj] at h2
    have h2' : (f (powN f i a)).getD n false = true := h2
    rw [bd2.2 ⟨i, by omega, by rw [h2', Bool.or_true]⟩, Bool.true_or, Bool.or_true]
 ·intro h
  rw [Bool.or_eq_true, Bool.or_eq_true] at h
  rcases h with h | h | h
  ·exact up _ 0 rfl (by omega) h
  ·obtain ⟨j, h1, h2⟩ := bd2.1 h
   rw [Bool.or_eq_true] at h2
   rcases h2 with h2 | h2
   ·rw [bd2.2 ⟨j, h1, h2⟩, Bool.true_or]
   ·exact up _ (j + 1) rfl (by omega) h2
  ·exact up _ (lo + M) rfl (by omega) h
end
def bw4 (s : List UInt8) (k : Int) (w : Nat → Nat) (ts : List RT) (lo hi : Int) (a : List Bool) : Bool :=
 if k = 1 then a.getD s.length false && !zset w else if k = 2 then bj6 s ts a else if k = 3 then bl0 s ts a else if k = 4 then bw3 s ts lo hi a else false
theorem cn8 (s : List UInt8) {t : RT} (ht : t.Ok) : Add (s.length + 1) (as8 s t) ∧ (match t with | .mk k w _ ts lo hi => ∀ a, a.length = s.length + 1 → as8 s t a = bw4 s k w ts lo hi a) := by
 induction ht with
 | mk k w x ts lo hi hw hx hts ih =>
  have hB : Add (s.length + 1) (bw4 s k w ts lo hi) := by
   unfold bw4
   by_cases k1 : k = 1
   ·simp only [if_pos k1]
    exact ⟨fun a b ha hb => by rw [ac8 (by omega)]; cases a.getD s.length false <;> cases b.getD s.length false <;> cases zset w <;> rfl, by rw [ad8]; rfl⟩
   simp only [if_neg k1]
   by_cases k2 : k = 2
   ·simp only [if_pos k2]
    clear hx k1 k2
    induction ts with
    | nil => exact (ch5 _).congr fun a _ => by rw [bj6]
    | cons t ts ih2 =>
     refine Add.congr ((ih t (by simp)).1.sum ((ih2 (fun u hu => hts u (by simp [hu])) fun u hu => ih u (by simp [hu])).comp (ak6 s (hts t (by simp))))) fun a _ => ?_
     rw [bj6]
   simp only [if_neg k2]
   by_cases k3 : k = 3
   ·simp only [if_pos k3]
    clear hx k1 k2 k3
    induction ts with
    | nil => exact (ch5 _).congr fun a _ => by rw [bl0]
    | cons t ts ih2 =>
     refine Add.congr ((ih t (by simp)).1.sum (ih2 (fun u hu => hts u (by simp [hu])) fun u hu => ih u (by simp [hu]))) fun a _ => ?_
     rw [bl0]
   simp only [if_neg k3]
   by_cases k4 : k = 4
   ·simp only [if_pos k4]
    cases ts with
    | nil => exact (ch5 _).congr fun a _ => by rw [bw3]
    | cons t ts =>
     have hf := ak6 s (hts t (by simp))
     have hg := (ih t (by simp)).1
     refine Add.congr ((cu9 hf hg lo.toNat).sum ((cu9 hf hg (if hi < 0 then s.length + 2 else (hi - lo).toNat)).comp (ae8 hf lo.toNat))) fun a ha => ?_
     rw [bw3, cj0 hf hg ((ae8 hf _).len _ ha)]
   ·simp only [if_neg k4]
    exact ch5 _
  have e : ∀ a, a.length = s.length + 1 → as8 s (.mk k w x ts lo hi) a = bw4 s k w ts lo hi a := fun a ha => by
   rw [as8]
   by_cases hc : cntT a = 0
   ·rw [if_pos hc]
    have := be7 hc
    rw [ha] at this
    rw [this, hB.no]
   ·rw [if_neg hc]; rfl
  exact ⟨hB.congr e, e⟩
theorem db8 (s : List UInt8) {t : RT} (ht : t.Ok) : Add (s.length + 1) (as8 s t) := (cn8 s ht).1
theorem bt8 (s : List UInt8) {k : Int} {w : Nat → Nat} {x : EV} {ts : List RT} {lo hi : Int} (ht : (RT.mk k w x ts lo hi).Ok) {a : List Bool} (ha : a.length = s.length + 1) : as8 s (.mk k w x ts lo hi) a = bw4 s k w ts lo hi a := (cn8 s ht).2 a ha
theorem ee1 (s : List UInt8) {t : RT} (ht : t.Ok) (lo hi : Int) (ts : List RT) {a : List Bool} (ha : a.length = s.length + 1) :
  bw3 s (t :: ts) lo hi a = opP (aa5 s t) (as8 s t) (lo.toNat + (if hi < 0 then s.length + 1 else (hi - lo).toNat)) a := by
 have hf := ak6 s ht
 have hg := db8 s ht
 have hp := (ae8 hf lo.toNat).len _ ha
 rw [bw3, cj0 hf hg hp, dp8]
 by_cases h : hi < 0
 ·rw [if_pos h, if_pos h, ee4 hf hg hp (by omega)]
 ·rw [if_neg h, if_neg h]
mutual
def ai5 : RT → Bool
 | .mk k w _ ts lo _ => if k = 0 then false else if k = 1 then zset w else if k = 2 then ay0 ts else if k = 3 then by7 ts else decide (0 < lo) && dl8 ts
def ay0 : List RT → Bool
 | [] => false
 | t :: ts => ai5 t || ay0 ts
def by7 : List RT → Bool
 | [] => true
 | t :: ts => ai5 t && by7 ts
def dl8 : List RT → Bool
 | [] => false
 | t :: _ => ai5 t
end
def co2 (n : Nat) (lo hi : Int) : Nat := lo.toNat + (if hi < 0 then n + 1 else (hi - lo).toNat)
mutual
def begT (s : List UInt8) : RT → List Bool → Bool
 | .mk k w x ts lo hi, a =>
  if k = 0 then a.getD s.length false
  else if k = 1 then !zset w && (a.getD s.length false || (bp7 w s a).getD s.length false)
  else if k = 2 then !ai5 (.mk k w x ts lo hi) && begC s ts a
  else if k = 3 then begA s ts a
  else !ai5 (.mk k w x ts lo hi) && (a.getD s.length false || begR s ts lo hi a)
def begC (s : List UInt8) : List RT → List Bool → Bool
 | [], a => a.getD s.length false
 | t :: ts, a => begT s t a || begC s ts (aa5 s t a)
def begA (s : List UInt8) : List RT → List Bool → Bool
 | [], _ => false
 | t :: ts, a => begT s t a || begA s ts a
def begR (s : List UInt8) : List RT → Int → Int → List Bool → Bool
 | [], _, _, _ => false
 | t :: _, lo, hi, a => opP (aa5 s t) (begT s t) (co2 s.length lo hi) a || (powN (aa5 s t) (co2 s.length lo hi) a).getD s.length false
end
theorem bq2 : ∀ {ts : List RT}, ay0 ts = false → ∀ t ∈ ts, ai5 t = false
 | [], _, t, h => by simp at h
 | u :: ts, hn, t, h => by
  simp only [ay0, Bool.or_eq_false_iff] at hn
  rcases List.mem_cons.1 h with rfl | h
  ·exact hn.1
  ·exact bq2 hn.2 t h
theorem bh7 : ∀ {ts : List RT}, bh8 ts = true → ∀ t ∈ ts, aj3 t = true
 | [], _, t, h => by simp at h
 | u :: ts, hn, t, h => by
  simp only [bh8, Bool.and_eq_true] at hn
  rcases List.mem_cons.1 h with rfl | h
  ·exact hn.1
  ·exact bh7 hn.2 t h
theorem by2 (s : List UInt8) {t : RT} (ht : t.Ok) : ai5 t = true → ∀ a, begT s t a = false := by
 induction ht with
 | mk k w x ts lo hi hw hx hts ih =>
  intro hv a
  rw [begT]
  by_cases k0 : k = 0
  ·simp [ai5, k0] at hv
  rw [if_neg k0]
  by_cases k1 : k = 1
  ·simp [ai5, k1] at hv
   rw [if_pos k1, hv]; rfl
  rw [if_neg k1]
  by_cases k2 : k = 2
  ·rw [if_pos k2, hv]; rfl
  rw [if_neg k2]
  by_cases k3 : k = 3
  ·rw [if_pos k3]
   simp only [ai5, if_neg k0, if_neg k1, if_neg k2, if_pos k3] at hv
   clear hx k0 k1 k2 k3
   induction ts with
   | nil => rw [begA]
   | cons t ts ih2 =>
    simp only [by7, Bool.and_eq_true] at hv
    rw [begA, ih t (by simp) hv.1, ih2 (fun u hu => hts u (by simp [hu])) (fun u hu => ih u (by simp [hu])) hv.2]
    rfl
  ·rw [if_neg k3, hv]; rfl
theorem el7 {w : Nat → Nat} (h : zset w = true) (b : UInt8) : bd8 w b.toNat = false := by
 simp only [zset, Bool.and_eq_true, decide_eq_true_eq] at h
 obtain ⟨h0, h1, h2, h3⟩ := h
 have hb := b.toNat_lt
 unfold bd8
 have : w (b.toNat / 64) = 0 := by
  have hlt : b.toNat / 64 < 4 := by omega
  generalize b.toNat / 64 = i at hlt
  match i, hlt with
  | 0, _ => exact h0
  | 1, _ => exact h1
  | 2, _ => exact h2
  | 3, _ => exact h3
 rw [this, Nat.zero_testBit]
theorem cc0 (s : List UInt8) {t : RT} (ht : t.Ok) : aj3 t = true → ai5 t = true → ∀ a, a.length = s.length + 1 → aa5 s t a = af4 (s.length + 1) := by
 induction ht with
 | mk k w x ts lo hi hw hx hts ih =>
  intro hn hv a ha
  have he : aa5 s (.mk k w x ts lo hi) a = an0 s k w lo hi (ts.map (aa5 s)) a := by rw [aa5, aq1]
  rw [he]
  simp only [aj3, Bool.and_eq_true] at hn
  obtain ⟨hn, hnl⟩ := hn
  have hlin : ∀ t ∈ ts, Lin (s.length + 1) (aa5 s t) := fun t hm => ak6 s (hts t hm)
  unfold an0
  by_cases k0 : k = 0
  ·simp [ai5, k0] at hv
  rw [if_neg k0]
  by_cases k1 : k = 1
  ·simp [ai5, k1] at hv
   rw [if_pos k1]
   refine ao5 (by rw [be8 ha, ah3]) fun i => ?_
   rw [ad8]
   cases i with
   | zero => rfl
   | succ i =>
    by_cases hi : i < s.length
    ·obtain ⟨c, hc⟩ := ac0 hi
     rw [aq3 hc, el7 hv, Bool.and_false]
    ·exact bj0 (by omega)
  rw [if_neg k1]
  by_cases k2 : k = 2
  ·rw [if_pos k2]
   simp only [ai5, if_neg k0, if_neg k1, if_pos k2] at hv
   have hno : ∀ us : List RT, (∀ t ∈ us, t ∈ ts) → (us.map (aa5 s)).foldl (fun x f => f x) (af4 (s.length + 1)) = af4 (s.length + 1) := fun us hm =>
    (bs5 fun f hf => by
     obtain ⟨t, h1, rfl⟩ := List.mem_map.1 hf
     exact hlin t (hm t h1)).no
   clear hx k0 k1 k2 he hn
   induction ts generalizing a with
   | nil => simp [ay0] at hv
   | cons t ts ih2 =>
    simp only [ay0, Bool.or_eq_true] at hv
    simp only [bh8, Bool.and_eq_true] at hnl
    simp only [List.map_cons, List.foldl_cons]
    by_cases ht : ai5 t = true
    ·rw [ih t (by simp) hnl.1 ht a ha]
     exact hno ts fun u hu => by simp [hu]
    ·have h2 : ay0 ts = true := by rcases hv with h | h; exact absurd h ht; exact h
     exact ih2 (fun u hu => hts u (by simp [hu])) (fun u hu => ih u (by simp [hu])) _ ((hlin t (by simp)).len _ ha) hnl.2 (fun u hu => hlin u (by simp [hu])) h2 (fun us hm => hno us fun u hu => by simp [hm u hu])
  rw [if_neg k2]
  by_cases k3 : k = 3
  ·rw [if_pos k3]
   simp only [ai5, if_neg k0, if_neg k1, if_neg k2, if_pos k3] at hv
   clear hx k0 k1 k2 k3 he hn
   induction ts with
   | nil => rfl
   | cons t ts ih2 =>
    simp only [by7, Bool.and_eq_true] at hv
    simp only [bh8, Bool.and_eq_true] at hnl
    simp only [List.map_cons, List.foldl_cons]
    rw [ih t (by simp) hnl.1 hv.1 a ha]
    have : orL (af4 (s.length + 1)) (af4 (s.length + 1)) = af4 (s.length + 1) := ao5 (by rw [af9 rfl]) fun i => by rw [ac8 rfl, ad8]; rfl
    rw [this]
    exact ih2 (fun u hu => hts u (by simp [hu])) (fun u hu => ih u (by simp [hu])) hnl.2 (fun u hu => hlin u (by simp [hu])) hv.2
  rw [if_neg k3]
  simp only [ai5, if_neg k0, if_neg k1, if_neg k2, if_neg k3, Bool.and_eq_true, decide_eq_true_eq] at hv
  cases ts with
  | nil => simp [dl8] at hv
  | cons t ts =>
   simp only [dl8] at hv
   simp only [bh8, Bool.and_eq_true] at hnl
   have hf := hlin t (by simp)
   simp only [List.map_cons, List.headD_cons]
   obtain ⟨j, hj⟩ : ∃ j, lo.toNat = j + 1 := ⟨lo.toNat - 1, by omega⟩
   have : powN (aa5 s t) lo.toNat a = af4 (s.length + 1) := by
    rw [hj]
    exact ih t (by simp) hnl.1 hv.2 _ ((ae8 hf j).len _ ha)
   rw [this]
   exact (ci1 hf _).no
theorem dz3 {s : List UInt8} : ∀ {ts : List RT} {a : List Bool}, (∀ t ∈ ts, a.getD s.length false = true → begT s t a = true) → a.getD s.length false = true → begC s ts a = true
 | [], a, _, h => h
 | t :: ts, a, hl, h => by rw [begC, hl t (by simp) h, Bool.true_or]
theorem dd0 (s : List UInt8) {t : RT} (ht : t.Ok) : ai5 t = false → ∀ a : List Bool, a.getD s.length false = true → begT s t a = true := by
 induction ht with
 | mk k w x ts lo hi hw hx hts ih =>
  intro hv a ha
  rw [begT]
  by_cases k0 : k = 0
  ·rw [if_pos k0]; exact ha
  rw [if_neg k0]
  by_cases k1 : k = 1
  ·simp [ai5, k1] at hv
   rw [if_pos k1, hv, ha]; rfl
  rw [if_neg k1]
  by_cases k2 : k = 2
  ·rw [if_pos k2, hv]
   simp only [ai5, if_neg k0, if_neg k1, if_pos k2] at hv
   have hm := bq2 hv
   cases ts with
   | nil => rw [begC, ha]; rfl
   | cons t ts => rw [begC, ih t (by simp) (hm t (by simp)) a ha]; rfl
  rw [if_neg k2]
  by_cases k3 : k = 3
  ·rw [if_pos k3]
   simp only [ai5, if_neg k0, if_neg k1, if_neg k2, if_pos k3] at hv
   clear hx k0 k1 k2 k3
   induction ts with
   | nil => simp [by7] at hv
   | cons t ts ih2 =>
    simp only [by7, Bool.and_eq_false_iff] at hv
    rw [begA]
    by_cases h : ai5 t = false
    ·rw [ih t (by simp) h a ha]; rfl
    ·rw [ih2 (fun u hu => hts u (by simp [hu])) (fun u hu => ih u (by simp [hu])) (by rcases hv with h2 | h2; exact absurd h2 h; exact h2), Bool.or_true]
  ·rw [if_neg k3, hv, ha]; rfl
/-! ### The program's tree -/
def slT : List RT → EV
 | [] => .nilsl
 | t :: ts => .imm 8 ((t :: ts).map RT.E)
theorem et5 {l : List RT} (h : ∀ t ∈ l, t.Ok) (hl : l.length ≤ 9223372036854775807) : SlV 8 (slT l) (l.map RT.E) := by
 cases l with
 | nil => exact .nil
 | cons t ts =>
  refine .imm (fun n => ?_) (by simpa using hl)
  have : ∀ us : List RT, (∀ t ∈ us, t.Ok) → okL n (us.map RT.E) = true := by
   intro us
   induction us with
   | nil => intro _; rfl
   | cons u us ih => intro h; simp [okL, RT.ok (h u (by simp)), ih fun v hv => h v (by simp [hv])]
  exact this _ h
def ag3 (l : List (RT × Bool)) : List RT := (l.filter fun p => p.2).map fun p => p.1
def alH : List (RT × Bool) → (Nat → Nat) → Int → Int → RT × Bool
 | [], _, _, _ => (.mk 0 (fun _ => 0) .nilsl [] 0 0, true)
 | p :: _, w, lo, hi => if p.2 = true then (.mk 4 w (.imm 8 [p.1.E]) [p.1] lo hi, true) else (.mk 0 (fun _ => 0) .nilsl [] 0 0, decide (lo = 0))
mutual
def alT : RT → RT × Bool
 | .mk k w x ts lo hi =>
  if k = 1 then (.mk k w x ts lo hi, !zset w)
  else if k = 2 then if (alL ts).all (fun p => p.2) = true then (.mk 2 (fun _ => 0) (slT (ag3 (alL ts))) (ag3 (alL ts)) 0 0, decide (0 < (ag3 (alL ts)).length)) else (.mk k w x ts lo hi, false)
  else if k = 3 then (.mk 3 (fun _ => 0) (slT (ag3 (alL ts))) (ag3 (alL ts)) 0 0, decide (0 < (ag3 (alL ts)).length))
  else if k = 4 then alH (alL ts) w lo hi
  else (.mk k w x ts lo hi, true)
def alL : List RT → List (RT × Bool)
 | [] => []
 | t :: ts => alT t :: alL ts
end
theorem bk4 : ∀ ts : List RT, alL ts = ts.map alT
 | [] => by simp [alL]
 | t :: ts => by simp [alL, bk4 ts]
theorem cp4 {l : List (RT × Bool)} {t : RT} : t ∈ ag3 l ↔ ∃ p ∈ l, p.2 = true ∧ p.1 = t := by
 unfold ag3
 simp only [List.mem_map, List.mem_filter]
 exact ⟨fun ⟨p, ⟨h1, h2⟩, h3⟩ => ⟨p, h1, h2, h3⟩, fun ⟨p, h1, h2, h3⟩ => ⟨p, ⟨h1, h2⟩, h3⟩⟩
theorem cb4 (l : List (RT × Bool)) : (ag3 l).length ≤ l.length := by
 unfold ag3
 rw [List.length_map]
 exact List.length_filter_le ..
theorem bs3 {p : RT × Bool} {l : List (RT × Bool)} (h : p.2 = true) : ag3 (p :: l) = p.1 :: ag3 l := by simp [ag3, h]
theorem dc3 {p : RT × Bool} {l : List (RT × Bool)} (h : p.2 = false) : ag3 (p :: l) = ag3 l := by simp [ag3, h]
theorem cl0 : ∀ {ts : List RT}, (∀ t ∈ ts, (alT t).2 = !ai5 t) → ((alL ts).all (fun p => p.2) = !ay0 ts) ∧ (decide (0 < (ag3 (alL ts)).length) = !by7 ts) ∧ (ay0 ts = false → (ag3 (alL ts)).length = ts.length)
 | [], _ => by simp [alL, ay0, by7, ag3]
 | t :: ts, h => by
  obtain ⟨h1, h2, h3⟩ := cl0 (ts := ts) fun u hu => h u (by simp [hu])
  have ht := h t (by simp)
  cases hv : ai5 t with
  | true =>
   rw [hv] at ht
   refine ⟨?_, ?_, ?_⟩
   ·simp only [alL, List.all_cons, ht, ay0, hv]; rfl
   ·simp only [alL, dc3 ht, h2, by7, hv, Bool.true_and]
   ·simp [ay0, hv]
  | false =>
   rw [hv] at ht
   have ht : (alT t).2 = true := ht
   refine ⟨?_, ?_, ?_⟩
   ·simp only [alL, List.all_cons, ht, ay0, hv, h1, Bool.true_and, Bool.false_or]
   ·simp [alL, bs3 ht, by7, hv]
   ·simp only [alL, bs3 ht, ay0, hv, Bool.false_or, List.length_cons]
    intro h; rw [h3 h]
theorem dk8 {t : RT} (ht : t.Ok) : aj3 t = true → (alT t).1.Ok ∧ fitT (alT t).1 = true ∧ (alT t).2 = !ai5 t := by
 induction ht with
 | mk k w x ts lo hi hw hx hts ih =>
  intro hn
  have hself := RT.Ok.mk k w x ts lo hi hw hx hts
  have hfit := co0 hn
  have hn0 := hn
  simp only [aj3, Bool.and_eq_true] at hn
  obtain ⟨hn, hnl⟩ := hn
  have hm := bh7 hnl
  have hlen := hx.le
  rw [List.length_map] at hlen
  have hl := cl0 (ts := ts) fun t h => (ih t h (hm t h)).2.2
  have hg : ∀ t ∈ ag3 (alL ts), t.Ok ∧ fitT t = true := fun t h => by
   obtain ⟨p, h1, _, rfl⟩ := cp4.1 h
   rw [bk4] at h1
   obtain ⟨u, hu, rfl⟩ := List.mem_map.1 h1
   have := ih u hu (hm u hu)
   exact ⟨this.1, this.2.1⟩
  have hgl : (ag3 (alL ts)).length ≤ ts.length := by
   have := cb4 (alL ts)
   rw [bk4] at this ⊢
   simpa using this
  have hfl : ∀ us : List RT, (∀ t ∈ us, fitT t = true) → fitL us = true := by
   intro us
   induction us with
   | nil => intro _; rfl
   | cons u us ih => intro h; simp [fitL, h u (by simp), ih fun v hv => h v (by simp [hv])]
  have mk : ∀ kk : Int, kk = 2 ∨ kk = 3 → (RT.mk kk (fun _ => 0) (slT (ag3 (alL ts))) (ag3 (alL ts)) 0 0).Ok ∧ fitT (.mk kk (fun _ => 0) (slT (ag3 (alL ts))) (ag3 (alL ts)) 0 0) = true := fun kk hk => by
   refine ⟨.mk _ _ _ _ _ _ da2 (et5 (fun t h => (hg t h).1) (by omega)) fun t h => (hg t h).1, ?_⟩
   simp only [fitT, hfl _ fun t h => (hg t h).2, Bool.and_true, fitB]
   rcases hk with rfl | rfl <;> simp
  by_cases k0 : k = 0
  ·subst k0
   have e : alT (.mk 0 w x ts lo hi) = (.mk 0 w x ts lo hi, true) := by rw [alT]; simp
   rw [e]
   exact ⟨hself, hfit, by simp [ai5]⟩
  by_cases k1 : k = 1
  ·subst k1
   have e : alT (.mk 1 w x ts lo hi) = (.mk 1 w x ts lo hi, !zset w) := by rw [alT]; simp
   rw [e]
   exact ⟨hself, hfit, by simp [ai5]⟩
  by_cases k2 : k = 2
  ·subst k2
   have hv : ai5 (.mk 2 w x ts lo hi) = ay0 ts := by simp [ai5]
   rw [alT, if_neg (by omega), if_pos rfl, hv]
   cases hc : ay0 ts with
   | true =>
    rw [hc] at hl
    rw [if_neg (by rw [hl.1]; simp)]
    exact ⟨hself, hfit, rfl⟩
   | false =>
    rw [hc] at hl
    rw [if_pos (by rw [hl.1]; rfl)]
    refine ⟨(mk 2 (.inl rfl)).1, (mk 2 (.inl rfl)).2, ?_⟩
    simp [bd3] at hn
    have h1 := hl.2.2 rfl
    show decide (0 < (ag3 (alL ts)).length) = true
    rw [decide_eq_true_eq, h1]
    omega
  by_cases k3 : k = 3
  ·subst k3
   have hv : ai5 (.mk 3 w x ts lo hi) = by7 ts := by simp [ai5]
   rw [alT, if_neg (by omega), if_neg (by omega), if_pos rfl, hv]
   exact ⟨(mk 3 (.inr rfl)).1, (mk 3 (.inr rfl)).2, hl.2.1⟩
  by_cases k4 : k = 4
  ·subst k4
   simp [bd3] at hn
   obtain ⟨hn1, hz, hlo, hlo2, hhi⟩ := hn
   match ts, hn1 with
   | [t0], _ =>
    have h0 := ih t0 (by simp) (hm t0 (by simp))
    have hv : ai5 (.mk 4 w x [t0] lo hi) = (decide (0 < lo) && ai5 t0) := by simp [ai5, dl8]
    rw [alT, if_neg (by omega), if_neg (by omega), if_neg (by omega), if_pos rfl, hv, alL, alH]
    cases hc : ai5 t0 with
    | true =>
     rw [hc] at h0
     rw [if_neg (by rw [h0.2.2]; simp)]
     refine ⟨.mk _ _ _ _ _ _ da2 .nil fun t h => by simp at h, by simp [fitT, fitB, fitL], ?_⟩
     show decide (lo = 0) = _
     by_cases h : lo = 0
     ·subst h; rfl
     ·rw [decide_eq_false h, decide_eq_true (show 0 < lo by omega)]; rfl
    | false =>
     rw [hc] at h0
     rw [if_pos (by rw [h0.2.2]; rfl)]
     refine ⟨.mk _ _ _ _ _ _ hw (.imm (es := [(alT t0).1.E]) (fun n => by simp [okL, RT.ok h0.1]) (by simp)) fun t h => by
      simp only [List.mem_cons, List.not_mem_nil, or_false] at h
      subst h; exact h0.1, ?_, by simp⟩
     simp only [fitT, fitL, h0.2.1, Bool.and_true]
     simp only [fitT, Bool.and_eq_true] at hfit
     exact hfit.1
  ·simp [bd3, k0, k1, k2, k3, k4] at hn
theorem bz8 {m : Nat} {f h : List Bool → List Bool} (hh : Lin m h) (e : ∀ a, a.length = m → f a = h a) {a : List Bool} (ha : a.length = m) : ∀ k, powN f k a = powN h k a
 | 0 => rfl
 | k + 1 => by show f (powN f k a) = h (powN h k a); rw [bz8 hh e ha k, e _ ((ae8 hh k).len _ ha)]
theorem cm3 {m : Nat} {f h : List Bool → List Bool} (hh : Lin m h) (e : ∀ a, a.length = m → f a = h a) {a : List Bool} (ha : a.length = m) : ∀ k, sumN f a k = sumN h a k
 | 0 => rfl
 | k + 1 => by rw [sumN, sumN, cm3 hh e ha k, e _ (au0 hh ha k)]
theorem ca3 {m : Nat} {f h : List Bool → List Bool} {g g' : List Bool → Bool} (hh : Lin m h) (e : ∀ a, a.length = m → f a = h a) (e' : ∀ a, a.length = m → g a = g' a) {a : List Bool} (ha : a.length = m) : ∀ k, opP f g k a = opP h g' k a
 | 0 => rfl
 | k + 1 => by rw [opP, opP, ca3 hh e e' ha k, bz8 hh e ha, e' _ ((ae8 hh k).len _ ha)]
theorem br2 {m : Nat} {a : List Bool} (ha : a.length = m) : orL a (af4 m) = a := ao5 (by rw [af9 (by rw [ah3]; omega)]) fun i => by rw [ac8 (by rw [ah3]; omega), ad8, Bool.or_false]
theorem el5 (s : List UInt8) : ∀ {ts : List RT}, (∀ t ∈ ts, t.Ok ∧ ai5 t = false ∧ (alT t).2 = true ∧ ∀ a, a.length = s.length + 1 → aa5 s (alT t).1 a = aa5 s t a ∧ (as8 s (alT t).1 a || (aa5 s t a).getD s.length false) = begT s t a) →
  ∀ a, a.length = s.length + 1 → ((ag3 (alL ts)).map (aa5 s)).foldl (fun x f => f x) a = (ts.map (aa5 s)).foldl (fun x f => f x) a ∧ (bj6 s (ag3 (alL ts)) a || ((ts.map (aa5 s)).foldl (fun x f => f x) a).getD s.length false) = begC s ts a
 | [], _, a, _ => ⟨rfl, by simp [alL, ag3, bj6, begC]⟩
 | t :: ts, h, a, ha => by
  obtain ⟨h1, h2, h3, h4⟩ := h t (by simp)
  obtain ⟨h5, h6⟩ := h4 a ha
  have hl := (ak6 s h1).len _ ha
  obtain ⟨i1, i2⟩ := el5 s (ts := ts) (fun u hu => h u (by simp [hu])) _ hl
  have hlast : (aa5 s t a).getD s.length false = true → begC s ts (aa5 s t a) = true := fun e => dz3 (fun u hu e => dd0 s (h u (by simp [hu])).1 (h u (by simp [hu])).2.1 _ e) e
  simp only [alL, bs3 h3, List.map_cons, List.foldl_cons, bj6, begC, h5]
  refine ⟨i1, ?_⟩
  rw [← h6, ← i2]
  rw [← i2] at hlast
  revert hlast
  cases (aa5 s t a).getD s.length false <;> cases as8 s (alT t).1 a <;> cases bj6 s (ag3 (alL ts)) (aa5 s t a) <;> simp
theorem el6 (s : List UInt8) (a : List Bool) (ha : a.length = s.length + 1) : ∀ {ts : List RT}, (∀ t ∈ ts, t.Ok ∧ aj3 t = true ∧ (alT t).2 = (!ai5 t) ∧ (ai5 t = false → aa5 s (alT t).1 a = aa5 s t a ∧ (as8 s (alT t).1 a || (aa5 s t a).getD s.length false) = begT s t a)) →
  ∀ o : List Bool, o.length = s.length + 1 → ((ag3 (alL ts)).map (aa5 s)).foldl (fun o f => orL o (f a)) o = (ts.map (aa5 s)).foldl (fun o f => orL o (f a)) o ∧ (bl0 s (ag3 (alL ts)) a || ((ts.map (aa5 s)).foldl (fun o f => orL o (f a)) o).getD s.length false) = (begA s ts a || o.getD s.length false)
 | [], _, o, _ => ⟨rfl, by simp [alL, ag3, bl0, begA]⟩
 | t :: ts, h, o, ho => by
  obtain ⟨h1, h2, h3, h4⟩ := h t (by simp)
  have hl := (ak6 s h1).len _ ha
  obtain ⟨i1, i2⟩ := el6 s a ha (ts := ts) (fun u hu => h u (by simp [hu])) (orL o (aa5 s t a)) (by rw [af9 (by omega), ho])
  rw [ac8 (by omega)] at i2
  cases hv : ai5 t with
  | true =>
   have e1 := cc0 s h1 h2 hv a ha
   have e2 := by2 s h1 hv a
   rw [hv] at h3
   simp only [List.map_cons, List.foldl_cons, alL, dc3 h3, begA, e2, Bool.false_or]
   rw [e1, br2 ho, ad8, Bool.or_false] at i2
   rw [e1, br2 ho] at i1
   rw [e1, br2 ho]
   exact ⟨i1, i2⟩
  | false =>
   obtain ⟨h5, h6⟩ := h4 hv
   rw [hv] at h3
   have h3 : (alT t).2 = true := h3
   simp only [List.map_cons, List.foldl_cons, alL, bs3 h3, begA, bl0, h5]
   refine ⟨i1, ?_⟩
   rw [Bool.or_assoc, i2, ← h6]
   cases (aa5 s t a).getD s.length false <;> cases as8 s (alT t).1 a <;> cases begA s ts a <;> cases o.getD s.length false <;> rfl
theorem dz9 (s : List UInt8) {t : RT} (ht : t.Ok) : aj3 t = true → ai5 t = false → ∀ a, a.length = s.length + 1 → aa5 s (alT t).1 a = aa5 s t a ∧ (as8 s (alT t).1 a || (aa5 s t a).getD s.length false) = begT s t a := by
 induction ht with
 | mk k w x ts lo hi hw hx hts ih =>
  intro hn hv a ha
  have hself := RT.Ok.mk k w x ts lo hi hw hx hts
  have hal := dk8 hself hn
  simp only [aj3, Bool.and_eq_true] at hn
  obtain ⟨hn, hnl⟩ := hn
  have hm := bh7 hnl
  have hok := fun t h => dk8 (hts t h) (hm t h)
  have he : aa5 s (.mk k w x ts lo hi) a = an0 s k w lo hi (ts.map (aa5 s)) a := by rw [aa5, aq1]
  by_cases k0 : k = 0
  ·subst k0
   have e : alT (.mk 0 w x ts lo hi) = (.mk 0 w x ts lo hi, true) := by rw [alT]; simp
   rw [e, bt8 s hself ha, he]
   exact ⟨rfl, by simp [bw4, an0, begT]⟩
  by_cases k1 : k = 1
  ·subst k1
   have e : alT (.mk 1 w x ts lo hi) = (.mk 1 w x ts lo hi, !zset w) := by rw [alT]; simp
   have hz : zset w = false := by simpa [ai5] using hv
   rw [e, bt8 s hself ha, he]
   exact ⟨rfl, by simp [bw4, an0, begT, hz]⟩
  by_cases k2 : k = 2
  ·subst k2
   have hc : ay0 ts = false := by simpa [ai5] using hv
   have hl := cl0 (ts := ts) fun t h => (hok t h).2.2
   rw [hc] at hl
   have hvm := bq2 hc
   have e : alT (.mk 2 w x ts lo hi) = (.mk 2 (fun _ => 0) (slT (ag3 (alL ts))) (ag3 (alL ts)) 0 0, decide (0 < (ag3 (alL ts)).length)) := by rw [alT, if_neg (by omega), if_pos rfl, if_pos (by rw [hl.1]; rfl)]
   rw [e] at hal ⊢
   have hk := el5 s (ts := ts) (fun t h => ⟨hts t h, hvm t h, by rw [(hok t h).2.2, hvm t h]; rfl, ih t h (hm t h) (hvm t h)⟩) a ha
   have e2 : aa5 s (.mk 2 (fun _ => 0) (slT (ag3 (alL ts))) (ag3 (alL ts)) 0 0) a = ((ag3 (alL ts)).map (aa5 s)).foldl (fun x f => f x) a := by rw [aa5, aq1]; simp [an0]
   rw [bt8 s hal.1 ha, he, e2]
   have e3 : an0 s 2 w lo hi (ts.map (aa5 s)) a = (ts.map (aa5 s)).foldl (fun x f => f x) a := by simp [an0]
   rw [e3]
   refine ⟨hk.1, ?_⟩
   rw [begT, if_neg (by omega), if_neg (by omega), if_pos rfl, hv, ← hk.2]
   simp [bw4]
  by_cases k3 : k = 3
  ·subst k3
   have e : alT (.mk 3 w x ts lo hi) = (.mk 3 (fun _ => 0) (slT (ag3 (alL ts))) (ag3 (alL ts)) 0 0, decide (0 < (ag3 (alL ts)).length)) := by rw [alT, if_neg (by omega), if_neg (by omega), if_pos rfl]
   rw [e] at hal ⊢
   have hk := el6 s a ha (ts := ts) (fun t h => ⟨hts t h, hm t h, (hok t h).2.2, fun hv => ih t h (hm t h) hv a ha⟩) (af4 (s.length + 1)) (ah3 _)
   have e2 : aa5 s (.mk 3 (fun _ => 0) (slT (ag3 (alL ts))) (ag3 (alL ts)) 0 0) a = ((ag3 (alL ts)).map (aa5 s)).foldl (fun o f => orL o (f a)) (af4 (s.length + 1)) := by rw [aa5, aq1]; simp [an0]
   rw [bt8 s hal.1 ha, he, e2]
   have e3 : an0 s 3 w lo hi (ts.map (aa5 s)) a = (ts.map (aa5 s)).foldl (fun o f => orL o (f a)) (af4 (s.length + 1)) := by simp [an0]
   rw [e3]
   refine ⟨hk.1, ?_⟩
   have h2 := hk.2
   rw [ad8, Bool.or_false] at h2
   rw [begT, if_neg (by omega), if_neg (by omega), if_neg (by omega), if_pos rfl, ← h2]
   simp [bw4]
  by_cases k4 : k = 4
  ·subst k4
   have hn2 := hn
   simp [bd3] at hn
   obtain ⟨hn1, hz, hlo, hlo2, hhi⟩ := hn
   match ts, hn1 with
   | [t0], _ =>
    have h0 := hok t0 (by simp)
    have t0ok := hts t0 (by simp)
    have hf := ak6 s t0ok
    have hvt : ai5 (.mk 4 w x [t0] lo hi) = (decide (0 < lo) && ai5 t0) := by simp [ai5, dl8]
    have e0 : alT (.mk 4 w x [t0] lo hi) = alH [alT t0] w lo hi := by rw [alT, if_neg (by omega), if_neg (by omega), if_neg (by omega), if_pos rfl, alL, alL]
    have e3 : an0 s 4 w lo hi ([t0].map (aa5 s)) a = sumN (aa5 s t0) (powN (aa5 s t0) lo.toNat a) (if hi < 0 then s.length + 1 else (hi - lo).toNat) := by simp [an0]
    rw [begT, if_neg (by omega), if_neg (by omega), if_neg (by omega), if_neg (by omega), hv, begR, co2]
    rw [e0] at hal ⊢
    rw [he, e3]
    cases hc : ai5 t0 with
    | true =>
     rw [hc] at h0 hvt
     have hlo0 : lo = 0 := by
      rw [hvt] at hv
      simp at hv
      omega
     subst hlo0
     rw [alH, if_neg (by rw [h0.2.2]; simp)] at hal ⊢
     rw [bt8 s hal.1 ha]
     have hev := cc0 s t0ok (hm t0 (by simp)) hc
     have hs : ∀ k, sumN (aa5 s t0) a k = a := by
      intro k
      induction k with
      | zero => rfl
      | succ k ih2 => rw [sumN, ih2, hev a ha, br2 ha]
     have ep : powN (aa5 s t0) (0 : Int).toNat a = a := rfl
     rw [ep, hs]
     have e2 : aa5 s (.mk 0 (fun _ => 0) .nilsl [] 0 0) a = a := by rw [aa5, aq1]; simp [an0]
     rw [e2]
     refine ⟨rfl, ?_⟩
     have e5 : ∀ k, opP (aa5 s t0) (begT s t0) k a = false := by
      intro k
      induction k with
      | zero => rfl
      | succ k ih2 => rw [opP, ih2, by2 s t0ok hc]; rfl
     rw [e5]
     have e6 : ∀ k, (a.getD s.length false || (powN (aa5 s t0) k a).getD s.length false) = a.getD s.length false := by
      intro k
      cases k with
      | zero => show (a.getD s.length false || a.getD s.length false) = _; rw [Bool.or_self]
      | succ k =>
       show (a.getD s.length false || (aa5 s t0 (powN (aa5 s t0) k a)).getD s.length false) = _
       rw [hev _ ((ae8 hf k).len _ ha), ad8, Bool.or_false]
     rw [Bool.false_or, e6]
     simp [bw4]
    | false =>
     rw [hc] at h0
     have hih := ih t0 (by simp) (hm t0 (by simp)) hc
     rw [alH, if_pos (by rw [h0.2.2]; rfl)] at hal ⊢
     rw [bt8 s hal.1 ha]
     have eo : bw4 s 4 w [(alT t0).1] lo hi a = bw3 s [(alT t0).1] lo hi a := by simp [bw4]
     have ee : aa5 s (.mk 4 w (.imm 8 [(alT t0).1.E]) [(alT t0).1] lo hi) a = sumN (aa5 s (alT t0).1) (powN (aa5 s (alT t0).1) lo.toNat a) (if hi < 0 then s.length + 1 else (hi - lo).toNat) := by rw [aa5, aq1]; simp [an0]
     rw [eo, ee, ee1 s h0.1 lo hi [] ha]
     have c1 : ∀ b, b.length = s.length + 1 → aa5 s (alT t0).1 b = aa5 s t0 b := fun b hb => (hih b hb).1
     rw [ca3 hf c1 (fun _ _ => rfl) ha, bz8 hf c1 ha, cm3 hf c1 ((ae8 hf _).len _ ha)]
     refine ⟨rfl, ?_⟩
     rw [en6 hf ha (fun b hb h => by rw [(hih b hb).2]; exact dd0 s t0ok hc b h)]
     rw [ca3 hf (fun _ _ => rfl) (fun b hb => (hih b hb).2) ha]
     rfl
  ·simp [bd3, k0, k1, k2, k3, k4] at hn
theorem ck1 (s : List UInt8) {t : RT} (ht : t.Ok) (hn : aj3 t = true) {a : List Bool} (ha : a.length = s.length + 1) (h : (aa5 s t a).getD s.length false = true) : begT s t a = true := by
 cases hv : ai5 t with
 | true => rw [cc0 s ht hn hv a ha, ad8] at h; simp at h
 | false => rw [← (dz9 s ht hn hv a ha).2, h, Bool.or_true]
theorem er1 (s : List UInt8) {t : RT} (ht : t.Ok) (hn : aj3 t = true) : Add (s.length + 1) (begT s t) := by
 cases hv : ai5 t with
 | true => exact (ch5 _).congr fun a _ => by2 s ht hv a
 | false => exact ((db8 s (dk8 ht hn).1).sum ((ea0 _ s.length).comp (ak6 s ht))).congr fun a ha => (dz9 s ht hn hv a ha).2.symm
section
variable {E : Env} [R : EndR E]
theorem cv6 {t : RT} (ht : t.Ok) : ∀ H, den E R.ag4 [t.E] H = some (.ret (.int .i64 (nodW t)), H) := by
 induction ht with
 | mk kd w x ts lo hi hw hx hts ih =>
  intro H
  have lx := hx.len
  rw [List.length_map] at lx
  have lex := hx.le
  rw [List.length_map] at lex
  obtain ⟨cx, ox⟩ := hx.one
  rw [show nodW (.mk kd w x ts lo hi) = nodL ts 1 by simp [nodW]]
  refine ag1 R.av8 (by simp) ?_
  unfold Gn.an7 Gn.ak1
  show @Hd E ⟨_⟩ ⟨an2 [.agg [.int .i64 kd, .int .u64 (w 0 : Nat), .int .u64 (w 1 : Nat), .int .u64 (w 2 : Nat), .int .u64 (w 3 : Nat), x, .int .i64 lo, .int .i64 hi]]⟩ ⟨_⟩ ⟨_⟩
  unfold EV.one at ox
  unfold EV.cells at cx
  repeat' first | (simp (disch := first | omega | assumption) only [go_sem, simprocAttr, *]) | refine aa0 (fun hb=>?_) fun hb=>?_ | refine aa1 (fun hb=>?_) fun hb=>?_
  all_goals (try simp only [FX] at *)
  refine al1 (ι := Nat) (fun i => i ≤ ts.length) (fun i => ts.length - i) (fun i => [(1, .ptr H.length 8 0 0), (3, .int .i64 (nodL (ts.take i) 1)), (4, .int .i64 i)])
   (fun i => H ++ [some (.row 8 [.agg [.int .i64 kd, .int .u64 (w 0 : Nat), .int .u64 (w 1 : Nat), .int .u64 (w 2 : Nat), .int .u64 (w 3 : Nat), x, .int .i64 lo, .int .i64 hi]])]) 0 (by omega) ?_ rfl ?_
  ·simp (disch := omega) only [go_sem, simprocAttr, Sl, List.take_zero, nodL]
  rintro i t hi ht K hK
  simp (disch := omega) only [go_sem, simprocAttr, Sl] at ht
  by_cases hlt : i < ts.length
  ·obtain ⟨y, hy⟩ := ac0 hlt
   have hat := hx.atT hy
   have hyl := RT.cells y
   have hyt : List.take 8 y.E.cells = y.E.cells := List.take_of_length_le (by omega)
   have hya : EV.agg y.E.cells = y.E := by cases y; rfl
   have hih := ih y (List.mem_of_getElem? hy)
   have go := fun s' H' => hK (i + 1) s' H' (by omega) (by omega)
   rw [co1 1 hy] at go
   clear hK ih
   unfold EV.cells at hyt hyl hya hat
   repeat' first | (simp (disch := first | omega | assumption) only [go_sem, simprocAttr, *]) | refine aa0 (fun hb=>?_) fun hb=>?_ | refine aa1 (fun hb=>?_) fun hb=>?_
   all_goals (try simp only [FX] at *)
   all_goals first | omega | skip
   refine go _ _ ?_ rfl
   simp (disch := omega) only [go_sem, simprocAttr, Sl, ht, and_self, ad6]
  ·have hie : i = ts.length := by omega
   subst hie
   rw [List.take_length] at ht
   clear hK ih
   repeat' first | (simp (disch := first | omega | assumption) only [go_sem, simprocAttr, *]) | refine aa0 (fun hb=>?_) fun hb=>?_ | refine aa1 (fun hb=>?_) fun hb=>?_
   all_goals (try simp only [FX] at *)
   all_goals first | omega | skip
   exact aa4 rfl rfl
end
section
variable {E : Env} [R : bv0 E]
theorem du2 {t : RT} (ht : t.Ok) (H : Heap) : den E R.ak0 [t.E] H = some (.ret (.bool (decide (nodW t > 400))), H) := by
 have h1 := fun H => cv6 (E := E) ht H
 cases ht with
 | mk kd w x ts lo hi hw hx hts =>
 obtain ⟨cx, ox⟩ := hx.one
 generalize nodW (.mk kd w x ts lo hi) = n at h1 ⊢
 refine ag1 R.aw0 (by simp) ?_
 unfold Gn.ao1 Gn.ak4
 unfold RT.E at h1 ⊢
 unfold EV.one at ox
 unfold EV.cells at cx
 simp only at h1
 repeat' first | (simp (disch := first | omega | assumption) only [go_sem, simprocAttr, *]) | refine aa0 (fun hb=>?_) fun hb=>?_ | refine aa1 (fun hb=>?_) fun hb=>?_
 all_goals (try simp only [FX] at *)
 all_goals first | omega | exact aa4 rfl rfl
theorem dd6 {t : RT} (ht : t.Ok) : ∀ H, den E R.ah2 [t.E] H = some (.ret (.int .i64 (wT t)), H) := by
 induction ht with
 | mk kd w x ts lo hi hw hx hts ih =>
  intro H
  have lx := hx.len
  rw [List.length_map] at lx
  have lex := hx.le
  rw [List.length_map] at lex
  obtain ⟨cx, ox⟩ := hx.one
  have hcap : ∀ v : Int, evMM false (.int .i64 v) (.int .i64 1000000) = some (.int .i64 (capW v)) := fun _ => rfl
  rw [show wT (.mk kd w x ts lo hi) = wN kd hi (wL ts 1) by simp [wT]]
  refine ag1 R.as9 (by simp) ?_
  unfold Gn.am2 Gn.aj4
  show @Hd E ⟨_⟩ ⟨an2 [.agg [.int .i64 kd, .int .u64 (w 0 : Nat), .int .u64 (w 1 : Nat), .int .u64 (w 2 : Nat), .int .u64 (w 3 : Nat), x, .int .i64 lo, .int .i64 hi]]⟩ ⟨_⟩ ⟨_⟩
  unfold EV.one at ox
  unfold EV.cells at cx
  repeat' first | (simp (disch := first | omega | assumption) only [go_sem, simprocAttr, *]) | refine aa0 (fun hb=>?_) fun hb=>?_ | refine aa1 (fun hb=>?_) fun hb=>?_
  all_goals (try simp only [FX] at *)
  refine al1 (ι := Nat) (fun i => i ≤ ts.length) (fun i => ts.length - i) (fun i => [(1, .ptr H.length 8 0 0), (3, .int .i64 (wL (ts.take i) 1)), (4, .int .i64 i)])
   (fun i => H ++ [some (.row 8 [.agg [.int .i64 kd, .int .u64 (w 0 : Nat), .int .u64 (w 1 : Nat), .int .u64 (w 2 : Nat), .int .u64 (w 3 : Nat), x, .int .i64 lo, .int .i64 hi]])]) 0 (by omega) ?_ rfl ?_
  ·simp (disch := omega) only [go_sem, simprocAttr, Sl, List.take_zero, wL]
  rintro i t hil ht K hK
  simp (disch := omega) only [go_sem, simprocAttr, Sl] at ht
  by_cases hlt : i < ts.length
  ·obtain ⟨y, hy⟩ := ac0 hlt
   have hat := hx.atT hy
   have hyl := RT.cells y
   have hyt : List.take 8 y.E.cells = y.E.cells := List.take_of_length_le (by omega)
   have hya : EV.agg y.E.cells = y.E := by cases y; rfl
   have hih := ih y (List.mem_of_getElem? hy)
   have hb1 := w_b y
   have hb2 := wL_b (ts.take i) 1 (by omega)
   have go := fun s' H' => hK (i + 1) s' H' (by omega) (by omega)
   rw [dl7 1 hy] at go
   generalize wL (ts.take i) 1 = n at ht go hb2
   generalize wT y = m at hih go hb1
   clear hK ih
   unfold EV.cells at hyt hyl hya hat
   repeat' first | (simp (disch := first | omega | assumption) only [go_sem, simprocAttr, *]) | refine aa0 (fun hb=>?_) fun hb=>?_ | refine aa1 (fun hb=>?_) fun hb=>?_
   all_goals (try simp only [FX] at *)
   all_goals first | omega | skip
   refine go _ _ ?_ rfl
   simp (disch := omega) only [go_sem, simprocAttr, Sl, ht, and_self, ad6]
  ·have hie : i = ts.length := by omega
   subst hie
   rw [List.take_length] at ht
   have hb := wL_b ts 1 (by omega)
   generalize wL ts 1 = n at ht hb ⊢
   clear hK ih
   by_cases k4 : kd = 4
   ·subst k4
    by_cases h1 : 1 < hi ∧ hi ≤ 64
    ·have hp : n ≤ n * hi ∧ n * hi ≤ 64000000 := by
      have h2 := Int.mul_le_mul_of_nonneg_left (show (1 : Int) ≤ hi by omega) (show 0 ≤ n by omega)
      have h3 := Int.mul_le_mul_of_nonneg_left (show hi ≤ (64 : Int) by omega) (show 0 ≤ n by omega)
      omega
     have hr : wN 4 hi n = capW (n * hi) := by unfold wN; rw [if_neg (by omega), if_pos ⟨rfl, h1⟩]
     have h5 : ¬ hi < 0 := by omega
     obtain ⟨h1, h4⟩ := h1
     rw [hr]
     clear hr
     generalize hnh : n * hi = p at hp ⊢
     repeat' first | (simp (disch := first | omega | assumption) only [go_sem, simprocAttr, *]) | refine aa0 (fun hb=>?_) fun hb=>?_ | refine aa1 (fun hb=>?_) fun hb=>?_
     all_goals (try simp only [FX] at *)
     all_goals first | omega | skip
     exact aa4 rfl rfl
    ·by_cases h5 : hi < 0
     ·have hr : wN 4 hi n = capW (n * 40) := by unfold wN; rw [if_pos ⟨rfl, h5⟩, if_neg (fun h => h1 h.2)]
      have h6 : ¬ hi > 1 := by omega
      rw [hr]
      clear hr h1
      repeat' first | (simp (disch := first | omega | assumption) only [go_sem, simprocAttr, *]) | refine aa0 (fun hb=>?_) fun hb=>?_ | refine aa1 (fun hb=>?_) fun hb=>?_
      all_goals (try simp only [FX] at *)
      all_goals first | omega | skip
      exact aa4 rfl rfl
     ·have hr : wN 4 hi n = n := by unfold wN; rw [if_neg (by omega), if_neg (fun h => h1 h.2)]
      rw [hr]
      clear hr
      by_cases h6 : hi > 1
      ·have h7 : ¬ hi ≤ 64 := by omega
       clear h1
       repeat' first | (simp (disch := first | omega | assumption) only [go_sem, simprocAttr, *]) | refine aa0 (fun hb=>?_) fun hb=>?_ | refine aa1 (fun hb=>?_) fun hb=>?_
       all_goals (try simp only [FX] at *)
       all_goals first | omega | skip
       exact aa4 rfl rfl
      ·clear h1
       repeat' first | (simp (disch := first | omega | assumption) only [go_sem, simprocAttr, *]) | refine aa0 (fun hb=>?_) fun hb=>?_ | refine aa1 (fun hb=>?_) fun hb=>?_
       all_goals (try simp only [FX] at *)
       all_goals first | omega | skip
       exact aa4 rfl rfl
   ·have hr : wN kd hi n = n := by unfold wN; rw [if_neg (fun h => k4 h.1), if_neg (fun h => k4 h.1)]
    rw [hr]
    clear hr
    repeat' first | (simp (disch := first | omega | assumption) only [go_sem, simprocAttr, *]) | refine aa0 (fun hb=>?_) fun hb=>?_ | refine aa1 (fun hb=>?_) fun hb=>?_
    all_goals (try simp only [FX] at *)
    all_goals first | omega | skip
    exact aa4 rfl rfl
def cp3 (t : RT) : Bool := decide (nodW t > 400) || decide (wT t > 20000)
theorem dt6 {t : RT} (ht : t.Ok) (H : Heap) : den E R.aj9 [t.E] H = some (.ret (.bool (cp3 t)), H) := by
 have h1 := fun H => du2 (E := E) ht H
 have h2 := fun H => dd6 (E := E) ht H
 unfold cp3
 cases ht with
 | mk kd w x ts lo hi hw hx hts =>
 obtain ⟨cx, ox⟩ := hx.one
 generalize nodW (.mk kd w x ts lo hi) = n at h1 ⊢
 generalize wT (.mk kd w x ts lo hi) = m at h2 ⊢
 refine ag1 R.av9 (by simp) ?_
 unfold Gn.an9 Gn.ak2
 unfold RT.E at h1 h2 ⊢
 unfold EV.one at ox
 unfold EV.cells at cx
 simp only at h1 h2
 by_cases c1 : n > 400
 ·rw [decide_eq_true c1] at h1 ⊢
  repeat' first | (simp (disch := first | omega | assumption) only [go_sem, simprocAttr, *]) | refine aa0 (fun hb=>?_) fun hb=>?_ | refine aa1 (fun hb=>?_) fun hb=>?_
  all_goals (try simp only [FX] at *)
  all_goals first | omega | exact aa4 rfl rfl
 ·rw [decide_eq_false c1] at h1 ⊢
  repeat' first | (simp (disch := first | omega | assumption) only [go_sem, simprocAttr, *]) | refine aa0 (fun hb=>?_) fun hb=>?_ | refine aa1 (fun hb=>?_) fun hb=>?_
  all_goals (try simp only [FX] at *)
  all_goals first | omega | exact aa4 rfl rfl
theorem eg5 {t : RT} (h : cp3 t = false) : szT t ≤ 20000 := by
 unfold cp3 at h
 simp only [Bool.or_eq_false_iff, decide_eq_false_iff_not] at h
 have := sz_w t (by omega)
 omega
end
section
variable {E : Env} [R : bv0 E]
theorem cw0 {t : RT} (ht : t.Ok) (s : List UInt8) (hs : s.length ≤ 100000) (p : Int) (h : ¬ (mayT t = true ∧ 0 ≤ p ∧ p ≤ s.length)) (H : Heap) :
  den E R.av3 [t.E, .str s, .int .i64 p] H = some (.ret (.tup [.nilsl, .int .i64 1]), H) := by
 have h1 := fun H => cj2 (E := E) ht H
 generalize mayT t = b at h h1
 cases ht with
 | mk kd w x0 ts lo hi hw hx0 hts =>
 obtain ⟨cx, ox⟩ := hx0.one
 refine ag1 R.be2 (by simp) ?_
 unfold Gn.bd7 Gn.av6
 unfold RT.E at h1 ⊢
 unfold EV.one at ox
 unfold EV.cells at cx
 simp only at h1
 cases b with
 | false =>
  repeat' first | (simp (disch := first | omega | assumption) only [go_sem, simprocAttr, *]) | refine aa0 (fun hb=>?_) fun hb=>?_ | refine aa1 (fun hb=>?_) fun hb=>?_
  all_goals (try simp only [FX] at *)
  all_goals first | omega | exact aa4 rfl rfl
 | true =>
  simp only [true_and] at h
  by_cases c : p < 0
  ·repeat' first | (simp (disch := first | omega | assumption) only [go_sem, simprocAttr, *]) | refine aa0 (fun hb=>?_) fun hb=>?_ | refine aa1 (fun hb=>?_) fun hb=>?_
   all_goals (try simp only [FX] at *)
   all_goals first | omega | exact aa4 rfl rfl
  ·have c2 : p > s.length := by omega
   repeat' first | (simp (disch := first | omega | assumption) only [go_sem, simprocAttr, *]) | refine aa0 (fun hb=>?_) fun hb=>?_ | refine aa1 (fun hb=>?_) fun hb=>?_
   all_goals (try simp only [FX] at *)
   all_goals first | omega | exact aa4 rfl rfl
theorem bv7 (hH : bt4 E R.al0 .u8) (hS : bb4 E R.ab1) {t : RT} (ht : t.Ok) (hm : mayT t = true) (s : List UInt8) (hs : s.length ≤ 100000) (p : Nat) (hp : p ≤ s.length) (H : Heap) :
  ∃ y, den E R.av3 [t.E, .str s, .int .i64 p] H = some (.ret (.tup [y, .int .i64 0]), H) ∧ am9 y (posL 0 (aa5 s t (atL s.length p))) := by
 have h1 := fun H => cj2 (E := E) ht H
 rw [hm] at h1
 have hn : aj3 t = true := by
  unfold mayT at hm
  simp only [Bool.and_eq_true] at hm
  exact hm.2.2
 have hA : am9 (.imm 1 [.int .i64 p]) (posL 0 (atL s.length p)) := by
  rw [dp5 _ _ hp]
  exact bn9 (l := [(p : Int)]) (by simp)
 obtain ⟨y, h2, h3⟩ := co5 (E := E) hH hS s hs ht (co0 hn) (.imm 1 [.int .i64 p]) (atL s.length p) (H.length + 1) false (H ++ [some (.row 8 [t.E]), some (.row 2 [.agg [.str s, .bool false]])]) hA (bg9 _ _) (by rw [List.getElem?_append_right (by omega), Nat.add_sub_cancel_left]; rfl)
 rw [List.set_append_right _ _ (by omega), Nat.add_sub_cancel_left] at h2
 simp only [List.set_cons_succ, List.set_cons_zero, Bool.false_or] at h2
 have hll : (posL 0 (aa5 s t (atL s.length p))).length ≤ 1000000 := by
  have := (ak6 s ht).len _ (bg9 s.length p)
  have h4 := bb3 (aa5 s t (atL s.length p))
  rw [au1]
  omega
 generalize as8 s t (atL s.length p) = op at h2
 have hcl := ch1 (E := E) y _ (H ++ [some (.row 8 [t.E]), some (.row 2 [.agg [.str s, .bool op]])]) (h3.arg _) hll
 generalize posL 0 (aa5 s t (atL s.length p)) = l at h3 hll hcl ⊢
 obtain ⟨cy, oy⟩ := h3.one
 cases ht with
 | mk kd w x0 ts lo hi hw hx0 hts =>
 obtain ⟨cx, ox⟩ := hx0.one
 unfold RT.E at h1 h2 hcl ⊢
 unfold EV.one at ox oy
 unfold EV.cells at cx cy
 simp only at h1 h2 hcl
 clear hm hn hA
 rcases hcl with ⟨rfl, z, hcl, hz⟩ | ⟨hne, hcl⟩
 ·refine ⟨z, ?_, by rcases hz with rfl | rfl; exact .nil; exact .zsl⟩
  refine ag1 R.be2 (by simp) ?_
  unfold Gn.bd7 Gn.av6
  rcases hz with rfl | rfl
  ·repeat' first | (simp (disch := first | omega | assumption) only [go_sem, simprocAttr, *]) | refine aa0 (fun hb=>?_) fun hb=>?_ | refine aa1 (fun hb=>?_) fun hb=>?_
   all_goals (try simp only [FX] at *)
   all_goals first | omega | exact aa4 rfl rfl
  ·repeat' first | (simp (disch := first | omega | assumption) only [go_sem, simprocAttr, *]) | refine aa0 (fun hb=>?_) fun hb=>?_ | refine aa1 (fun hb=>?_) fun hb=>?_
   all_goals (try simp only [FX] at *)
   all_goals first | omega | exact aa4 rfl rfl
 ·refine ⟨.imm 1 (aa9 l), ?_, bn9 (by omega)⟩
  refine ag1 R.be2 (by simp) ?_
  unfold Gn.bd7 Gn.av6
  simp only [List.length_append, List.length_cons, List.length_nil, List.append_assoc, List.cons_append, List.nil_append] at hcl
  repeat' first | (simp (disch := first | omega | assumption) only [go_sem, simprocAttr, *]) | refine aa0 (fun hb=>?_) fun hb=>?_ | refine aa1 (fun hb=>?_) fun hb=>?_
  all_goals (try simp only [FX] at *)
  all_goals first | omega | skip
  refine cb6 rfl ?_ rfl
  have hz := cp5 (L := H.length) (H := H ++ [some (.row 8 [.agg [.int .i64 kd, .int .u64 (w 0 : Nat), .int .u64 (w 1 : Nat), .int .u64 (w 2 : Nat), .int .u64 (w 3 : Nat), x0, .int .i64 lo, .int .i64 hi]]), some (.row 2 [.agg [.str s, .bool op]]), some (.row 1 (aa9 l))]) (n := 6) (b := H.length + 2) (sz := 1) (off := 0) (len := l.length) (es := aa9 l) (by omega) (by rw [List.getElem?_append_right (by omega), Nat.add_sub_cancel_left]; rfl) (by rw [ab4]; omega) (br3 _ _)
  rw [List.drop_zero, List.take_of_length_le (by rw [ab4]; exact Nat.le_refl _)] at hz
  have hi0 : Abs.fz H.length (H ++ [some (.row 8 [.agg [.int .i64 kd, .int .u64 (w 0 : Nat), .int .u64 (w 1 : Nat), .int .u64 (w 2 : Nat), .int .u64 (w 3 : Nat), x0, .int .i64 lo, .int .i64 hi]]), some (.row 2 [.agg [.str s, .bool op]]), some (.row 1 (aa9 l))]) 7 (.int .i64 0) = some (.int .i64 0) := bg6 rfl
  unfold Abs.fz
  rw [if_neg (by simp [EV.ok, okL])]
  simp only [mapO, hz, hi0]
  rfl
end
section
variable {E : Env} [R : bv0 E]
theorem de4 (x y : EV) (la lb : List Int) (hx : am9 x la) (hy : am9 y lb) (hl : la.length ≤ 1000000) (hl2 : lb.length ≤ 1000000) (H : Heap) :
  den E R.al5 [x, y] H = some (.ret (.bool (decide (la = lb))), H) := by
 have lx := hx.lenI
 have ly := hy.lenI
 obtain ⟨cx, ox⟩ := hx.one
 obtain ⟨cy, oy⟩ := hy.one
 generalize hr : decide (la = lb) = r
 refine ag1 R.ax6 (by simp) ?_
 unfold Gn.ap7 Gn.am1
 unfold EV.one at ox oy
 unfold EV.cells at cx cy
 by_cases hle : la.length = lb.length
 ·have he0 : ∀ n : Int, (n != n) = false := fun n => bne_self_eq_false n
  repeat' first | (simp (disch := first | omega | assumption) only [go_sem, simprocAttr, *]) | refine aa0 (fun hb=>?_) fun hb=>?_ | refine aa1 (fun hb=>?_) fun hb=>?_
  all_goals (try simp only [FX] at *)
  all_goals first | omega | skip
  refine al1 (ι := Nat) (fun i => i ≤ la.length ∧ la.take i = lb.take i) (fun i => la.length - i) (fun i => [(0, x), (1, y), (5, .int .i64 i)]) (fun _ => H) 0 ⟨by omega, by simp⟩ ?_ rfl ?_
  ·simp (disch := omega) only [go_sem, simprocAttr, Sl]
  rintro i t ⟨hil, hn⟩ ht K hK
  simp (disch := omega) only [go_sem, simprocAttr, Sl] at ht
  by_cases hlt : i < la.length
  ·obtain ⟨v, hv⟩ := ac0 hlt
   obtain ⟨u, hu⟩ := ac0 (l := lb) (i := i) (by omega)
   have hat := hx.at hv
   have hbt := hy.at hu
   by_cases e : v = u
   ·subst e
    have go := fun s' H' => hK (i + 1) s' H' ⟨by omega, by rw [List.take_add_one, List.take_add_one, hn, hv, hu]⟩ (by omega)
    clear hK hn
    repeat' first | (simp (disch := first | omega | assumption) only [go_sem, simprocAttr, *]) | refine aa0 (fun hb=>?_) fun hb=>?_ | refine aa1 (fun hb=>?_) fun hb=>?_
    all_goals (try simp only [FX] at *)
    all_goals first | omega | skip
    all_goals first | exact absurd trivial ‹¬True› | skip
    all_goals refine go _ _ ?_ rfl
    all_goals simp (disch := omega) only [go_sem, simprocAttr, Sl, ht, and_self, ad6]
   ·have hrf : r = false := by
     rw [← hr]
     refine decide_eq_false fun h => ?_
     subst h
     rw [hv] at hu
     simp only [Option.some.injEq] at hu
     exact e hu
    rw [hrf]
    have he : (v != u) = true := by simpa using e
    clear hK hn hr
    repeat' first | (simp (disch := first | omega | assumption) only [go_sem, simprocAttr, *]) | refine aa0 (fun hb=>?_) fun hb=>?_ | refine aa1 (fun hb=>?_) fun hb=>?_
    all_goals (try simp only [FX] at *)
    all_goals first | omega | skip
    exact ac5 rfl rfl
  ·have hie : i = la.length := by omega
   subst hie
   rw [List.take_length, hle, List.take_length] at hn
   have hrt : r = true := by rw [← hr]; exact decide_eq_true hn
   rw [hrt]
   clear hK hn hr
   repeat' first | (simp (disch := first | omega | assumption) only [go_sem, simprocAttr, *]) | refine aa0 (fun hb=>?_) fun hb=>?_ | refine aa1 (fun hb=>?_) fun hb=>?_
   all_goals (try simp only [FX] at *)
   all_goals first | omega | skip
   exact ac5 rfl rfl
 ·have hrf : r = false := by
   rw [← hr]
   refine decide_eq_false fun h => ?_
   subst h
   exact hle rfl
  rw [hrf]
  have hne : ((la.length : Int) != (lb.length : Int)) = true := by
   simp
   omega
  clear hr
  repeat' first | (simp (disch := first | omega | assumption) only [go_sem, simprocAttr, *]) | refine aa0 (fun hb=>?_) fun hb=>?_ | refine aa1 (fun hb=>?_) fun hb=>?_
  all_goals (try simp only [FX] at *)
  all_goals first | omega | skip
  exact ac5 rfl rfl
end
end Abs
