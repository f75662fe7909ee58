/- A part. -/
import Derived.Test.YtdcjkdgjlljodaaAbs21
import Derived.Laws.MakeOwn
import Derived.Laws.StandIn
set_option linter.all false
namespace Abs
open Go
section
variable {P : Program} {γ : Nat → EV} {φ : Nat → Nat} {I : Nat → Prop} {H : Heap} {w : World}
theorem ds8 {fn : Func} (h : fn.name = "internal/bytealg.IndexByteString") : Extern.find fn = some Extern.BytealgIndexByte.indexByte := by
 unfold Extern.find
 simp only [h]
 rfl
theorem dq2 {fn : Func} (h : fn.name = "internal/bytealg.IndexByteString") (g : fn.origin = "") : Extern.findNext fn = none := by
 unfold Extern.findNext
 simp only [h, g]
 rfl
theorem dg7 {N : Nat} {g : FuncId} {x c v : EV} {vx vc : Value} (hg : ef6 P (.func g) = some 0) (hx : RV φ N I w x vx) (hc : RV φ N I w c vc) (hev : dv1 x c = some v) :
  ∃ val, (callFunc g #[vx, vc]).run P w = .ok (.value val) w ∧ RV φ N I w v val := by
 unfold ef6 at hg
 simp only at hg
 split at hg
 case h_2 => simp at hg
 rename_i fn hfn
 split at hg
 case isFalse => simp at hg
 rename_i hc'
 simp only [Bool.and_eq_true, beq_iff_eq] at hc'
 obtain ⟨⟨h1, h2⟩, h3⟩ := hc'
 unfold dv1 at hev
 split at hev
 case h_2 => simp at hev
 rename_i s n
 obtain rfl := Option.some.inj hev
 cases hx
 cases hc
 refine ⟨_, ?_, .int _ _⟩
 rw [run_callFunc_indexByte hfn (by rw [h2]; rfl) h1 (dq2 h2 h3) (ds8 h2), Go.Lib.run_indexByteString]
 rfl
theorem ch3 {N : Nat} {x v : EV} {vx : Value} {src dst : TypeId} {k : IntKind} (hs : P.underlying src = some (.int k)) (hd : P.underlying dst = some .string) (hx : RV φ N I w x vx) (hev : dt8 x = some v) :
  ∃ val, (convert src dst vx).run P w = .ok val w ∧ RV φ N I w v val := by
 unfold dt8 at hev
 split at hev
 case h_2 => simp at hev
 rename_i k' n
 split at hev
 case isFalse => simp at hev
 rename_i hn
 obtain rfl := Option.some.inj hev
 cases hx
 have he : Utf8.encode n = ⟨[UInt8.ofNat n.toNat].toArray⟩ := by
  have hv : Utf8.valid n = true := by simp [Utf8.valid]; omega
  simp only [Utf8.encode, hv, if_true]
  rw [if_pos (by omega)]
 refine ⟨.string (Utf8.encode n), ?_, by rw [he]; exact .str _⟩
 simp [convert, run_underlying hs, run_underlying hd, Conv.intToString]
theorem da7 {ats : Array TypeId} {ty : TypeId} {mx : Bool} {x y v : EV} {vx vy : Value} {N : Nat} (hx : RV φ N I w x vx) (hy : RV φ N I w y vy) (hev : evMM mx x y = some v) :
  ∃ val, ((if mx then Builtin.max_ else Builtin.min_) ats ty #[vx, vy]).run P w = .ok val w ∧ RV φ N I w v val := by
 unfold evMM at hev
 split at hev
 case h_2 => simp at hev
 rename_i k a k' b
 split at hev
 case isFalse => simp at hev
 rename_i hk
 subst hk
 obtain rfl := Option.some.inj hev
 cases hx
 cases hy
 refine ⟨_, ?_, .int _ _⟩
 cases mx <;> simp [Builtin.max_, Builtin.min_, Builtin.max2, Builtin.min2]
theorem dk8 {N : Nat} {t xt : TypeId} {ok : Bool} {z x v : EV} {vx : Value} {d : TypeDesc} (hz : aq3 P t = some z) (hu : P.underlying t = some d) (hd : ∀ ms, d ≠ .interface ms) (hx : RV φ N I w x vx) (hev : co9 t ok z x = some v) :
  ∃ val, (Instr.typeAssert vx xt t ok).run P w = .ok val w ∧ RV φ N I w v val := by
 obtain ⟨i, vz, hi, hv, hc⟩ := bf0 hz
 have hzero : (zeroValue t).run P w = .ok vz w := by simp [zeroValue, typeInfo, hi, hv]
 have hzv : RV φ N I w z vz := an6 hc
 have two : ∀ (x y : EV) (a b : Value), RV φ N I w x a → RV φ N I w y b → RV φ N I w (.tup [x, y]) (.tuple #[a, b]) := fun x y a b h1 h2 => .tup [x, y] #[a, b] rfl fun k u p hu hp => by
  match k with
  | 0 => simp at hu hp; subst hu hp; exact h1
  | 1 => simp at hu hp; subst hu hp; exact h2
  | k + 2 => simp at hu
 unfold co9 at hev
 split at hev
 ·cases hx
  cases ok with
  | false => simp at hev
  | true =>
   simp only [if_true, Option.some.injEq] at hev
   subst hev
   refine ⟨.tuple #[vz, .bool false], ?_, two _ _ _ _ hzv (.bool _)⟩
   cases d <;> first | exact absurd rfl (hd _) | simp [Instr.typeAssert, run_underlying hu, hzero]
 ·rename_i t' u
  cases hx with
  | iface _ _ vv hvv =>
   by_cases e : t' = t
   ·rw [if_pos e] at hev
    subst e
    obtain rfl := Option.some.inj hev
    cases ok with
    | false =>
     refine ⟨vv, ?_, hvv⟩
     cases d <;> first | exact absurd rfl (hd _) | simp [Instr.typeAssert, run_underlying hu]
    | true =>
     refine ⟨.tuple #[vv, .bool true], ?_, two _ _ _ _ hvv (.bool _)⟩
     cases d <;> first | exact absurd rfl (hd _) | simp [Instr.typeAssert, run_underlying hu]
   ·rw [if_neg e] at hev
    cases ok with
    | false => simp at hev
    | true =>
     simp only [if_true, Option.some.injEq] at hev
     subst hev
     refine ⟨.tuple #[vz, .bool false], ?_, two _ _ _ _ hzv (.bool _)⟩
     cases d <;> first | exact absurd rfl (hd _) | simp [Instr.typeAssert, run_underlying hu, hzero, e]
 ·simp at hev
theorem dg2 (hr : RH γ φ I H w) {t e : TypeId} {i : TypeInfo} {z l c v : EV} {vl vc : Value} (hu : P.underlying t = some (.slice e)) (hi : P.info? e = some i) (hz : aq3 P e = some z)
  (hzs : z.cells.length = i.size) (hzo : z.cells.all EV.one = true) (hl : RV φ H.length I w l vl) (hc : RV φ H.length I w c vc) {H' : Heap} (hev : du5 i.size i.bytes z l c H = some (v, H')) :
  ∃ φ' val w', (Instr.makeSlice t vl vc).run P w = .ok val w' ∧ Evo φ I H w φ' I H' w' ∧ RH γ φ' I H' w' ∧ RV φ' H'.length I w' v val := by
 unfold du5 at hev
 split at hev
 case h_2 => simp at hev
 rename_i k n k' m
 split at hev
 case isFalse => simp at hev
 rename_i hb
 obtain ⟨b1, b2, b3, b4⟩ := hb
 simp only [Option.some.injEq, Prod.mk.injEq] at hev
 obtain ⟨rfl, rfl⟩ := hev
 cases hl
 cases hc
 obtain ⟨i', vz, hi', hv, hcz⟩ := bf0 hz
 obtain rfl := Option.some.inj (hi.symm.trans hi')
 have hzv : RV φ H.length I w z vz := an6 hcz
 have hrun := run_make (P := P) w t e i vz hu hi hv k k' n m b1 b2 b3 b4
 have hle : n.toNat ≤ m.toNat := by omega
 have hmul : n.toNat * i.size ≤ m.toNat * i.size := Nat.mul_le_mul_right _ hle
 have hz0 := bp9 (φ := φ) (N := H.length) (I := I) (w := w) (len := n.toNat) hzv hzo hzs
 have hcells : (madeCells vz.cells (m.toNat * i.size)).toList = (madeCells vz.cells (n.toNat * i.size)).toList ++ (madeCells vz.cells (m.toNat * i.size)).toList.drop (n.toNat * i.size) := by
  have h1 : (madeCells vz.cells (n.toNat * i.size)).toList = (madeCells vz.cells (m.toNat * i.size)).toList.take (n.toNat * i.size) := by
   simp only [madeCells, Array.toList_map, Array.toList_range, ← List.map_take, List.take_range, Nat.min_eq_left hmul]
  rw [h1, List.take_append_drop]
 obtain ⟨φ', w', e1, e2, e3, e4⟩ := by1 hr (e := e) (sz := i.size) (cap := m.toNat) (es := List.replicate n.toNat z) (news := (madeCells vz.cells (n.toNat * i.size)).toList)
  (rest := (madeCells vz.cells (m.toNat * i.size)).toList.drop (n.toNat * i.size)) hz0 (by simpa using hle) (by
   rw [List.length_drop, Array.length_toList, size_madeCells, List.length_replicate, Nat.sub_mul])
 rw [← hcells] at e1
 simp only [List.length_replicate, Array.toArray_toList] at e1 e4
 refine ⟨φ', _, w', ?_, e2, e3, by simpa using e4⟩
 rw [hrun, e1]
theorem dx0 {N : Nat} {t e ty : TypeId} {x : EV} {vx : Value} (ht : P.underlying t = some (.slice e)) (hx : RV φ N I w x vx) {k : Nat} (hev : dv6 x = some k) :
  (Builtin.cap_ #[t] ty #[vx]).run P w = .ok (.int .i64 (k : Int)) w := by
 unfold dv6 at hev
 split at hev
 ·simp only [Option.some.injEq] at hev; subst hev
  cases hx
  simp [Builtin.cap_, run_underlying ht, goInt]
 ·simp only [Option.some.injEq] at hev; subst hev
  cases hx
  simp [Builtin.cap_, run_underlying ht, goInt]
 ·simp at hev
theorem cx8 (hr : RH γ φ I H w) {t e ty : TypeId} {i : TypeInfo} {z : EV} (ht : P.underlying t = some (.slice e)) (hi : P.info? e = some i) (hz : aq3 P e = some z)
  (hzs : z.cells.length = i.size) (hzo : z.cells.all EV.one = true) (h0 : 0 < i.size) {x : EV} {vx : Value} (hx : RV φ H.length I w x vx) {H' : Heap} (hev : bo6 i.size z x H = some H') :
  ∃ val w', (Builtin.clear_ #[t] ty #[vx]).run P w = .ok val w' ∧ Evo φ I H w φ I H' w' ∧ RH γ φ I H' w' := by
 unfold bo6 at hev
 split at hev
 ·simp only [Option.some.injEq] at hev; subst hev
  cases hx
  exact ⟨.tuple #[], w, by simp [Builtin.clear_, run_underlying ht], .refl .., hr⟩
 ·simp only [Option.some.injEq] at hev; subst hev
  cases hx
  exact ⟨.tuple #[], w, by simp [Builtin.clear_, run_underlying ht], .refl .., hr⟩
 ·rename_i sz es
  split at hev
  case isFalse => simp at hev
  rename_i he
  simp only [Option.some.injEq] at hev; subst hev
  have he' : es = [] := List.eq_nil_of_length_eq_zero he
  subst he'
  cases hx <;> exact ⟨.tuple #[], w, by simp [Builtin.clear_, run_underlying ht], .refl .., hr⟩
 ·rename_i b bs off len
  split at hev
  ·rename_i hl0
   simp only [Option.some.injEq] at hev; subst hev; subst hl0
   cases hx <;> exact ⟨.tuple #[], w, by simp [Builtin.clear_, run_underlying ht], .refl .., hr⟩
  ·rename_i hl0
   split at hev
   case h_2 => simp at hev
   rename_i bs' old hb
   split at hev
   case isFalse => simp at hev
   rename_i hcond
   obtain ⟨rfl, rfl, hlo⟩ := hcond
   simp only [Option.some.injEq] at hev; subst hev
   obtain ⟨c, T, hB, hc1, hc2, hc3⟩ := hr.blk b _ hb
   have hbl := aa3 hb
   obtain ⟨i', vz, hi', hvz, hcz⟩ := bf0 hz
   rw [hi] at hi'
   obtain rfl := Option.some.inj hi'
   have hrz := an6 (φ := φ) (N := H.length) (I := I) (w := w) hcz
   have hrow : RowC φ H.length I w i.size (List.replicate len z) (Builtin.zeroCells vz.cells len).toList := by
    have hsz0 : vz.cells.size = i.size := by have := (hrz.cells hzo).1; rw [← hzs, ← this]
    have := bp9 (len := len) hrz hzo hzs
    unfold Builtin.zeroCells
    rw [hsz0]
    rw [hsz0] at this
    exact this
   generalize hnews : (Builtin.zeroCells vz.cells len).toList = news at hrow
   generalize hes : List.replicate len z = es at hrow
   have hel : es.length = len := by rw [← hes]; simp
   have hzv : (zeroValue e).run P w = .ok vz w := by simp [zeroValue, typeInfo, hi, hvz]
   have hl00 : es.length ≠ 0 := by rw [hel]; exact hl0
   clear hl0
   subst hel
   have hnl : news.length = es.length * i.size := hrow.1.symm
   have hsz : ∀ x ∈ es, x.cells.length = i.size := hrow.2.1
   have hall : ∀ x ∈ es, x.cells.all EV.one = true := fun x hx => by
    rw [← hes] at hx
    rw [(List.mem_replicate.1 hx).2]
    exact hzo
   have hvx : ∃ cap, vx = .slice (some ⟨φ b, off * i.size, none⟩) es.length cap := by
    generalize es.length = ln at hx hl00 ⊢
    cases hx with
    | own0 => exact absurd rfl hl00
    | own _ _ _ _ cap n' T' hbb hsh hnn hcap => exact ⟨_, rfl⟩
   obtain ⟨cap, rfl⟩ := hvx
   have hmul : (off + es.length) * i.size ≤ old.length * i.size := Nat.mul_le_mul_right _ (by omega)
   rw [Nat.add_mul] at hmul
   have hones : ∀ v ∈ news, v.oneCell' = true := by
    intro v hv
    obtain ⟨q, hq⟩ := List.mem_iff_getElem?.1 hv
    have hql := aa3 hq
    rw [hnl] at hql
    have hdiv : q / i.size < es.length := Nat.div_lt_of_lt_mul (by rw [Nat.mul_comm]; exact hql)
    have hmod : q % i.size < i.size := Nat.mod_lt _ h0
    have hxs := hsz es[q / i.size] (List.getElem_mem hdiv)
    have hone := hall es[q / i.size] (List.getElem_mem hdiv)
    simp only [List.all_eq_true] at hone
    have hy' : es[q / i.size].cells[q % i.size]? = some (es[q / i.size].cells[q % i.size]'(by omega)) := by simp
    exact ((hrow.2.2 (q / i.size) (q % i.size) _ _ v (by simp) hy' (by rw [Nat.mul_comm, Nat.div_add_mod]; exact hq)).one (hone _ (List.getElem_mem _))).1
   have hfit : off * i.size + news.length ≤ c.toList.length := by rw [hnl]; simp; omega
   have hst := run_storeCells_at P (φ b) (off * i.size) T news 0 c w hB (by simpa using hfit) hones
   simp only [Nat.add_zero] at hst
   have hcs : (c.toList.take (off * i.size) ++ news ++ c.toList.drop (off * i.size + news.length)).toArray.size = c.size := by
    simpa using ap3 c.toList news (off * i.size) hfit
   have hget := ak4 c.toList news (off * i.size) hfit
   generalize hc' : (c.toList.take (off * i.size) ++ news ++ c.toList.drop (off * i.size + news.length)).toArray = c' at hst hcs
   have hget' : ∀ m, c'[m]? = if m < off * i.size then c.toList[m]? else if m < off * i.size + news.length then news[m - off * i.size]? else c.toList[m]? := fun m => by
    rw [← hget m, ← hc']; simp
   have hfit2 : off + es.length ≤ old.length := by omega
   have hold := ak4 old es off hfit2
   have hmono : ∀ y u, RV φ H.length I w y u → RV φ H.length I (w.setRow (φ b) c') y u := fun y u h => by
    have := (ax7 (I := I) (y := EB.row i.size old) hb hB hcs).rv hr h
    simpa using this
   refine ⟨.tuple #[], w.setRow (φ b) c', ?_, ax7 hb hB hcs, bq0 hr hb hB hcs ?_⟩
   ·obtain ⟨m, hm⟩ : ∃ m, es.length = m + 1 := ⟨es.length - 1, by omega⟩
    rw [hm] at hnews ⊢
    simp only [Builtin.clear_, List.getElem?_toArray, List.getElem?_cons_zero, Sem.run_bind, run_underlying ht, Result.andThen_ok, hzv, hnews, hst, Sem.run_pure]
   ·refine ⟨c', T, setRow_heap w (φ b) c c' T (0, 0) hB, ?_, ?_, ?_⟩
    ·rw [ap3 old es off hfit2, hcs]; exact hc1
    ·intro y hy
     rcases List.mem_append.1 hy with h | h
     ·rcases List.mem_append.1 h with h | h
      ·exact hc2 y (List.mem_of_mem_take h)
      ·exact hsz y h
     ·exact hc2 y (List.mem_of_mem_drop h)
    ·intro k j e' y u he' hy hu
     have hj := aa3 hy
     rw [hold] at he'
     rw [hget'] at hu
     refine hmono _ _ ?_
     have hesz : e'.cells.length = i.size := by
      split at he'
      ·exact hc2 e' (List.mem_of_getElem? he')
      ·split at he'
       ·exact hsz e' (List.mem_of_getElem? he')
       ·exact hc2 e' (List.mem_of_getElem? he')
     rw [hesz] at hj
     by_cases a1 : k < off
     ·have : k * i.size + j < off * i.size := am7 hj a1
      rw [if_pos a1] at he'
      rw [if_pos this] at hu
      exact hc3 k j e' y u he' hy (by simpa using hu)
     ·have hge : off * i.size ≤ k * i.size := Nat.mul_le_mul_right _ (by omega)
      rw [if_neg a1] at he'
      rw [if_neg (by omega)] at hu
      by_cases a2 : k < off + es.length
      ·have h2 : (k - off) * i.size + j < es.length * i.size := am7 hj (by omega)
       have h3 : (k - off) * i.size = k * i.size - off * i.size := Nat.sub_mul ..
       rw [if_pos a2] at he'
       rw [if_pos (by omega)] at hu
       refine hrow.2.2 (k - off) j e' y u he' hy ?_
       rw [h3, show k * i.size - off * i.size + j = k * i.size + j - off * i.size by omega]
       exact hu
      ·have h4 : (off + es.length) * i.size ≤ k * i.size := Nat.mul_le_mul_right _ (by omega)
       rw [Nat.add_mul] at h4
       rw [if_neg a2] at he'
       rw [if_neg (by omega)] at hu
       exact hc3 k j e' y u he' hy (by simpa using hu)
 ·simp at hev
theorem di6 (hr : RH γ φ I H w) {t u e ty : TypeId} {i : TypeInfo} (ht : P.underlying t = some (.slice e)) (hi : P.info? e = some i)
  {x y v : EV} {vx vy : Value} (hx : RV φ H.length I w x vx) (hy : RV φ H.length I w y vy) {H' : Heap} (hev : dv3 i.size x y H = some (v, H')) :
  ∃ val w', (Builtin.copy_ #[t, u] ty #[vx, vy]).run P w = .ok val w' ∧ Evo φ I H w φ I H' w' ∧ RH γ φ I H' w' ∧ RV φ H'.length I w' v val := by
 unfold dv3 at hev
 split at hev
 case h_2 => simp at hev
 rename_i es hes
 split at hev
 case isFalse => simp at hev
 rename_i hc
 obtain ⟨h0, hall⟩ := hc
 rw [List.all_eq_true] at hall
 have hsz : ∀ x ∈ es, x.cells.length = i.size := fun x hx => by have := hall x hx; simp only [Bool.and_eq_true, beq_iff_eq] at this; exact this.1
 obtain ⟨news, hlen, hnews, hrow⟩ := bo7 (P := P) hr hes hy h0 hsz
 have hnl : news.length = es.length * i.size := hrow.1.symm
 split at hev
 ·split at hev
  case isFalse => simp at hev
  rename_i he
  simp only [Option.some.injEq, Prod.mk.injEq] at hev
  obtain ⟨rfl, rfl⟩ := hev
  cases hx
  have hn := hnews w rfl
  rw [he] at hlen hn
  refine ⟨.int .i64 0, w, ?_, .refl .., hr, .int _ _⟩
  simp [Builtin.copy_, run_underlying ht, hlen, Go.sizeOf, typeInfo, hi, hn, goInt]
 ·split at hev
  case isFalse => simp at hev
  rename_i he
  simp only [Option.some.injEq, Prod.mk.injEq] at hev
  obtain ⟨rfl, rfl⟩ := hev
  cases hx
  have hn := hnews w rfl
  rw [he] at hlen hn hnl
  have hn0 : news = [] := List.eq_nil_of_length_eq_zero (by simpa using hnl)
  subst hn0
  refine ⟨.int .i64 0, w, ?_, .refl .., hr, .int _ _⟩
  simp [Builtin.copy_, run_underlying ht, hlen, Go.sizeOf, typeInfo, hi, hn, goInt, storeCells]
 ·rename_i b bs off len
  split at hev
  case h_2 => simp at hev
  rename_i bs' old hb
  split at hev
  case isFalse => simp at hev
  rename_i hcond
  obtain ⟨rfl, rfl, hlo, hle⟩ := hcond
  simp only [Option.some.injEq, Prod.mk.injEq] at hev
  obtain ⟨rfl, rfl⟩ := hev
  obtain ⟨c, T, hB, hc1, hc2, hc3⟩ := hr.blk b _ hb
  have hbl := aa3 hb
  have hn := hnews w rfl
  cases hx with
  | own0 _ _ _ ad hbb =>
   have he : es = [] := List.eq_nil_of_length_eq_zero (by omega)
   subst he
   have hn0 : news = [] := List.eq_nil_of_length_eq_zero (by simpa using hnl)
   subst hn0
   have hH : H.set b (some (.row i.size (old.take off ++ [] ++ old.drop (off + ([] : List EV).length)))) = H := by
    rw [List.append_nil, List.length_nil, Nat.add_zero, List.take_append_drop]
    apply List.ext_getElem?
    intro k
    by_cases hk : b = k
    ·subst hk; rw [List.getElem?_set_self hbl, hb]
    ·rw [List.getElem?_set_ne hk]
   rw [hH]
   refine ⟨.int .i64 0, w, ?_, .refl .., hr, .int _ _⟩
   simp only [List.length_nil] at hlen hn
   simp [Builtin.copy_, run_underlying ht, hlen, Go.sizeOf, typeInfo, hi, hn, goInt, storeCells]
  | own _ _ _ _ cap n' T' hbb hsh hnn hcap =>
   have hmul : (off + es.length) * i.size ≤ old.length * i.size := Nat.mul_le_mul_right _ (by omega)
   rw [Nat.add_mul] at hmul
   have hones : ∀ v ∈ news, v.oneCell' = true := by
    intro v hv
    obtain ⟨q, hq⟩ := List.mem_iff_getElem?.1 hv
    have hql := aa3 hq
    rw [hnl] at hql
    have hdiv : q / i.size < es.length := Nat.div_lt_of_lt_mul (by rw [Nat.mul_comm]; exact hql)
    have hmod : q % i.size < i.size := Nat.mod_lt _ h0
    have hxs := hsz es[q / i.size] (List.getElem_mem hdiv)
    have hone := hall es[q / i.size] (List.getElem_mem hdiv)
    simp only [Bool.and_eq_true, List.all_eq_true] at hone
    have hy' : es[q / i.size].cells[q % i.size]? = some (es[q / i.size].cells[q % i.size]'(by omega)) := by simp
    exact ((hrow.2.2 (q / i.size) (q % i.size) _ _ v (by simp) hy' (by rw [Nat.mul_comm, Nat.div_add_mod]; exact hq)).one (hone.2 _ (List.getElem_mem _))).1
   have hfit : off * i.size + news.length ≤ c.toList.length := by rw [hnl]; simp; omega
   have hst := run_storeCells_at P (φ b) (off * i.size) T news 0 c w hB (by simpa using hfit) hones
   simp only [Nat.add_zero] at hst
   have hcs : (c.toList.take (off * i.size) ++ news ++ c.toList.drop (off * i.size + news.length)).toArray.size = c.size := by
    simpa using ap3 c.toList news (off * i.size) hfit
   have hget := ak4 c.toList news (off * i.size) hfit
   generalize hc' : (c.toList.take (off * i.size) ++ news ++ c.toList.drop (off * i.size + news.length)).toArray = c' at hst hcs
   have hget' : ∀ m, c'[m]? = if m < off * i.size then c.toList[m]? else if m < off * i.size + news.length then news[m - off * i.size]? else c.toList[m]? := fun m => by
    rw [← hget m, ← hc']; simp
   have hfit2 : off + es.length ≤ old.length := by omega
   have hold := ak4 old es off hfit2
   have hmono : ∀ y u, RV φ H.length I w y u → RV φ H.length I (w.setRow (φ b) c') y u := fun y u h => by
    have := (ax7 (I := I) (y := EB.row i.size old) hb hB hcs).rv hr h
    simpa using this
   refine ⟨.int .i64 es.length, w.setRow (φ b) c', ?_, ax7 hb hB hcs, bq0 hr hb hB hcs ?_, .int _ _⟩
   ·have hmin : Nat.min es.length len = es.length := Nat.min_eq_left hle
    simp only [Builtin.copy_, List.getElem?_toArray, List.getElem?_cons_zero, List.getElem?_cons_succ, Sem.run_bind, run_underlying ht, Result.andThen_ok, hlen, hmin, Go.sizeOf, typeInfo, run_program, Sem.run_pure, hi, hn, hst, goInt]
   ·refine ⟨c', T, setRow_heap w (φ b) c c' T (0, 0) hB, ?_, ?_, ?_⟩
    ·rw [ap3 old es off hfit2, hcs]; exact hc1
    ·intro y hy
     rcases List.mem_append.1 hy with h | h
     ·rcases List.mem_append.1 h with h | h
      ·exact hc2 y (List.mem_of_mem_take h)
      ·exact hsz y h
     ·exact hc2 y (List.mem_of_mem_drop h)
    ·intro k j e' y u he' hy hu
     have hj := aa3 hy
     rw [hold] at he'
     rw [hget'] at hu
     refine hmono _ _ ?_
     have hesz : e'.cells.length = i.size := by
      split at he'
      ·exact hc2 e' (List.mem_of_getElem? he')
      ·split at he'
       ·exact hsz e' (List.mem_of_getElem? he')
       ·exact hc2 e' (List.mem_of_getElem? he')
     rw [hesz] at hj
     by_cases a1 : k < off
     ·have : k * i.size + j < off * i.size := am7 hj a1
      rw [if_pos a1] at he'
      rw [if_pos this] at hu
      exact hc3 k j e' y u he' hy (by simpa using hu)
     ·have hge : off * i.size ≤ k * i.size := Nat.mul_le_mul_right _ (by omega)
      rw [if_neg a1] at he'
      rw [if_neg (by omega)] at hu
      by_cases a2 : k < off + es.length
      ·have h2 : (k - off) * i.size + j < es.length * i.size := am7 hj (by omega)
       have h3 : (k - off) * i.size = k * i.size - off * i.size := Nat.sub_mul ..
       rw [if_pos a2] at he'
       rw [if_pos (by omega)] at hu
       refine hrow.2.2 (k - off) j e' y u he' hy ?_
       rw [h3, show k * i.size - off * i.size + j = k * i.size + j - off * i.size by omega]
       exact hu
      ·have h4 : (off + es.length) * i.size ≤ k * i.size := Nat.mul_le_mul_right _ (by omega)
       rw [Nat.add_mul] at h4
       rw [if_neg a2] at he'
       rw [if_neg (by omega)] at hu
       exact hc3 k j e' y u he' hy (by simpa using hu)
 ·simp at hev
end
end Abs
