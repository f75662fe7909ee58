/- A part. -/
import Derived.Test.YtdcjkdgjlljodaaAbs3
import Derived.Laws.AppendOwn
set_option linter.all false
namespace Abs
open Go
section
variable {P : Program} {w : World} {t u ty e : TypeId} {i : TypeInfo} {d : TypeDesc} {z vy : Value} {m : Nat} {news : List Value}
theorem cl7 (ht : P.underlying t = some (.slice e)) (hu : P.underlying u = some d) (hd : ∀ k, d ≠ .int k) (hi : P.info? e = some i) (hlen : (Builtin.lenOf vy).run P w = .ok 0 w)
  (hnews : ∀ w', w'.heap = w.heap → (Builtin.firstCells i.size 0 vy).run P w' = .ok #[] w') : (Builtin.append_ #[t, u] ty #[.slice none 0 0, vy]).run P w = .ok (.slice none 0 0) w := by
 simp [Builtin.append_, run_underlying ht, run_underlying hu, Go.sizeOf, typeInfo, hi, hlen, hnews w rfl]
theorem ct0 (ht : P.underlying t = some (.slice e)) (hu : P.underlying u = some d) (hd : ∀ k, d ≠ .int k) (hi : P.info? e = some i) (hz : i.zero = some z) (hlen : (Builtin.lenOf vy).run P w = .ok m w)
  (hnews : ∀ w', w'.heap = w.heap → (Builtin.firstCells i.size m vy).run P w' = .ok news.toArray w') (h0 : 0 < m) (h63 : m ≤ 9223372036854775807) (h48 : m * i.bytes ≤ 140737488355328) :
  (Builtin.append_ #[t, u] ty #[.slice none 0 0, vy]).run P w =
   .ok (.slice (some ⟨w.heap.size, 0, none⟩) m (grownCap w m 0 e)) (w.drew.alloc (.cells (news.toArray ++ Builtin.zeroCells z.cells (grownCap w m 0 e - m)) e)) := by
 have hn : m ≠ 0 := by omega
 have h63' : ¬ (9223372036854775807 < (m : Int)) := by omega
 have h48' : ¬ (281474976710656 < Builtin.nextslicecap m 0 * i.bytes) := by rw [nextslicecap_zero h0]; omega
 have hf := hnews w.drew rfl
 simp [Builtin.append_, run_underlying ht, run_underlying hu, Go.sizeOf, typeInfo, zeroValue, hi, hz, hlen, hn, h63', h48', Question.forced, run_firstCells_none, hf, newRow, grownCap]
theorem bk9 (ht : P.underlying t = some (.slice e)) (hu : P.underlying u = some d) (hd : ∀ k, d ≠ .int k) (hi : P.info? e = some i) (hlen : (Builtin.lenOf vy).run P w = .ok m w) {a : Addr} {n cap : Nat} {w1 : World}
  (hnews : ∀ w', w'.heap = w.heap → (Builtin.firstCells i.size m vy).run P w' = .ok news.toArray w') (hroom : n + m ≤ cap) (hst : (storeCells (a.add (n * i.size)) news).run P w = .ok () w1) :
  (Builtin.append_ #[t, u] ty #[.slice (some a) n cap, vy]).run P w = .ok (.slice (some a) (n + m) cap) w1 := by
 simp [Builtin.append_, run_underlying ht, run_underlying hu, Go.sizeOf, typeInfo, hi, hlen, hroom, hnews w rfl, hst]
theorem bu2 (ht : P.underlying t = some (.slice e)) (hu : P.underlying u = some d) (hd : ∀ k, d ≠ .int k) (hi : P.info? e = some i) (hz : i.zero = some z) (hlen : (Builtin.lenOf vy).run P w = .ok m w) {a : Addr} {n cap : Nat} {olds : List Value}
  (hold : ∀ w', w'.heap = w.heap → (Builtin.firstCells i.size n (.slice (some a) n cap)).run P w' = .ok olds.toArray w')
  (hnews : ∀ w', w'.heap = w.heap → (Builtin.firstCells i.size m vy).run P w' = .ok news.toArray w') (hg : cap < n + m) (h63 : n + m ≤ 9223372036854775807) (h48 : (n + m) * i.bytes ≤ 140737488355328) :
  (Builtin.append_ #[t, u] ty #[.slice (some a) n cap, vy]).run P w =
   .ok (.slice (some ⟨w.heap.size, 0, none⟩) (n + m) (grownCap w (n + m) cap e)) (w.drew.alloc (.cells (olds.toArray ++ news.toArray ++ Builtin.zeroCells z.cells (grownCap w (n + m) cap e - (n + m))) e)) := by
 have hn : ¬ (n + m ≤ cap) := by omega
 have h63' : ¬ (9223372036854775807 < ((n : Int) + (m : Int))) := by omega
 have h48' : ¬ (281474976710656 < Builtin.nextslicecap (n + m) cap * i.bytes) := by
  have := growslice_fits (show cap < n + m by omega) h48
  omega
 simp [Builtin.append_, run_underlying ht, run_underlying hu, Go.sizeOf, typeInfo, zeroValue, hi, hz, hlen, hn, h63', h48', Question.forced, hold w.drew rfl, hnews w.drew rfl, newRow, grownCap]
 congr 2
 apply Array.ext'
 simp [List.append_assoc]
end
section
variable {P : Program} {γ : Nat → EV} {φ : Nat → Nat} {N : Nat} {I : Nat → Prop} {H : Heap} {w : World}
theorem bo7 (hr : RH γ φ I H w) {y : EV} {es : List EV} (h : bh7 H y = some es) {vy : Value} (hy : RV φ H.length I w y vy) {sz : Nat} (h0 : 0 < sz) (hsz : ∀ x ∈ es, x.cells.length = sz) :
  ∃ news : List Value, (Builtin.lenOf vy).run P w = .ok es.length w ∧ (∀ w', w'.heap = w.heap → (Builtin.firstCells sz es.length vy).run P w' = .ok news.toArray w') ∧ RowC φ H.length I w sz es news := by
 have part : ∀ (B o len cap : Nat) (c : Array Value) (T : TypeId) (fr : Nat × Nat), w.heap[B]? = some (.cells c T fr) → o + es.length * sz ≤ c.size → len = es.length →
   (∀ (i j : Nat) (x y : EV) (v : Value), es[i]? = some x → x.cells[j]? = some y → c[o + i * sz + j]? = some v → RV φ H.length I w y v) →
   ∃ news : List Value, (Builtin.lenOf (.slice (some ⟨B, o, none⟩) len cap)).run P w = .ok es.length w ∧ (∀ w', w'.heap = w.heap → (Builtin.firstCells sz es.length (.slice (some ⟨B, o, none⟩) len cap)).run P w' = .ok news.toArray w') ∧ RowC φ H.length I w sz es news := by
  intro B o len cap c T fr hB hs hl hv
  subst hl
  refine ⟨(c.toList.drop o).take (es.length * sz), by simp [Builtin.lenOf], fun w' hw => ?_, ?_, hsz, fun i j x y v hx hy hv' => ?_⟩
  ·exact by0 P (w := w') (by rw [hw]; exact hB) hs
  ·simp; omega
  ·have hi := aa3 hx
   have hj := aa3 hy
   have hxs := hsz x (List.mem_of_getElem? hx)
   have hlt : i * sz + j < es.length * sz := am7 (by omega) hi
   rw [List.getElem?_take_of_lt hlt, List.getElem?_drop] at hv'
   exact hv i j x y v hx hy (by rw [Nat.add_assoc]; simpa using hv')
 have empty : es = [] → ∀ a, vy = .slice (some a) 0 0 → ∃ news : List Value, (Builtin.lenOf vy).run P w = .ok es.length w ∧ (∀ w', w'.heap = w.heap → (Builtin.firstCells sz es.length vy).run P w' = .ok news.toArray w') ∧ RowC φ H.length I w sz es news := by
  rintro rfl a rfl
  refine ⟨[], by simp [Builtin.lenOf], fun w' hw => ?_, by simp, by simp, by simp⟩
  simp [Builtin.firstCells, loadCells, loadCellsFrom]
 unfold bh7 at h
 split at h
 ·simp only [Option.some.injEq] at h; subst h
  cases hy
  exact ⟨[], by simp [Builtin.lenOf], fun w' _ => by simp [Builtin.firstCells], by simp, by simp, by simp⟩
 ·simp only [Option.some.injEq] at h; subst h
  cases hy with
  | zsl a => exact empty rfl a rfl
 ·rename_i sz' es'
  simp only [Option.some.injEq] at h; subst h
  cases hy with
  | imm0 _ a => exact empty rfl a rfl
  | imm _ _ B o cap c T fr hI hB hs hc hz hv =>
   by_cases hes : es' = []
   ·subst hes
    refine ⟨[], by simp [Builtin.lenOf], fun w' hw => ?_, by simp, by simp, by simp⟩
    simp [Builtin.firstCells, loadCells, loadCellsFrom]
   ·obtain ⟨x, hx⟩ := List.exists_mem_of_ne_nil _ hes
    have e : sz' = sz := (hz x hx).symm.trans (hsz x hx)
    subst e
    exact part B o _ cap c T fr hB hs rfl hv
 ·rename_i b sz' off len
  split at h
  ·rename_i sz2 es' hb
   split at h
   ·rename_i hcond
    obtain ⟨rfl, hlen⟩ := hcond
    simp only [Option.some.injEq] at h; subst h
    obtain ⟨c, T, hB, hc1, hc2, hc3⟩ := hr.blk b _ hb
    have hl : ((es'.drop off).take len).length = len := by simp; omega
    cases hy with
    | own0 _ _ _ a hbb => exact empty (by simp) a rfl
    | own _ _ _ _ cap n T' hbb hsh hn hcap =>
     by_cases hl0 : len = 0
     ·subst hl0
      refine ⟨[], by simp [Builtin.lenOf], fun w' hw => ?_, by simp, by simp, by simp⟩
      simp [Builtin.firstCells, loadCells, loadCellsFrom]
     ·have hx : es'[off]'(by omega) ∈ (es'.drop off).take len := List.mem_iff_getElem.2 ⟨0, by rw [hl]; omega, by simp⟩
      have e : sz' = sz := (hc2 _ (List.getElem_mem (by omega))).symm.trans (hsz _ hx)
      subst e
      refine part (φ b) (off * sz') len cap c T (0, 0) hB ?_ hl.symm fun i j x y v hx hy hv => ?_
      ·rw [hl, ← Nat.add_mul]
       exact Nat.le_trans (Nat.mul_le_mul_right _ hlen) hc1
      ·have hi := aa3 hx
       rw [hl] at hi
       rw [List.getElem?_take_of_lt hi, List.getElem?_drop] at hx
       exact hc3 (off + i) j x y v hx hy (by rw [Nat.add_mul]; exact hv)
   ·simp at h
  ·simp at h
 ·rename_i s
  simp only [Option.some.injEq] at h; subst h
  cases hy
  by_cases hs : s = []
  ·subst hs
   refine ⟨[], ?_, fun w' _ => by simp [Builtin.firstCells], by simp, by simp, by simp⟩
   show Result.ok _ w = _
   rfl
  ·obtain ⟨b, hb⟩ := List.exists_mem_of_ne_nil _ hs
   have hs1 : (EV.int .u8 (b.toNat : Int)).cells.length = sz := hsz _ (List.mem_map.2 ⟨b, hb, rfl⟩)
   have hs1 : sz = 1 := hs1.symm
   subst hs1
   refine ⟨s.map fun b => .int .u8 (b.toNat : Int), by simp [Builtin.lenOf, ay2], fun w' _ => ?_, by simp, hsz, fun i j x y v hx hy hv => ?_⟩
   ·simp only [Builtin.firstCells, Sem.run_pure]
    congr 1
    apply Array.ext'
    simp [ByteArray.data_extract]
   ·simp only [List.getElem?_map, Option.map_eq_some_iff] at hx
    obtain ⟨b, hb, rfl⟩ := hx
    have hj := aa3 hy
    simp [EV.cells] at hj
    subst hj
    simp [EV.cells] at hy
    subst hy
    simp [hb] at hv
    subst hv
    exact .int _ _
 ·simp at h
theorem RH.kill {b : Nat} (h : RH γ φ I H w) : RH γ φ I (H.set b none) w := by
 have old : ∀ {k : Nat} {x : EB}, (H.set b none)[k]? = some (some x) → H[k]? = some (some x) := fun {k x} hk => by
  by_cases e : b = k
  ·subst e
   have hb := aa3 hk
   rw [List.getElem?_set_self (by simpa using hb)] at hk
   simp at hk
  ·rwa [List.getElem?_set_ne e] at hk
 exact ⟨h.glob, fun k x hk => by rw [List.length_set]; exact h.blk k x (old hk), fun k k' x x' hk hk' e => h.inj k k' x x' (old hk) (old hk') e, h.imm, fun k x hk => h.dis k x (old hk), fun k x hk => h.lt k x (old hk)⟩
theorem Evo.kill {b : Nat} : Evo φ I H w φ I (H.set b none) w :=
 ⟨Nat.le_refl _, fun _ _ => rfl, fun _ _ _ => rfl, fun _ h => h, fun _ _ => rfl, by simp, fun B h => by
  obtain ⟨k, x, hk, e⟩ := h
  by_cases eb : b = k
  ·subst eb
   have hb := aa3 hk
   rw [List.getElem?_set_self (by simpa using hb)] at hk
   simp at hk
  ·rw [List.getElem?_set_ne eb] at hk
   exact .inl ⟨k, x, hk, e⟩, fun _ h => .inl h, rfl, rfl, rfl, fun _ _ => rfl⟩
theorem RV.drew {x : EV} {v : Value} (h : RV φ N I w x v) : RV φ N I w.drew x v :=
 RV.mono (w := w) (w' := w.drew) (Nat.le_refl _) (fun _ _ => rfl) (fun _ h => h) (fun _ _ => rfl) (fun _ _ _ _ h => h) h
theorem RH.drew (h : RH γ φ I H w) : RH γ φ I H w.drew :=
 ⟨fun g => (h.glob g).drew, fun b x hb => RB.mono (w := w) (w' := w.drew) (Nat.le_refl _) (fun _ _ => rfl) (fun _ h => h) (fun _ _ => rfl) (fun _ _ _ _ h => h) rfl (h.blk b x hb), h.inj, h.imm, h.dis, h.lt⟩
theorem evo_drew : Evo φ I H w φ I H w.drew := ⟨Nat.le_refl _, fun _ _ => rfl, fun _ _ _ => rfl, fun _ h => h, fun _ _ => rfl, Nat.le_refl _, fun _ h => .inl h, fun _ h => .inl h, rfl, rfl, rfl, fun _ _ => rfl⟩
theorem by1 (hr : RH γ φ I H w) {e : TypeId} {sz cap : Nat} {es : List EV} {news rest : List Value} (hrow : RowC φ H.length I w sz es news) (hcap : es.length ≤ cap) (hrest : rest.length = (cap - es.length) * sz) :
  ∃ φ' w', w' = w.alloc (.cells (news ++ rest).toArray e) ∧ Evo φ I H w φ' I (H ++ [some (.row sz es)]) w' ∧ RH γ φ' I (H ++ [some (.row sz es)]) w' ∧ RV φ' (H.length + 1) I w' (.own H.length sz 0 es.length) (.slice (some ⟨w.heap.size, 0, none⟩) es.length cap) := by
 have hev := bl6 φ I H w (.cells (news ++ rest).toArray e) (.row sz es)
 obtain ⟨r1, r2, r3⟩ := hrow
 refine ⟨_, _, rfl, hev, bq1 hr ⟨_, e, aw8 w _, by simp; omega, r2, fun i j x y v hx hy hv => ?_⟩, ?_⟩
 ·have hi := aa3 hx
  have hj := aa3 hy
  have hs := r2 x (List.mem_of_getElem? hx)
  have hlt : i * sz + j < es.length * sz := am7 (by omega) hi
  have := hev.rv hr (r3 i j x y v hx hy (by
   simp only [List.getElem?_toArray] at hv
   rwa [List.getElem?_append_left (by omega)] at hv))
  simpa using this
 ·have hsh : (w.alloc (.cells (news ++ rest).toArray e)).shape? (up φ H.length w.heap.size H.length) = some (e, (news ++ rest).toArray.size) := by
   rw [bd6]; unfold World.shape?; rw [aw8]
  have := RV.own (I := I) H.length sz 0 es.length cap _ e (Nat.lt_succ_self _) hsh (by
   simp only [List.size_toArray, List.length_append, hrest, ← r1, Nat.zero_add, ← Nat.add_mul]
   exact Nat.mul_le_mul_right _ (by omega)) hcap
  rw [bd6] at this
  simpa using this
theorem cr3 (hr : RH γ φ I H w) {t u e ty : TypeId} {i : TypeInfo} {d : TypeDesc} {z : EV} (ht : P.underlying t = some (.slice e)) (hu : P.underlying u = some d) (hd : ∀ k, d ≠ .int k) (hi : P.info? e = some i) (hz : aq3 P e = some z)
  (hzs : z.cells.length = i.size) (hzo : z.cells.all EV.one = true) {x y v : EV} {vx vy : Value} (hx : RV φ H.length I w x vx) (hy : RV φ H.length I w y vy) {H' : Heap} (hev : ab7 i.size i.bytes x y H = some (v, H')) :
  ∃ φ' val w', (Builtin.append_ #[t, u] ty #[vx, vy]).run P w = .ok val w' ∧ Evo φ I H w φ' I H' w' ∧ RH γ φ' I H' w' ∧ RV φ' H'.length I w' v val := by
 obtain ⟨i', vz, hi', hvz, hcz⟩ := bf0 hz
 rw [hi] at hi'
 simp only [Option.some.injEq] at hi'; subst hi'
 have hzc : vz.cells.size = i.size := by rw [((an6 (φ := φ) (N := 0) (I := I) (w := w) hcz).cells hzo).1, hzs]
 unfold ab7 at hev
 split at hev
 case h_2 => simp at hev
 rename_i es hes
 split at hev
 case isFalse => simp at hev
 rename_i hc
 obtain ⟨h0, hall⟩ := hc
 rw [List.all_eq_true] at hall
 have hsz : ∀ x ∈ es, x.cells.length = i.size := fun x hx => by have := hall x hx; simp only [Bool.and_eq_true, beq_iff_eq] at this; exact this.1
 obtain ⟨news, hlen, hnews, hrow⟩ := bo7 (P := P) hr hes hy h0 hsz
 have hnl : news.length = es.length * i.size := hrow.1.symm
 have rest_len : ∀ k, (Builtin.zeroCells vz.cells k).toList.length = k * i.size := fun k => by rw [Array.length_toList, size_zeroCells, hzc]
 split at hev
 ·-- nil
  cases hx
  split at hev
  ·rename_i he
   simp only [Option.some.injEq, Prod.mk.injEq] at hev
   obtain ⟨rfl, rfl⟩ := hev
   have he' : es = [] := List.eq_nil_of_length_eq_zero he
   subst he'
   have hn : news = [] := List.eq_nil_of_length_eq_zero (by simpa using hnl)
   subst hn
   exact ⟨φ, _, w, cl7 ht hu hd hi hlen hnews, .refl .., hr, .nilsl⟩
  ·rename_i he
   split at hev
   case isFalse => simp at hev
   rename_i hb
   simp only [Option.some.injEq, Prod.mk.injEq] at hev
   obtain ⟨rfl, rfl⟩ := hev
   have hge := grownCap_ge w es.length 0 e
   obtain ⟨φ', w', e1, e2, e3, e4⟩ := by1 hr.drew (e := e) (cap := grownCap w es.length 0 e) (rest := (Builtin.zeroCells vz.cells (grownCap w es.length 0 e - es.length)).toList) ⟨hrow.1, hrow.2.1, fun i j x y v h1 h2 h3 => (hrow.2.2 i j x y v h1 h2 h3).drew⟩ hge (rest_len _)
   refine ⟨φ', _, w', ?_, evo_drew.trans e2, e3, by simpa using e4⟩
   rw [ct0 ht hu hd hi hvz hlen hnews (by omega) hb.1 hb.2, e1]
   congr 3
   apply Array.ext'
   simp
 ·-- empty
  cases hx with
  | zsl a =>
  split at hev
  ·rename_i he
   simp only [Option.some.injEq, Prod.mk.injEq] at hev
   obtain ⟨rfl, rfl⟩ := hev
   have he' : es = [] := List.eq_nil_of_length_eq_zero he
   subst he'
   have hn : news = [] := List.eq_nil_of_length_eq_zero (by simpa using hnl)
   subst hn
   exact ⟨φ, _, w, bk9 ht hu hd hi hlen (a := a) (n := 0) (cap := 0) (w1 := w) hnews (by simp) (by simp [storeCells]), .refl .., hr, .zsl a⟩
  ·rename_i he
   split at hev
   case isFalse => simp at hev
   rename_i hb
   simp only [Option.some.injEq, Prod.mk.injEq] at hev
   obtain ⟨rfl, rfl⟩ := hev
   have hge := grownCap_ge w es.length 0 e
   obtain ⟨φ', w', e1, e2, e3, e4⟩ := by1 hr.drew (e := e) (cap := grownCap w es.length 0 e) (rest := (Builtin.zeroCells vz.cells (grownCap w es.length 0 e - es.length)).toList) ⟨hrow.1, hrow.2.1, fun i j x y v h1 h2 h3 => (hrow.2.2 i j x y v h1 h2 h3).drew⟩ hge (rest_len _)
   refine ⟨φ', _, w', ?_, evo_drew.trans e2, e3, by simpa using e4⟩
   rw [bu2 (olds := []) ht hu hd hi hvz hlen (fun w' _ => by simp [Builtin.firstCells, loadCells, loadCellsFrom]) hnews (by omega) (by omega) (by rw [Nat.zero_add]; exact hb.2)]
   simp only [Nat.zero_add] at e1 ⊢
   rw [e1]
   congr 3
   apply Array.ext'
   simp
 ·-- a row of the call's own
  rename_i b bs off len
  split at hev
  case h_2 => simp at hev
  rename_i bs' old hb
  split at hev
  case isFalse => simp at hev
  rename_i hcond
  obtain ⟨rfl, rfl, rfl, hlo, hb1, hb2⟩ := hcond
  simp only [Option.some.injEq, Prod.mk.injEq] at hev
  obtain ⟨rfl, rfl⟩ := hev
  obtain ⟨c, T, hB, hc1, hc2, hc3⟩ := hr.blk b _ hb
  have hbl := aa3 hb
  have hol : (old.take len ++ es).length = len + es.length := by simp; omega
  have hcells : ∀ x ∈ old.take len ++ es, x.cells.length = i.size := fun x hx => by
   rcases List.mem_append.1 hx with h | h
   ·exact hc2 x (List.mem_of_mem_take h)
   ·exact hsz x h
  have getOld : ∀ (k j : Nat) (x y : EV) (v : Value) (c' : List Value), c'.length = len * i.size → (∀ q, q < len * i.size → c'[q]? = c[q]?) → (old.take len ++ es)[k]? = some x → x.cells[j]? = some y → (c' ++ news)[k * i.size + j]? = some v → RV φ H.length I w y v := by
   intro k j x y v c' hl hq hx hy hv
   have hj := aa3 hy
   have hxs := hcells x (List.mem_of_getElem? hx)
   by_cases hk : k < len
   ·have hlt : k * i.size + j < len * i.size := am7 (by omega) hk
    rw [List.getElem?_append_left (by simp; omega), List.getElem?_take_of_lt hk] at hx
    rw [List.getElem?_append_left (by omega), hq _ hlt] at hv
    exact hc3 k j x y v hx hy hv
   ·have hge : len * i.size ≤ k * i.size := Nat.mul_le_mul_right _ (by omega)
    rw [List.getElem?_append_right (by simp; omega)] at hx
    have e0 : (old.take len).length = len := by simp; omega
    rw [e0] at hx
    rw [List.getElem?_append_right (by omega), hl] at hv
    refine hrow.2.2 (k - len) j x y v hx hy ?_
    rw [show (k - len) * i.size + j = k * i.size + j - len * i.size by rw [Nat.sub_mul]; omega]
    exact hv
  -- the block kept
  have inplace : ∀ (w1 : World) (c' : Array Value) (val : Value), w1 = w.setRow (φ b) c' → c'.size = c.size → (len + es.length) * i.size ≤ c.size → (∀ q, q < (len + es.length) * i.size → c'[q]? = (c.toList.take (len * i.size) ++ news)[q]?) →
    (∀ φ', φ' H.length = φ b → RV φ' (H.length + 1) I w1 (.own H.length i.size 0 (len + es.length)) val) →
    ∃ φ', Evo φ I H w φ' I (H.set b none ++ [some (EB.row i.size (old.take len ++ es))]) w1 ∧ RH γ φ' I (H.set b none ++ [some (EB.row i.size (old.take len ++ es))]) w1 ∧ RV φ' (H.set b none ++ [some (EB.row i.size (old.take len ++ es))]).length I w1 (.own H.length i.size 0 (len + es.length)) val := by
   rintro w1 c' val rfl hcs hfit hc' hval
   have same : ∀ B, B ≠ φ b → (w.setRow (φ b) c').heap[B]? = w.heap[B]? := fun B hne => setRow_other w (φ b) B c' hne
   have oldb : ∀ {k : Nat} {x : EB}, (H.set b none ++ [some (EB.row i.size (old.take len ++ es))])[k]? = some (some x) → (k ≠ b ∧ k < H.length ∧ H[k]? = some (some x)) ∨ (k = H.length ∧ x = .row i.size (old.take len ++ es)) := fun {k x} hk => by
    have hkl := aa3 hk
    simp only [List.length_append, List.length_set, List.length_cons, List.length_nil] at hkl
    by_cases hlt : k < H.length
    ·rw [List.getElem?_append_left (by simpa using hlt)] at hk
     by_cases eb : b = k
     ·subst eb
      rw [List.getElem?_set_self hlt] at hk
      simp at hk
     ·rw [List.getElem?_set_ne eb] at hk
      exact .inl ⟨fun h => eb h.symm, hlt, hk⟩
    ·obtain rfl : k = H.length := by omega
     rw [List.getElem?_append_right (by simp)] at hk
     simp at hk
     exact .inr ⟨rfl, hk.symm⟩
   have hev : Evo φ I H w (up φ H.length (φ b)) I (H.set b none ++ [some (EB.row i.size (old.take len ++ es))]) (w.setRow (φ b) c') := by
    refine ⟨by simp, fun B _ => ay8 hB hcs, fun B hB hn => same B fun e => hn ⟨b, _, hb, e.symm⟩, fun _ h => h, fun k hk => ba4 hk, by simp, fun B h => ?_, fun _ h => .inl h, rfl, rfl, rfl, fun a _ => br4 hB a⟩
    obtain ⟨k, x, hk, e⟩ := h
    rcases oldb hk with ⟨h1, h2, h3⟩ | ⟨rfl, rfl⟩
    ·rw [ba4 h2] at e; exact .inl ⟨k, x, h3, e⟩
    ·rw [bd6] at e; exact .inl ⟨b, _, hb, e⟩
   refine ⟨up φ H.length (φ b), hev, ⟨fun g => ?_, fun k x hk => ?_, fun k k' x x' hk hk' e => ?_, fun B hI => by have := hr.imm B hI; simpa using this, fun k x hk => ?_, fun k x hk => ?_⟩, by simpa using hval _ bd6⟩
   ·exact (hr.glob g).mono (Nat.le_refl 0) (fun i hi => absurd hi (Nat.not_lt_zero i)) (fun _ h => h) (fun B hI => same B fun e => hr.dis b _ hb (e ▸ hI)) (fun b hb => absurd hb (Nat.not_lt_zero b))
   ·rcases oldb hk with ⟨h1, h2, h3⟩ | ⟨rfl, rfl⟩
    ·rw [ba4 h2]
     exact (hr.blk k x h3).mono (by simp) (fun q hq => ba4 hq) (fun _ h => h) (fun B hI => same B fun e => hr.dis b _ hb (e ▸ hI)) (fun _ _ _ _ hs => (ay8 hB hcs).trans hs) (same _ fun e => h1 (hr.inj k b x _ h3 hb e))
    ·rw [bd6]
     refine ⟨c', T, setRow_heap w (φ b) c c' T (0, 0) hB, by rw [hol, hcs]; exact hfit, hcells, fun k j x y v hx hy hv => ?_⟩
     have hk := aa3 hx
     have hj := aa3 hy
     have hxs := hcells x (List.mem_of_getElem? hx)
     rw [hol] at hk
     have hlt : k * i.size + j < (len + es.length) * i.size := am7 (by omega) hk
     have := hev.rv hr (getOld k j x y v (c.toList.take (len * i.size)) (by
      have : len * i.size ≤ old.length * i.size := Nat.mul_le_mul_right _ hlo
      simp; omega) (fun q hq => by rw [List.getElem?_take_of_lt hq]; simp) hx hy (by rw [← hc' _ hlt]; exact hv))
     simpa using this
   ·rcases oldb hk with ⟨h1, h2, h3⟩ | ⟨rfl, rfl⟩ <;> rcases oldb hk' with ⟨g1, g2, g3⟩ | ⟨rfl, rfl⟩
    ·rw [ba4 h2, ba4 g2] at e; exact hr.inj k k' x x' h3 g3 e
    ·rw [ba4 h2, bd6] at e; exact absurd (hr.inj k b x _ h3 hb e) h1
    ·rw [bd6, ba4 g2] at e; exact absurd (hr.inj k' b x' _ g3 hb e.symm) g1
    ·rfl
   ·rcases oldb hk with ⟨h1, h2, h3⟩ | ⟨rfl, rfl⟩
    ·rw [ba4 h2]; exact hr.dis k x h3
    ·rw [bd6]; exact hr.dis b _ hb
   ·rcases oldb hk with ⟨h1, h2, h3⟩ | ⟨rfl, rfl⟩
    ·rw [ba4 h2]; simpa using hr.lt k x h3
    ·rw [bd6]; simpa using hr.lt b _ hb
  -- a new block
  have grows : ∀ (a : Addr) (cap : Nat) (olds : List Value), vx = .slice (some a) len cap → (∀ w', w'.heap = w.heap → (Builtin.firstCells i.size len (.slice (some a) len cap)).run P w' = .ok olds.toArray w') → olds.length = len * i.size →
    (∀ q, q < len * i.size → olds[q]? = c[q]?) → cap < len + es.length → ∃ φ' val w', (Builtin.append_ #[t, u] ty #[vx, vy]).run P w = .ok val w' ∧ Evo φ I H w φ' I (H.set b none ++ [some (EB.row i.size (old.take len ++ es))]) w' ∧
     RH γ φ' I (H.set b none ++ [some (EB.row i.size (old.take len ++ es))]) w' ∧ RV φ' (H.set b none ++ [some (EB.row i.size (old.take len ++ es))]).length I w' (.own H.length i.size 0 (len + es.length)) val := by
   rintro a cap olds rfl hold hol2 hq hlt
   have hge := grownCap_ge w (len + es.length) cap e
   have hrow' : RowC φ (H.set b none).length I w.drew i.size (old.take len ++ es) (olds ++ news) := by
    refine ⟨by rw [hol, List.length_append, hol2, hnl, Nat.add_mul], hcells, fun k j x y v hx hy hv => ?_⟩
    rw [List.length_set]
    exact (getOld k j x y v olds hol2 hq hx hy hv).drew
   obtain ⟨φ', w', e1, e2, e3, e4⟩ := by1 (RH.kill (b := b) hr).drew (e := e) (cap := grownCap w (len + es.length) cap e) (rest := (Builtin.zeroCells vz.cells (grownCap w (len + es.length) cap e - (len + es.length))).toList) hrow' (by rw [hol]; exact hge) (by rw [hol]; exact rest_len _)
   rw [List.length_set, hol] at e4
   refine ⟨φ', _, w', ?_, (Evo.kill.trans evo_drew).trans e2, e3, by simpa using e4⟩
   rw [bu2 ht hu hd hi hvz hlen hold hnews hlt hb1 hb2, e1]
   congr 3
   apply Array.ext'
   simp
  cases hx with
  | own0 _ _ _ a hbb =>
   by_cases he : es = []
   ·subst he
    have hn : news = [] := List.eq_nil_of_length_eq_zero (by simpa using hnl)
    subst hn
    obtain ⟨φ', e1, e2, e3⟩ := inplace (w.setRow (φ b) c) c (.slice (some a) 0 0) rfl rfl (by simp) (fun q hq => by simp at hq) (fun φ' _ => .own0 _ _ _ a (Nat.lt_succ_self _))
    have hw : w.setRow (φ b) c = w := by
     have h1 : (w.setRow (φ b) c).heap = w.heap := by
      apply Array.ext_getElem?
      intro B
      by_cases e : B = φ b
      ·subst e; rw [setRow_heap w (φ b) c c T (0, 0) hB, hB]
      ·exact setRow_other w (φ b) B c e
     unfold World.setRow at h1 ⊢
     simp only at h1
     rw [h1]
    rw [hw] at e1 e2 e3
    exact ⟨φ', _, w, bk9 ht hu hd hi hlen (a := a) (n := 0) (cap := 0) (w1 := w) hnews (by simp) (by simp [storeCells]), e1, e2, e3⟩
   ·refine grows a 0 [] rfl (fun w' _ => by simp [Builtin.firstCells, loadCells, loadCellsFrom]) (by simp) (fun q hq => by simp at hq) ?_
    have := List.length_pos_iff.2 he
    omega
  | own _ _ _ _ cap n' T' hbb hsh hn hcap =>
   have hcn : c.size = n' := by unfold World.shape? at hsh; rw [hB] at hsh; simp at hsh; exact hsh.2
   by_cases hroom : len + es.length ≤ cap
   ·have hfit : (len + es.length) * i.size ≤ c.size := by
     have : (len + es.length) * i.size ≤ cap * i.size := Nat.mul_le_mul_right _ hroom
     rw [Nat.zero_add] at hn
     omega
    have hfit2 : len * i.size + news.length ≤ c.size := by rw [hnl, ← Nat.add_mul]; exact hfit
    have hones : ∀ v ∈ news, v.oneCell' = true := by
     intro v hv
     obtain ⟨q, hq⟩ := List.mem_iff_getElem?.1 hv
     have hql := aa3 hq
     rw [hnl] at hql
     have hdiv : q / i.size < es.length := Nat.div_lt_of_lt_mul (by rw [Nat.mul_comm]; exact hql)
     have hmod : q % i.size < i.size := Nat.mod_lt _ h0
     have hxs := hsz es[q / i.size] (List.getElem_mem hdiv)
     have hone := hall es[q / i.size] (List.getElem_mem hdiv)
     simp only [Bool.and_eq_true, List.all_eq_true] at hone
     have hy' : es[q / i.size].cells[q % i.size]? = some (es[q / i.size].cells[q % i.size]'(by omega)) := by simp
     exact ((hrow.2.2 (q / i.size) (q % i.size) _ _ v (by simp) hy' (by rw [Nat.mul_comm, Nat.div_add_mod]; exact hq)).one (hone.2 _ (List.getElem_mem _))).1
    have hst := run_storeCells_at P (φ b) (len * i.size) T news 0 c w hB (by simpa using hfit2) hones
    simp only [Nat.add_zero] at hst
    obtain ⟨φ', e1, e2, e3⟩ := inplace (w.setRow (φ b) (c.toList.take (len * i.size) ++ news ++ c.toList.drop (len * i.size + news.length)).toArray) (c.toList.take (len * i.size) ++ news ++ c.toList.drop (len * i.size + news.length)).toArray (.slice (some ⟨φ b, 0, none⟩) (len + es.length) cap) rfl (by simp; omega) hfit (fun q hq => by
     have hl : (c.toList.take (len * i.size)).length = len * i.size := by simp; omega
     rw [List.getElem?_toArray, List.getElem?_append_left (by simp only [List.length_append, hl, hnl, ← Nat.add_mul]; exact hq)]) (fun φ' hφ => by
     have hsh' : (w.setRow (φ b) (c.toList.take (len * i.size) ++ news ++ c.toList.drop (len * i.size + news.length)).toArray).shape? (φ' H.length) = some (T', n') := by
      rw [hφ, ay8 hB (by simp; omega)]; exact hsh
     have := RV.own (φ := φ') (N := H.length + 1) (I := I) H.length i.size 0 (len + es.length) cap n' T' (Nat.lt_succ_self _) hsh' hn hroom
     rw [hφ] at this
     simpa using this)
    refine ⟨φ', _, _, bk9 ht hu hd hi hlen hnews hroom ?_, e1, e2, by simpa using e3⟩
    simpa [at3] using hst
   ·refine grows ⟨φ b, 0 * i.size, none⟩ cap (c.toList.take (len * i.size)) rfl (fun w' hw => ?_) ?_ (fun q hq => ?_) (by omega)
    ·have := by0 P (w := w') (B := φ b) (o := 0) (n := len * i.size) (by rw [hw]; exact hB) (by
      have : len * i.size ≤ old.length * i.size := Nat.mul_le_mul_right _ hlo
      omega)
     simpa [Builtin.firstCells] using this
    ·have : len * i.size ≤ old.length * i.size := Nat.mul_le_mul_right _ hlo
     simp; omega
    ·rw [List.getElem?_take_of_lt hq]; simp
 ·simp at hev
theorem dm3 {ty : TypeId} {t u e : TypeId} {kk k : IntKind} {i : TypeInfo} {vz : Value} {m : Nat} (ht : P.underlying t = some (.slice e)) (hu : P.underlying u = some (.int kk)) (hi : P.info? e = some i) (hz : i.zero = some vz)
  (h0 : 0 < m) (hs : 0 < i.size) (h63 : m ≤ 9223372036854775807) (h48 : m * i.bytes ≤ 140737488355328) :
  (Builtin.append_ #[t, u] ty #[.slice none 0 0, .int k (m : Int)]).run P w =
   .ok (.slice (some ⟨w.heap.size, 0, none⟩) m (grownCap w m 0 e)) (w.drew.alloc (.cells (Builtin.zeroCells vz.cells m ++ Builtin.zeroCells vz.cells (grownCap w m 0 e - m)) e)) := by
 have hn : m ≠ 0 := by omega
 have h63' : ¬ (9223372036854775807 < (m : Int)) := by omega
 have h48' : ¬ (281474976710656 < Builtin.nextslicecap m 0 * i.bytes) := by rw [nextslicecap_zero h0]; omega
 have h48'' : ¬ (281474976710656 < (m : Int) * (i.bytes : Int)) := by
  have : (m : Int) * (i.bytes : Int) = ((m * i.bytes : Nat) : Int) := by simp
  omega
 have hw : IntKind.i64.wrap (m : Int) = (m : Int) := by simp [IntKind.wrap, IntKind.signed, IntKind.bits]; omega
 have hms : ¬ (m * i.size = 0) := by
  have := Nat.mul_pos h0 hs
  omega
 have hneg : ¬ ((m : Int) < 0) := by omega
 simp [Builtin.append_, run_underlying ht, run_underlying hu, Go.sizeOf, typeInfo, zeroValue, hi, hz, hn, h63', h48', h48'', Question.forced, run_firstCells_none, newRow, grownCap, asInt, asIntOf, hw, hneg, hms, hs, Nat.pos_iff_ne_zero.1 hs]
theorem dj6 (hr : RH γ φ I H w) {t u e ty : TypeId} {kk : IntKind} {i : TypeInfo} {z x k v : EV} {vx vk : Value} (ht : P.underlying t = some (.slice e)) (hu : P.underlying u = some (.int kk)) (hi : P.info? e = some i) (hz : aq3 P e = some z)
  (hzs : z.cells.length = i.size) (hzo : z.cells.all EV.one = true) (h0 : 0 < i.size) (hx : RV φ H.length I w x vx) (hk : RV φ H.length I w k vk) {H' : Heap} (hev : cp1 i.size i.bytes z x k H = some (v, H')) :
  ∃ φ' val w', (Builtin.append_ #[t, u] ty #[vx, vk]).run P w = .ok val w' ∧ Evo φ I H w φ' I H' w' ∧ RH γ φ' I H' w' ∧ RV φ' H'.length I w' v val := by
 unfold cp1 at hev
 split at hev
 case h_2 => simp at hev
 rename_i kk' n
 split at hev
 case isFalse => simp at hev
 rename_i hc
 obtain ⟨i', vz, hi', hvz, hcz⟩ := bf0 hz
 rw [hi] at hi'
 obtain rfl := Option.some.inj hi'
 cases hx
 cases hk
 obtain ⟨m, rfl⟩ : ∃ m : Nat, n = m := ⟨n.toNat, by omega⟩
 split at hev
 ·rename_i hm
  simp only [Option.some.injEq, Prod.mk.injEq] at hev
  obtain ⟨rfl, rfl⟩ := hev
  refine ⟨φ, .slice none 0 0, w, ?_, .refl .., hr, .nilsl⟩
  rw [hm]
  simp [Builtin.append_, run_underlying ht, run_underlying hu, Go.sizeOf, typeInfo, hi, asInt, asIntOf, IntKind.wrap, IntKind.signed, IntKind.bits]
 ·rename_i hm
  simp only [Option.some.injEq, Prod.mk.injEq] at hev
  obtain ⟨rfl, rfl⟩ := hev
  have hm0 : 0 < m := by omega
  have hrz := an6 (φ := φ) (N := H.length) (I := I) (w := w) hcz
  have hsz0 : vz.cells.size = i.size := by have := (hrz.cells hzo).1; rw [← hzs, ← this]
  have hrow : RowC φ H.length I w i.size (List.replicate m z) (Builtin.zeroCells vz.cells m).toList := by
   have := bp9 (len := m) hrz hzo hzs
   unfold Builtin.zeroCells
   rw [hsz0] at this ⊢
   exact this
  have hge := grownCap_ge w m 0 e
  have hlen : (List.replicate m z).length = m := by simp
  obtain ⟨φ', w', e1, e2, e3, e4⟩ := by1 hr.drew (e := e) (cap := grownCap w m 0 e) (rest := (Builtin.zeroCells vz.cells (grownCap w m 0 e - m)).toList) ⟨hrow.1, hrow.2.1, fun i j x y v h1 h2 h3 => (hrow.2.2 i j x y v h1 h2 h3).drew⟩ (by rw [hlen]; exact hge) (by rw [hlen, Array.length_toList, size_zeroCells, hsz0])
  have hmb : m * i.bytes ≤ 140737488355328 := by
   have : (m : Int) * (i.bytes : Int) = ((m * i.bytes : Nat) : Int) := by simp
   omega
  rw [hlen] at e4
  refine ⟨φ', _, w', ?_, evo_drew.trans e2, by simpa using e3, by simpa using e4⟩
  rw [dm3 ht hu hi hvz hm0 h0 (by omega) hmb, e1]
  congr 3
  apply Array.ext'
  simp
end
section
variable {P : Program} {γ : Nat → EV} {φ : Nat → Nat} {N : Nat} {I : Nat → Prop} {H H' : Heap} {w : World}
def bs9 : Obj → Bool
 | .cells _ _ _ => false
 | _ => true
theorem cf7 {b : Nat} {x y : EB} {o o' : Obj} (hb : H[b]? = some (some x)) (hg : w.heap[φ b]? = some o) (ho : bs9 o = true) (ho' : bs9 o' = true) :
  Evo φ I H w φ I (H.set b (some y)) { w with heap := w.heap.setIfInBounds (φ b) o' } where
 size := by simp
 shape B _ := by
  unfold World.shape?
  by_cases e : B = φ b
  ·subst e
   rw [at5 (Array.getElem?_eq_some_iff.1 hg).1, hg]
   cases o <;> cases o' <;> simp_all [bs9]
  ·rw [ag9 e]
 keep B _ hn := ag9 fun e => hn ⟨b, x, hb, e.symm⟩
 imm B h := h
 phi i _ := rfl
 len := by simp
 own B h := by
  obtain ⟨k, z, hk, e⟩ := h
  by_cases hkb : b = k
  ·subst hkb; exact .inl ⟨b, x, hb, e⟩
  ·rw [List.getElem?_set_ne hkb] at hk; exact .inl ⟨k, z, hk, e⟩
 immf B h := .inl h
 tape := rfl
 os := rfl
 out := rfl
 froz a _ := by
  unfold World.frozen?
  by_cases e : a.block = φ b
  ·rw [e, at5 (Array.getElem?_eq_some_iff.1 hg).1, hg]
   cases o <;> cases o' <;> simp_all [bs9]
  ·rw [ag9 e]
theorem dm9 {b : Nat} {x y : EB} {o o' : Obj} (h : RH γ φ I H w) (hb : H[b]? = some (some x)) (hg : w.heap[φ b]? = some o) (ho : bs9 o = true) (ho' : bs9 o' = true)
  (hy : RB φ H.length I { w with heap := w.heap.setIfInBounds (φ b) o' } (φ b) y) : RH γ φ I (H.set b (some y)) { w with heap := w.heap.setIfInBounds (φ b) o' } where
 glob g := (h.glob g).mono (Nat.le_refl 0) (fun i hi => absurd hi (Nat.not_lt_zero i)) (fun _ h => h)
  (fun B hB => ag9 (g := φ b) fun e => h.dis b x hb (e ▸ hB)) (fun b hb => absurd hb (Nat.not_lt_zero b))
 blk k z hk := by
  rw [List.length_set]
  by_cases hkb : b = k
  ·subst hkb
   rw [List.getElem?_set_self (aa3 hb)] at hk
   simp only [Option.some.injEq] at hk
   exact hk ▸ hy
  ·rw [List.getElem?_set_ne hkb] at hk
   exact (h.blk k z hk).mono (Nat.le_refl _) (fun _ _ => rfl) (fun _ h => h) (fun B hB => ag9 (g := φ b) fun e => h.dis b x hb (e ▸ hB))
    (fun _ hlt _ _ hs' => ((cf7 (I := I) (y := y) hb hg ho ho').shape _ (au9 hs')).trans hs') (ag9 fun e => hkb (h.inj b k x z hb hk e.symm))
 inj k k' z z' hk hk' e := by
  have f : ∀ {k : Nat} {z : EB}, (H.set b (some y))[k]? = some (some z) → ∃ z', H[k]? = some (some z') := fun {k z} hk => by
   by_cases hkb : b = k
   ·subst hkb; exact ⟨x, hb⟩
   ·rw [List.getElem?_set_ne hkb] at hk; exact ⟨z, hk⟩
  obtain ⟨u, hu⟩ := f hk
  obtain ⟨u', hu'⟩ := f hk'
  exact h.inj k k' u u' hu hu' e
 imm B hB := by have := h.imm B hB; simpa using this
 dis k z hk := by
  by_cases hkb : b = k
  ·subst hkb; exact h.dis b x hb
  ·rw [List.getElem?_set_ne hkb] at hk; exact h.dis k z hk
 lt k z hk := by
  by_cases hkb : b = k
  ·subst hkb; have := h.lt b x hb; simpa using this
  ·rw [List.getElem?_set_ne hkb] at hk; have := h.lt k z hk; simpa using this
theorem dm8 (hr : RH γ φ I H w) {t : TypeId} (hu : P.underlying t = some .string) {s : List UInt8} {v : Value} (hx : RV φ N I w (.str s) v) :
  ∃ φ' w', (Instr.range t v).run P w = .ok (.pointer (some ⟨w.heap.size, 0, none⟩)) w' ∧ Evo φ I H w φ' I (H ++ [some (.it s 0)]) w' ∧ RH γ φ' I (H ++ [some (.it s 0)]) w' ∧
   RV φ' (H ++ [some (EB.it s 0)]).length I w' (.ptr H.length 0 0 0) (.pointer (some ⟨w.heap.size, 0, none⟩)) := by
 cases hx
 refine ⟨up φ H.length w.heap.size, w.alloc (.stringIter ⟨s.toArray⟩ 0), by simp [Instr.range, run_underlying hu], bl6 .., bq1 hr (aw8 ..), ?_⟩
 have := RV.ptr (φ := up φ H.length w.heap.size) (N := (H ++ [some (EB.it s 0)]).length) (I := I) (w := w.alloc (.stringIter ⟨s.toArray⟩ 0)) H.length 0 0 0 (by simp)
 rwa [bd6] at this
theorem df8 (hr : RH γ φ I H w) (ty : TypeId) {x y : EV} {v : Value} (hx : RV φ H.length I w x v) (hev : du4 x H = some (y, H')) :
  ∃ val w', (Instr.next v true ty).run P w = .ok val w' ∧ Evo φ I H w φ I H' w' ∧ RH γ φ I H' w' ∧ RV φ H'.length I w' y val := by
 unfold du4 at hev
 split at hev
 case h_2 => simp at hev
 rename_i b
 split at hev
 case h_2 => simp at hev
 rename_i s p hb
 have hg := hr.blk b _ hb
 cases hx
 have hget : (getObj (φ b)).run P w = .ok (.stringIter ⟨s.toArray⟩ p) w := by simp [getObj, Sem.run, show w.heap[φ b]? = some (.stringIter ⟨s.toArray⟩ p) from hg]
 split at hev
 ·rename_i hp
  simp only [Option.some.injEq, Prod.mk.injEq] at hev
  obtain ⟨rfl, rfl⟩ := hev
  have hset : (setObj (φ b) (.stringIter ⟨s.toArray⟩ (p + (Utf8.decode ⟨s.toArray⟩ p).2))).run P w = .ok () { w with heap := w.heap.setIfInBounds (φ b) (.stringIter ⟨s.toArray⟩ (p + (Utf8.decode ⟨s.toArray⟩ p).2)) } := by
   simp [setObj, Sem.run, show w.heap[φ b]? = some (.stringIter ⟨s.toArray⟩ p) from hg]
  refine ⟨.tuple #[.bool true, .int .i64 (p : Int), .int .i32 ((Utf8.decode ⟨s.toArray⟩ p).1 : Nat)], _, ?_, cf7 hb hg rfl rfl, dm9 hr hb hg rfl rfl (at5 (hr.lt b _ hb)), .tup _ _ rfl fun k x v hx hv => ?_⟩
  ·simp [Instr.next, hget, hset, ay2, hp, goInt]
  ·match k with
   | 0 => simp at hx hv; subst hx hv; exact .bool _
   | 1 => simp at hx hv; subst hx hv; exact .int _ _
   | 2 => simp at hx hv; subst hx hv; exact .int _ _
   | k + 3 => simp at hx
 ·rename_i hp
  simp only [Option.some.injEq, Prod.mk.injEq] at hev
  obtain ⟨rfl, rfl⟩ := hev
  refine ⟨.tuple #[.bool false], w, by simp [Instr.next, hget, ay2, hp], .refl .., hr, .tup _ _ rfl fun k x v hx hv => ?_⟩
  match k with
  | 0 => simp at hx hv; subst hx hv; exact .bool _
  | k + 1 => simp at hx
theorem ef7 {b : Nat} {x y : EB} (hb : H[b]? = some (some x)) : Evo φ I H w φ I (H.set b (some y)) w where
 size := Nat.le_refl _
 shape _ _ := rfl
 keep _ _ _ := rfl
 imm _ h := h
 phi _ _ := rfl
 len := by simp
 own B h := by
  obtain ⟨k, z, hk, e⟩ := h
  by_cases hkb : b = k
  ·subst hkb; exact .inl ⟨b, x, hb, e⟩
  ·rw [List.getElem?_set_ne hkb] at hk; exact .inl ⟨k, z, hk, e⟩
 immf B h := .inl h
 tape := rfl
 os := rfl
 out := rfl
 froz _ _ := rfl
theorem el3 {b : Nat} {x y : EB} (h : RH γ φ I H w) (hb : H[b]? = some (some x)) (hy : RB φ H.length I w (φ b) y) : RH γ φ I (H.set b (some y)) w where
 glob := h.glob
 blk k z hk := by
  rw [List.length_set]
  by_cases hkb : b = k
  ·subst hkb
   rw [List.getElem?_set_self (aa3 hb)] at hk
   simp only [Option.some.injEq] at hk
   exact hk ▸ hy
  ·rw [List.getElem?_set_ne hkb] at hk
   exact h.blk k z hk
 inj k k' z z' hk hk' e := by
  have f : ∀ {k : Nat} {z : EB}, (H.set b (some y))[k]? = some (some z) → ∃ z', H[k]? = some (some z') := fun {k z} hk => by
   by_cases hkb : b = k
   ·subst hkb; exact ⟨x, hb⟩
   ·rw [List.getElem?_set_ne hkb] at hk; exact ⟨z, hk⟩
  obtain ⟨u, hu⟩ := f hk
  obtain ⟨u', hu'⟩ := f hk'
  exact h.inj k k' u u' hu hu' e
 imm := h.imm
 dis k z hk := by
  by_cases hkb : b = k
  ·subst hkb; exact h.dis b x hb
  ·rw [List.getElem?_set_ne hkb] at hk; exact h.dis k z hk
 lt k z hk := by
  by_cases hkb : b = k
  ·subst hkb; exact h.lt b x hb
  ·rw [List.getElem?_set_ne hkb] at hk; exact h.lt k z hk
theorem cs7 (hr : RH γ φ I H w) {t e : TypeId} {n : Nat} {i : TypeInfo} (hu : P.underlying t = some (.array n e)) (hif : P.info? e = some i) (h1i : i.size = 1)
  {x y : EV} {v : Value} (hx : RV φ H.length I w x v) {lo hi : Option EV} {vlo vhi : Option Value}
  (h1 : match lo, vlo with | none, none => True | some x, some v => RV φ H.length I w x v | _, _ => False)
  (h2 : match hi, vhi with | none, none => True | some x, some v => RV φ H.length I w x v | _, _ => False)
  (hev : cw3 n x lo hi H = some (y, H')) :
  ∃ val, (Instr.sliceAt t v vlo vhi none).run P w = .ok val w ∧ Evo φ I H w φ I H' w ∧ RH γ φ I H' w ∧ RV φ H'.length I w y val := by
 have run : ∀ (a : Addr) (l h : Nat), (Instr.sliceBounds false n n vlo vhi none).run P w = .ok (l, h, n) w →
   (Instr.sliceAt t (.pointer (some a)) vlo vhi none).run P w = .ok (.slice (some (if n = l then a else a.add l)) (h - l) (n - l)) w := by
  intro a l h hb
  simp [Instr.sliceAt, run_underlying hu, hb, Go.sizeOf, typeInfo, hif, h1i, Instr.sureAddr]
 have fin : ∀ (b sz : Nat) (c : Array Value) (T : TypeId) (p : Nat × Nat) (N : Nat), N = H.length → w.heap[φ b]? = some (.cells c T (0, 0)) → n ≤ c.size → b < H.length → al7 n n lo hi = some p → v = .pointer (some ⟨φ b, 0 * sz + 0, none⟩) →
   ∃ val, (Instr.sliceAt t v vlo vhi none).run P w = .ok val w ∧ RV φ N I w (.own b 1 p.1 (p.2 - p.1)) val := by
  intro b sz c T p N hN hB hc hb hp hv
  subst hN hv
  obtain ⟨b1, b2, b3⟩ := al9 (P := P) (isSlice := false) h1 h2 (l := p.1) (h := p.2) hp (Nat.le_refl _) n (Nat.le_refl _)
  refine ⟨_, run _ _ _ b1, ?_⟩
  have hsh : w.shape? (φ b) = some (T, c.size) := by simp [World.shape?, hB]
  by_cases hnl : n = p.1
  ·have e2 : p.2 - p.1 = 0 := by omega
   have e3 : n - p.1 = 0 := by omega
   rw [if_pos hnl, e2, e3]
   exact .own0 b _ _ _ hb
  ·rw [if_neg hnl, at3]
   simp only [Nat.zero_mul, Nat.zero_add]
   have := RV.own (φ := φ) (N := H.length) (I := I) (w := w) b 1 p.1 (p.2 - p.1) (n - p.1) c.size T hb hsh (by omega) (by omega)
   rwa [Nat.mul_one] at this
 unfold cw3 at hev
 split at hev
 case h_2 => simp at hev
 rename_i b sz
 split at hev
 case h_2 => simp at hev
 rename_i sz' es hb
 obtain ⟨c, T, hB, hc1, hc2, hc3⟩ := hr.blk b _ hb
 have hlt := aa3 hb
 generalize hv : v = v' at hx
 cases hx
 subst hv
 split at hev
 ·rename_i cs
  split at hev
  case isFalse => simp at hev
  rename_i hcond
  obtain ⟨rfl, hl, hone⟩ := hcond
  split at hev
  case h_2 => simp at hev
  rename_i p hp
  simp only [Option.some.injEq, Prod.mk.injEq] at hev
  obtain ⟨rfl, rfl⟩ := hev
  obtain ⟨val, r1, r2⟩ := fin b sz c T p _ (List.length_set ..) hB (by simpa using hc1) hlt hp rfl
  refine ⟨val, r1, ef7 hb, el3 hr hb ⟨c, T, hB, by simp at hc1; omega, fun e he => ?_, fun i j e x v he hx hv => ?_⟩, r2⟩
  ·rw [bz0 (List.all_eq_true.1 hone e he)]; rfl
  ·rw [bz0 (List.all_eq_true.1 hone e (List.mem_of_getElem? he))] at hx
   have hj := aa3 hx
   simp at hj
   subst hj
   simp at hx
   subst hx
   exact hc3 0 i _ _ v rfl he (by simpa using hv)
 ·split at hev
  case isFalse => simp at hev
  rename_i hcond
  obtain ⟨rfl, hl⟩ := hcond
  split at hev
  case h_2 => simp at hev
  rename_i p hp
  simp only [Option.some.injEq, Prod.mk.injEq] at hev
  obtain ⟨rfl, rfl⟩ := hev
  obtain ⟨val, r1, r2⟩ := fin b sz c T p _ rfl hB (by simpa [hl] using hc1) hlt hp rfl
  exact ⟨val, r1, .refl .., hr, r2⟩
theorem cz0 {f : Value → ByteArray → Sem (ForInStep ByteArray)} (hf : ∀ n acc, f (.int .u8 n) acc = pure (ForInStep.yield (ByteArray.push acc (UInt8.ofNat n.toNat)))) : ∀ (es : List EV) (bs : List UInt8) (l : List Value) (acc : ByteArray), bj9 es = some bs → es.length = l.length → (∀ (k : Nat) (x : EV) (v : Value), es[k]? = some x → l[k]? = some v → RV φ N I w x v) →
  (forIn l acc f : Sem ByteArray).run P w = .ok ⟨acc.data ++ bs.toArray⟩ w
 | [], bs, l, acc, h, hl, _ => by
  simp only [bj9, Option.some.injEq] at h
  subst h
  have : l = [] := List.eq_nil_of_length_eq_zero (by simpa using hl.symm)
  subst this
  simp
 | x :: es, bs, [], acc, h, hl, _ => by simp at hl
 | x :: es, bs, v :: l, acc, h, hl, hv => by
  simp only [bj9] at h
  split at h
  case h_2 => simp at h
  rename_i b bs' hb hbs
  simp only [Option.some.injEq] at h
  subst h
  have h0 := hv 0 x v rfl rfl
  unfold eg7 at hb
  split at hb
  case h_2 => simp at hb
  rename_i n
  simp only [Option.some.injEq] at hb
  subst hb
  cases h0
  have ih := cz0 hf es bs' l (acc.push (UInt8.ofNat n.toNat)) hbs (by simpa using hl) fun k x v hx hv' => hv (k + 1) x v (by simpa using hx) (by simpa using hv')
  simp only [List.forIn_cons, hf, Sem.run_bind, Sem.run_pure, Result.andThen_ok]
  rw [ih]
  congr 1
  apply ByteArray.ext
  simp [ByteArray.push]
theorem cs0 (hr : RH γ φ I H w) {x y : EV} {v : Value} (hx : RV φ H.length I w x v) (hev : bt4 x H = some y) :
  ∃ val, (Conv.bytesToString v).run P w = .ok val w ∧ RV φ H.length I w y val := by
 have fin : ∀ (es : List EV) (bs : List UInt8) (a : Addr) (len cap : Nat) (news : List Value), es.length = len → bj9 es = some bs → (loadCells a len).run P w = .ok news.toArray w → es.length = news.length →
   (∀ (k : Nat) (x : EV) (v : Value), es[k]? = some x → news[k]? = some v → RV φ H.length I w x v) →
   ∃ val, (Conv.bytesToString (.slice (some a) len cap)).run P w = .ok val w ∧ RV φ H.length I w (.str bs) val := by
  intro es bs a len cap news hlen hbs hload hn hrv
  refine ⟨.string ⟨bs.toArray⟩, ?_, .str bs⟩
  simp only [Conv.bytesToString, Sem.run_bind, hload, Result.andThen_ok]
  simp only [List.forIn_toArray]
  rw [cz0 (fun n acc => rfl) es bs news .empty hbs hn hrv]
  simp
 have ones : ∀ (es : List EV) (bs : List UInt8), bj9 es = some bs → ∀ x ∈ es, x.cells.length = 1 := by
  intro es
  induction es with
  | nil => intro bs _ x hx; simp at hx
  | cons e es ih =>
   intro bs h x hx
   simp only [bj9] at h
   split at h
   case h_2 => simp at h
   rename_i b bs' hb hbs
   rcases List.mem_cons.1 hx with rfl | hx
   ·unfold eg7 at hb
    split at hb
    ·rfl
    ·simp at hb
   ·exact ih _ hbs x hx
 have main : ∀ (es : List EV) (bs : List UInt8), bh7 H x = some es → bj9 es = some bs → (∀ s, x ≠ .str s) → x ≠ .nilsl → ∃ val, (Conv.bytesToString v).run P w = .ok val w ∧ RV φ H.length I w (.str bs) val := by
  intro es bs he hbs hns hnn
  obtain ⟨news, n1, n2, n3, n4, n5⟩ := bo7 hr he hx (sz := 1) (by omega) (ones es bs hbs)
  have h2 := n2 w rfl
  have hsl : ∃ a len cap, v = .slice (some a) len cap := by
   unfold bh7 at he
   split at he
   ·exact absurd rfl hnn
   ·cases hx <;> exact ⟨_, _, _, rfl⟩
   ·cases hx <;> exact ⟨_, _, _, rfl⟩
   ·cases hx <;> exact ⟨_, _, _, rfl⟩
   ·exact absurd rfl (hns _)
   ·simp at he
  obtain ⟨a, len, cap, rfl⟩ := hsl
  have hlen : len = es.length := by simpa [Builtin.lenOf] using n1
  subst hlen
  refine fin es bs a _ cap news rfl hbs (by simpa [Builtin.firstCells] using h2) (by simpa using n3) fun k x v hx hv => ?_
  have hone := ones es bs hbs x (List.mem_of_getElem? hx)
  obtain ⟨x0, hx0⟩ : ∃ x0, x.cells = [x0] := by
   match hc : x.cells, hone with
   | [x0], _ => exact ⟨x0, rfl⟩
  have hxx : x0 = x := by
   have hb : ∀ (es : List EV) (bs : List UInt8), bj9 es = some bs → ∀ x ∈ es, x.cells = [x] := by
    intro es
    induction es with
    | nil => intro bs _ x hx; simp at hx
    | cons e es ih =>
     intro bs h x hx
     simp only [bj9] at h
     split at h
     case h_2 => simp at h
     rename_i b bs' hb hbs
     rcases List.mem_cons.1 hx with rfl | hx
     ·unfold eg7 at hb
      split at hb
      ·rfl
      ·simp at hb
     ·exact ih _ hbs x hx
   have := hb es bs hbs x (List.mem_of_getElem? hx)
   rw [this] at hx0
   simpa using hx0.symm
  subst hxx
  exact n5 k 0 x0 x0 v hx (by rw [hx0]; rfl) (by simpa using hv)
 unfold bt4 at hev
 split at hev
 ·simp only [Option.some.injEq] at hev; subst hev
  cases hx
  exact ⟨.string .empty, by simp [Conv.bytesToString], .str []⟩
 ·simp only [Option.some.injEq] at hev; subst hev
  exact main [] [] rfl rfl (by simp) (by simp)
 ·rename_i b off len
  split at hev
  case h_2 => simp at hev
  rename_i es he
  simp only [Option.map_eq_some_iff] at hev
  obtain ⟨bs, hbs, rfl⟩ := hev
  exact main es bs he hbs (by simp) (by simp)
 ·rename_i es
  simp only [Option.map_eq_some_iff] at hev
  obtain ⟨bs, hbs, rfl⟩ := hev
  exact main es bs rfl hbs (by simp) (by simp)
 ·simp at hev
end
end Abs
