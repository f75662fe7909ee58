/- Slice literals, cuts of slices and strings, and nil. -/
import Derived.Test.YtbilmalnlkileaaAbs1
import Derived.Laws.AppendOwn
namespace Abs
open Go

theorem evo_imm (φ : Nat → Nat) (I : Nat → Prop) (H : Heap) (w : World) (o : Obj) (hm : melt o = true := by rfl) : Evo φ I H w φ (fun B => I B ∨ B = w.heap.size) H (w.alloc o) where
  size := by simp
  shape B hB := shape_alloc hB
  keep B hB _ := alloc_old w o B hB
  imm B h := .inl h
  phi i _ := rfl
  len := Nat.le_refl _
  own B h := .inl h
  immf B h := by
    rcases h with h | h
    · exact .inl h
    · exact .inr (.inr (by omega))
  tape := rfl
  os := rfl
  out := rfl
  froz a _ := frozen_alloc hm a

section
variable {P : Program} {γ : Nat → EV} {φ : Nat → Nat} {N : Nat} {I : Nat → Prop} {H : Heap} {w : World}

theorem RV.evo_imm {x : EV} {v : Value} (hI : ∀ B, I B → B < w.heap.size) (o : Obj) (h : RV φ N I w x v) : RV φ N (fun B => I B ∨ B = w.heap.size) (w.alloc o) x v :=
  h.mono (Nat.le_refl _) (fun _ _ => rfl) (fun _ h => .inl h) (fun B hB => alloc_old w o B (hI B hB)) (fun _ _ _ _ hs => (shape_alloc (shape_lt hs)).trans hs)

theorem rh_imm (h : RH γ φ I H w) (o : Obj) : RH γ φ (fun B => I B ∨ B = w.heap.size) H (w.alloc o) where
  glob g := (h.glob g).evo_imm h.imm o
  blk b y hb := (h.blk b y hb).mono (Nat.le_refl _) (fun _ _ => rfl) (fun _ h => .inl h) (fun B hB => alloc_old w o B (h.imm B hB))
    (fun _ _ _ _ hs => (shape_alloc (shape_lt hs)).trans hs) (alloc_old w o _ (h.lt b y hb))
  inj := h.inj
  imm B hB := by
    rcases hB with hB | hB
    · have := h.imm B hB; simp; omega
    · simp; omega
  dis b y hb hI := by
    rcases hI with hI | hI
    · exact h.dis b y hb hI
    · have := h.lt b y hb; omega
  lt b y hb := by have := h.lt b y hb; simp; omega

/-- A row of elements, cell by cell. -/
def RowC (φ : Nat → Nat) (N : Nat) (I : Nat → Prop) (w : World) (sz : Nat) (es : List EV) (c : List Value) : Prop :=
  es.length * sz = c.length ∧ (∀ e ∈ es, e.cells.length = sz) ∧
    ∀ (i j : Nat) (e x : EV) (v : Value), es[i]? = some e → e.cells[j]? = some x → c[i * sz + j]? = some v → RV φ N I w x v

theorem RowC.put {sz : Nat} {es : List EV} {c vs : List Value} {x : EV} {i : Nat} (h : RowC φ N I w sz es c) (hi : i < es.length) (hx : RCs φ N I w x.cells vs) (hs : x.cells.length = sz) :
    RowC φ N I w sz (es.set i x) (c.take (i * sz) ++ vs ++ c.drop (i * sz + sz)) := by
  obtain ⟨h1, h2, h3⟩ := h
  have hmul : i * sz + sz ≤ es.length * sz := by
    have : (i + 1) * sz ≤ es.length * sz := Nat.mul_le_mul_right _ hi
    rw [Nat.add_mul] at this; omega
  have hvs : vs.length = sz := by rw [← hx.1, hs]
  have hfit : i * sz + vs.length ≤ c.length := by omega
  have hlen := splice_len _ _ _ hfit
  have hget := splice_get _ _ _ hfit
  rw [hvs] at hlen hget
  refine ⟨?_, ?_, ?_⟩
  · rw [List.length_set, hlen]; exact h1
  · intro e he
    rcases List.mem_or_eq_of_mem_set he with h | rfl
    · exact h2 e h
    · exact hs
  · intro i' j e y v he hy hv
    rw [hget] at hv
    by_cases hii : i = i'
    · subst hii
      rw [List.getElem?_set_self hi] at he
      simp only [Option.some.injEq] at he; subst he
      have hj := get_lt hy
      rw [if_neg (by omega), if_pos (by omega)] at hv
      exact hx.2 j y v hy (by rw [show i * sz + j - i * sz = j by omega] at hv; exact hv)
    · rw [List.getElem?_set_ne hii] at he
      have hj := get_lt hy
      have hz := h2 e (List.mem_of_getElem? he)
      refine h3 i' j e y v he hy ?_
      rcases Nat.lt_or_gt_of_ne hii with g | g
      · have : (i + 1) * sz ≤ i' * sz := Nat.mul_le_mul_right _ g
        rw [Nat.add_mul] at this
        rw [if_neg (by omega), if_neg (by omega)] at hv; exact hv
      · have : (i' + 1) * sz ≤ i * sz := Nat.mul_le_mul_right _ g
        rw [Nat.add_mul] at this
        rw [if_pos (by omega)] at hv; exact hv

theorem rows_fill {sz : Nat} : ∀ (ps : List (Nat × EV)) (qs : List (Nat × Value)) (es : List EV) (c : Array Value), RowC φ N I w sz es c.toList → ps.length = qs.length →
    (∀ (i : Nat) (p : Nat × EV) (q : Nat × Value), ps[i]? = some p → qs[i]? = some q → p.1 = q.1 ∧ p.1 < es.length ∧ RV φ N I w p.2 q.2 ∧ p.2.cells.all EV.one = true ∧ p.2.cells.length = sz) →
    ∃ c' : Array Value, Instr.fill (fun i => some (i * sz, sz)) c qs = some c' ∧ RowC φ N I w sz (ps.foldl (fun es p => es.set p.1 p.2) es) c'.toList
  | [], [], es, c, h, _, _ => ⟨c, rfl, h⟩
  | (i, x) :: ps, (k, v) :: qs, es, c, h, hl, hp => by
    obtain ⟨h0, h1, h2, h3, h4⟩ := hp 0 _ _ rfl rfl
    simp only at h0 h1 h2 h3 h4
    subst h0
    obtain ⟨g1, g2⟩ := h2.cells h3
    have hx : RCs φ N I w x.cells v.cells.toList := ⟨by simp [g1], fun k y u hy hu => g2 k y u hy (by simpa using hu)⟩
    have step := RowC.put h h1 hx h4
    have hmul : i * sz + sz ≤ es.length * sz := by
      have : (i + 1) * sz ≤ es.length * sz := Nat.mul_le_mul_right _ h1
      rw [Nat.add_mul] at this; omega
    have hcs : es.length * sz = c.size := by simpa using h.1
    have hvs : v.cells.toList.length = sz := by simp [g1, h4]
    have fold := fold_set (i * sz) v.cells.toList 0 c (by rw [hvs]; omega)
    simp only [Nat.add_zero, hvs] at fold
    have hfold : (v.cells.zipIdx.foldl (fun cs (x : Value × Nat) => cs.setIfInBounds (i * sz + x.2) x.1) c).toList = c.toList.take (i * sz) ++ v.cells.toList ++ c.toList.drop (i * sz + sz) := by
      rw [← fold, ← Array.foldl_toList]
      simp
    obtain ⟨c', e1, e2⟩ := rows_fill ps qs (es.set i x) (v.cells.zipIdx.foldl (fun cs (x : Value × Nat) => cs.setIfInBounds (i * sz + x.2) x.1) c) (by rw [hfold]; exact step) (by simpa using hl)
      (fun j p q hp' hq' => by simpa using hp (j + 1) p q (by simpa using hp') (by simpa using hq'))
    refine ⟨c', ?_, e2⟩
    simp only [Instr.fill]
    rw [if_neg (by simp [g1, h4]; omega)]
    exact e1
  | [], _ :: _, _, _, _, hl, _ => by simp at hl
  | _ :: _, [], _, _, _, hl, _ => by simp at hl

theorem rows_zero {sz len : Nat} {z : EV} {vz : Value} (hz : RV φ N I w z vz) (ho : z.cells.all EV.one = true) (hs : z.cells.length = sz) :
    RowC φ N I w sz (List.replicate len z) ((Array.range (len * sz)).map (vz.cells[· % vz.cells.size]!)).toList := by
  obtain ⟨g1, g2⟩ := hz.cells ho
  refine ⟨by simp, fun e he => by rw [List.eq_of_mem_replicate he]; exact hs, fun i j e x v he hx hv => ?_⟩
  have hi := get_lt he
  simp only [List.length_replicate] at hi
  simp [hi] at he
  subst he
  have hj := get_lt hx
  have hlt : i * sz + j < len * sz := mul_add_lt (by omega) hi
  simp only [Array.toList_map, Array.toList_range, List.getElem?_map, List.getElem?_range hlt, Option.map_some, Option.some.injEq] at hv
  have hvs : vz.cells.size = sz := by omega
  rw [hvs, show (i * sz + j) % sz = j by rw [Nat.mul_comm, Nat.mul_add_mod]; exact Nat.mod_eq_of_lt (by omega)] at hv
  have hjj : j < vz.cells.size := by omega
  rw [getElem!_pos vz.cells j hjj] at hv
  exact g2 j x v hx (by rw [← hv]; simp [hjj])


theorem zero_of {t : TypeId} {z : EV} (h : zeroOf P t = some z) : ∃ i v, P.info? t = some i ∧ i.zero = some v ∧ evConst v = some z := by
  unfold zeroOf at h
  simp only [Option.bind_eq_some_iff] at h
  obtain ⟨v, ⟨i, hi, hv⟩, hz⟩ := h
  exact ⟨i, v, hi, hv, hz⟩

/-- A slice literal: its cells. -/
theorem bsl_cells {t e : TypeId} {ag : Bool} {sz len : Nat} {z : EV} (hu : P.underlying t = some (.slice e)) (hty : tyOf P e = some (ag, sz)) (hz : zeroOf P e = some z)
    (hs : z.cells.length = sz) (ho : z.cells.all EV.one = true) (hle : len * sz ≤ 2 ^ 24) {ps : List (Nat × EV)} {qs : Array (Nat × Value)} (hl : ps.length = qs.size)
    (hp : ∀ (i : Nat) (p : Nat × EV) (q : Nat × Value), ps[i]? = some p → qs[i]? = some q → p.1 = q.1 ∧ p.1 < len ∧ RV φ N I w p.2 q.2 ∧ p.2.cells.all EV.one = true ∧ p.2.cells.length = sz) :
    ∃ c : Array Value, (Instr.buildSlice t len qs).run P w = .ok (.slice (some ⟨w.heap.size, 0, none⟩) len len) (w.alloc (.cells c e)) ∧
      RowC φ N I w sz (ps.foldl (fun es p => es.set p.1 p.2) (List.replicate len z)) c.toList := by
  obtain ⟨i, v, hi, hv, hc⟩ := zero_of hz
  have hsz := (tyOf_agg hty w).2.1
  have hzv : RV φ N I w z v := evConst_rv hc
  have h0 := rows_zero (len := len) hzv ho hs
  have fill : ∀ c0 : Array Value, RowC φ N I w sz (List.replicate len z) c0.toList → ∃ c' : Array Value, Instr.fill (fun i => some (i * sz, sz)) c0 qs.toList = some c' ∧
      RowC φ N I w sz (ps.foldl (fun es p => es.set p.1 p.2) (List.replicate len z)) c'.toList := fun c0 h =>
    rows_fill ps qs.toList (List.replicate len z) c0 h (by simpa using hl) (fun i p q h1 h2 => by simpa using hp i p q h1 (by simpa using h2))
  by_cases hn : len * sz = 0
  · obtain ⟨c', e1, e2⟩ := fill ((Array.range 0).map fun _ => (default : Value)) (by
      refine ⟨by simp [hn], h0.2.1, fun i j e' x v he hx hv => by simp at hv⟩)
    refine ⟨c', ?_, e2⟩
    simp only [Instr.buildSlice, Sem.run_bind, run_underlying hu, Result.andThen_ok, hsz]
    rw [if_neg (by omega)]
    simp only [hn, if_true, Sem.run_bind, Sem.run_pure, Result.andThen_ok]
    simp [newRow, e1]
  · obtain ⟨c', e1, e2⟩ := fill _ h0
    refine ⟨c', ?_, e2⟩
    simp only [Instr.buildSlice, Sem.run_bind, run_underlying hu, Result.andThen_ok, hsz]
    rw [if_neg (by omega)]
    have hzero : (zeroValue e).run P w = .ok v w := by simp [zeroValue, typeInfo, hi, hv]
    simp only [hn, if_false, Sem.run_bind, Sem.run_pure, hzero, Result.andThen_ok]
    simp [newRow, e1]

theorem bsl_imm (hr : RH γ φ I H w) {t e : TypeId} {ag : Bool} {sz len : Nat} {z : EV} (hu : P.underlying t = some (.slice e)) (hty : tyOf P e = some (ag, sz)) (hz : zeroOf P e = some z)
    (hs : z.cells.length = sz) (ho : z.cells.all EV.one = true) (hle : len * sz ≤ 2 ^ 24) {ps : List (Nat × EV)} {qs : Array (Nat × Value)} (hl : ps.length = qs.size)
    (hp : ∀ (i : Nat) (p : Nat × EV) (q : Nat × Value), ps[i]? = some p → qs[i]? = some q → p.1 = q.1 ∧ p.1 < len ∧ RV φ H.length I w p.2 q.2 ∧ p.2.cells.all EV.one = true ∧ p.2.cells.length = sz) :
    ∃ I' val w', (Instr.buildSlice t len qs).run P w = .ok val w' ∧ Evo φ I H w φ I' H w' ∧ RH γ φ I' H w' ∧
      RV φ H.length I' w' (if len = 0 then .zsl else .imm sz (ps.foldl (fun es p => es.set p.1 p.2) (List.replicate len z))) val := by
  obtain ⟨c, h1, h2, h3, h4⟩ := bsl_cells (w := w) hu hty hz hs ho hle hl hp
  refine ⟨_, _, _, h1, evo_imm φ I H w _, rh_imm hr _, ?_⟩
  by_cases h0 : len = 0
  · subst h0; rw [if_pos rfl]; exact .zsl _
  rw [if_neg h0]
  have hlen : (ps.foldl (fun es p => es.set p.1 p.2) (List.replicate len z)).length = len := by
    have : ∀ (ps : List (Nat × EV)) (es : List EV), (ps.foldl (fun es p => es.set p.1 p.2) es).length = es.length := by
      intro ps
      induction ps with
      | nil => intro es; rfl
      | cons p ps ih => intro es; rw [List.foldl_cons, ih, List.length_set]
    rw [this]; simp
  have := RV.imm (φ := φ) (N := H.length) (I := fun B => I B ∨ B = w.heap.size) (w := w.alloc (.cells c e)) sz _ w.heap.size 0 len c e (0, 0) (.inr rfl) (alloc_new w _)
    (by rw [h2]; simp) (by rw [hlen]; exact Nat.le_refl _) h3
    (fun i j e' x v he hx hv => (h4 i j e' x v he hx (by simpa using hv)).evo_imm hr.imm _)
  rwa [hlen] at this

theorem bsl_own (hr : RH γ φ I H w) {t e : TypeId} {ag : Bool} {sz len : Nat} {z : EV} (hu : P.underlying t = some (.slice e)) (hty : tyOf P e = some (ag, sz)) (hz : zeroOf P e = some z)
    (hs : z.cells.length = sz) (ho : z.cells.all EV.one = true) (hle : len * sz ≤ 2 ^ 24) {ps : List (Nat × EV)} {qs : Array (Nat × Value)} (hl : ps.length = qs.size)
    (hp : ∀ (i : Nat) (p : Nat × EV) (q : Nat × Value), ps[i]? = some p → qs[i]? = some q → p.1 = q.1 ∧ p.1 < len ∧ RV φ H.length I w p.2 q.2 ∧ p.2.cells.all EV.one = true ∧ p.2.cells.length = sz) :
    ∃ φ' val w', (Instr.buildSlice t len qs).run P w = .ok val w' ∧ Evo φ I H w φ' I (H ++ [some (.row sz (ps.foldl (fun es p => es.set p.1 p.2) (List.replicate len z)))]) w' ∧
      RH γ φ' I (H ++ [some (.row sz (ps.foldl (fun es p => es.set p.1 p.2) (List.replicate len z)))]) w' ∧
      RV φ' (H.length + 1) I w' (.own H.length sz 0 len) val := by
  obtain ⟨c, h1, h2, h3, h4⟩ := bsl_cells (w := w) hu hty hz hs ho hle hl hp
  have hev := evo_alloc φ I H w (.cells c e) (.row sz (ps.foldl (fun es p => es.set p.1 p.2) (List.replicate len z)))
  have hlen : (ps.foldl (fun es p => es.set p.1 p.2) (List.replicate len z)).length = len := by
    have : ∀ (ps : List (Nat × EV)) (es : List EV), (ps.foldl (fun es p => es.set p.1 p.2) es).length = es.length := by
      intro ps
      induction ps with
      | nil => intro es; rfl
      | cons p ps ih => intro es; rw [List.foldl_cons, ih, List.length_set]
    rw [this]; simp
  refine ⟨_, _, _, h1, hev, rh_alloc hr ⟨c, e, alloc_new w _, by rw [h2]; simp, h3, fun i j e' x v he hx hv => ?_⟩, ?_⟩
  · have := hev.rv hr (h4 i j e' x v he hx (by simpa using hv))
    simpa using this
  · have hsh : (w.alloc (.cells c e)).shape? (up φ H.length w.heap.size H.length) = some (e, c.size) := by
      rw [up_eq]; unfold World.shape?; rw [alloc_new]
    have hsize : len * sz = c.size := by rw [← hlen, h2]; simp
    have := RV.own (I := I) H.length sz 0 len len c.size e (Nat.lt_succ_self _) hsh (by rw [Nat.zero_add, hsize]; exact Nat.le_refl _) (Nat.le_refl _)
    rw [up_eq] at this
    simpa using this

theorem slStr_sound {t : TypeId} (hu : P.underlying t = some .string) {s : List UInt8} {v : Value} (hx : RV φ N I w (.str s) v) {lo hi : Option EV} {vlo vhi : Option Value} {l h : Nat}
    (h1 : match lo, vlo with | none, none => True | some x, some v => RV φ N I w x v | _, _ => False)
    (h2 : match hi, vhi with | none, none => True | some x, some v => RV φ N I w x v | _, _ => False)
    (hev : evBounds s.length s.length lo hi = some (l, h)) :
    ∃ val, (Instr.sliceAt t v vlo vhi none).run P w = .ok val w ∧ RV φ N I w (.str ((s.drop l).take (h - l))) val := by
  cases hx
  obtain ⟨b1, b2, b3⟩ := bounds_sound (P := P) (isSlice := false) h1 h2 hev (Nat.le_refl _) s.length (Nat.le_refl _)
  refine ⟨.string ((⟨s.toArray⟩ : ByteArray).extract l h), ?_, ?_⟩
  · simp [Instr.sliceAt, run_underlying hu, Instr.slice, bytes_size, b1]
  · have : (⟨s.toArray⟩ : ByteArray).extract l h = ⟨((s.drop l).take (h - l)).toArray⟩ := by
      apply ByteArray.ext
      simp [ByteArray.data_extract, List.extract]
    rw [this]
    exact .str _


theorem cut_sound {t e : TypeId} {i : TypeInfo} (hu : P.underlying t = some (.slice e)) (hinf : P.info? e = some i) {x y : EV} {v : Value} (hx : RV φ N I w x v) {lo hi : Option EV} {vlo vhi : Option Value}
    (h1 : match lo, vlo with | none, none => True | some x, some v => RV φ N I w x v | _, _ => False)
    (h2 : match hi, vhi with | none, none => True | some x, some v => RV φ N I w x v | _, _ => False)
    (hev : evCut i.size x lo hi = some y) :
    ∃ val, (Instr.sliceAt t v vlo vhi none).run P w = .ok val w ∧ RV φ N I w y val := by
  have run : ∀ (a : Option Addr) (len cap l h : Nat), (Instr.sliceBounds true len cap vlo vhi none).run P w = .ok (l, h, cap) w →
      (Instr.sliceAt t (.slice a len cap) vlo vhi none).run P w = .ok (.slice (if cap = l then a else a.map (·.add (l * i.size))) (h - l) (cap - l)) w := by
    intro a len cap l h hb
    simp [Instr.sliceAt, run_underlying hu, Instr.slice, hb, Go.sizeOf, typeInfo, hinf]
  unfold evCut at hev
  split at hev
  · split at hev
    · rename_i p hp
      simp only [Option.some.injEq] at hev; subst hev
      cases hx
      obtain ⟨b1, b2, b3⟩ := bounds_sound (P := P) (isSlice := true) h1 h2 (l := p.1) (h := p.2) hp (Nat.le_refl _) 0 (Nat.le_refl _)
      refine ⟨_, run _ _ _ _ _ b1, ?_⟩
      have e1 : p.1 = 0 := by omega
      have e2 : p.2 = 0 := by omega
      rw [e1, e2]
      exact .nilsl
    · simp at hev
  · split at hev
    · rename_i p hp
      simp only [Option.some.injEq] at hev; subst hev
      cases hx with
      | zsl a =>
        obtain ⟨b1, b2, b3⟩ := bounds_sound (P := P) (isSlice := true) h1 h2 (l := p.1) (h := p.2) hp (Nat.le_refl _) 0 (Nat.le_refl _)
        refine ⟨_, run _ _ _ _ _ b1, ?_⟩
        have e1 : p.1 = 0 := by omega
        have e2 : p.2 = 0 := by omega
        rw [e1, e2]
        exact .zsl a
    · simp at hev
  · rename_i b bs off len
    split at hev
    · rename_i hs
      subst hs
      split at hev
      · rename_i p hp
        simp only [Option.some.injEq] at hev; subst hev
        cases hx with
        | own0 _ _ _ a hb =>
          obtain ⟨b1, b2, b3⟩ := bounds_sound (P := P) (isSlice := true) h1 h2 (l := p.1) (h := p.2) hp (Nat.le_refl _) 0 (Nat.le_refl _)
          refine ⟨_, run _ _ _ _ _ b1, ?_⟩
          have e1 : p.1 = 0 := by omega
          have e2 : p.2 = 0 := by omega
          rw [e1, e2]
          exact .own0 b _ _ a hb
        | own _ _ _ _ cap n T hb hsh hn hc =>
          obtain ⟨b1, b2, b3⟩ := bounds_sound (P := P) (isSlice := true) h1 h2 (l := p.1) (h := p.2) hp (Nat.le_refl _) cap hc
          refine ⟨_, run _ _ _ _ _ b1, ?_⟩
          by_cases hcl : cap = p.1
          · have e2 : p.2 - p.1 = 0 := by omega
            have e3 : cap - p.1 = 0 := by omega
            rw [if_pos hcl, e2, e3]
            exact .own0 b _ _ _ hb
          · rw [if_neg hcl]
            simp only [Option.map_some, addr_add]
            rw [← Nat.add_mul]
            exact .own b i.size (off + p.1) (p.2 - p.1) (cap - p.1) n T hb hsh (by rw [show off + p.1 + (cap - p.1) = off + cap by omega]; exact hn) (by omega)
      · simp at hev
    · simp at hev
  · rename_i bs es
    split at hev
    · rename_i hs
      subst hs
      split at hev
      · rename_i p hp
        simp only [Option.some.injEq] at hev; subst hev
        cases hx with
        | imm0 _ a =>
          obtain ⟨b1, b2, b3⟩ := bounds_sound (P := P) (isSlice := true) h1 h2 (l := p.1) (h := p.2) hp (Nat.le_refl _) 0 (Nat.le_refl _)
          refine ⟨_, run _ _ _ _ _ b1, ?_⟩
          have e1 : p.1 = 0 := by simp at b3; omega
          have e2 : p.2 = 0 := by simp at b3; omega
          rw [e1, e2]
          exact .imm0 _ a
        | imm _ _ B o cap c T fr hI hB hs hc hz h =>
          obtain ⟨b1, b2, b3⟩ := bounds_sound (P := P) (isSlice := true) h1 h2 (l := p.1) (h := p.2) hp (Nat.le_refl _) cap hc
          refine ⟨_, run _ _ _ _ _ b1, ?_⟩
          by_cases hcl : cap = p.1
          · have e2 : p.2 - p.1 = 0 := by omega
            have e3 : cap - p.1 = 0 := by omega
            rw [if_pos hcl, e2, e3, List.take_zero]
            exact .imm0 _ _
          · rw [if_neg hcl]
            simp only [Option.map_some, addr_add]
            have hlen : ((es.drop p.1).take (p.2 - p.1)).length = p.2 - p.1 := by simp; omega
            have hmul : p.1 * i.size + (p.2 - p.1) * i.size ≤ es.length * i.size := by
              rw [← Nat.add_mul]; exact Nat.mul_le_mul_right _ (by omega)
            have := RV.imm (φ := φ) (N := N) i.size ((es.drop p.1).take (p.2 - p.1)) B (o + p.1 * i.size) (cap - p.1) c T fr hI hB (by rw [hlen]; omega) (by rw [hlen]; omega)
              (fun e he => hz e (List.mem_of_mem_drop (List.mem_of_mem_take he)))
              (fun k j e x v he hx hv => by
                have hk := get_lt he
                rw [hlen] at hk
                rw [List.getElem?_take_of_lt hk, List.getElem?_drop] at he
                refine h (p.1 + k) j e x v he hx ?_
                rw [show o + (p.1 + k) * i.size + j = o + p.1 * i.size + k * i.size + j by rw [Nat.add_mul]; omega]
                exact hv)
            rwa [hlen] at this
      · simp at hev
    · simp at hev
  · simp at hev

/-- With a third index that is the second one. -/
theorem cut3_sound {t e : TypeId} {i : TypeInfo} (hu : P.underlying t = some (.slice e)) (hinf : P.info? e = some i) {x y hi mx : EV} {v vhi vmx : Value} (hx : RV φ N I w x v) {lo : Option EV} {vlo : Option Value}
    (h1 : match lo, vlo with | none, none => True | some x, some v => RV φ N I w x v | _, _ => False) (h2 : RV φ N I w hi vhi) (h3 : RV φ N I w mx vmx)
    (hev : evCut3 i.size x lo hi mx = some y) :
    ∃ val, (Instr.sliceAt t v vlo (some vhi) (some vmx)).run P w = .ok val w ∧ RV φ N I w y val := by
  unfold evCut3 at hev
  split at hev
  case h_2 => simp at hev
  rename_i k h k' m
  split at hev
  case isFalse => simp at hev
  rename_i hm
  subst hm
  cases h2
  cases h3
  have key : ∀ (len cap l hh : Nat), len ≤ cap → evBounds len len lo (some (.int k h)) = some (l, hh) → l ≤ hh ∧ hh ≤ len ∧
      ∀ a, (Instr.sliceAt t (.slice a len cap) vlo (some (.int k h)) (some (.int k' h))).run P w = .ok (.slice (if hh = l then a else a.map (·.add (l * i.size))) (hh - l) (hh - l)) w := by
    intro len cap l hh hlc hb
    have hb0 := hb
    unfold evBounds at hb
    split at hb
    case h_2 => simp at hb
    rename_i h' hh'
    split at hb
    case h_2 => simp at hb
    rename_i l' hl'
    simp only [Option.some.injEq, Prod.mk.injEq] at hb
    obtain ⟨rfl, rfl⟩ := hb
    simp only [evBound] at hh'
    split at hh'
    case isFalse => simp at hh'
    rename_i hc
    simp only [Option.some.injEq] at hh'
    subst hh'
    obtain ⟨b1, b2, b3⟩ := bounds_sound (P := P) (w := w) (isSlice := true) (len := h.toNat) (cap := h.toNat) (lo := lo) (hi := none) (vlo := vlo) (vhi := none) (l := l') (h := h.toNat) h1 trivial (by unfold evBounds; rw [show evBound h.toNat h.toNat none = some h.toNat from rfl]; simp only; rw [hl']) (Nat.le_refl _) h.toNat (Nat.le_refl _)
    refine ⟨b2, by omega, fun a => ?_⟩
    have s1 : ∀ (kk : IntKind) (y : Nat) (code : BoundsCode), h.toNat ≤ y → (Instr.sliceBound (.int kk h) y code).run P w = .ok h.toNat w := by
      intro kk y code hy
      simp only [Instr.sliceBound, asIntOf, Sem.run_bind, Sem.run_pure, Result.andThen_ok]
      rw [if_pos ⟨hc.1, by omega⟩]
      rfl
    have s2 : ∀ code, (match vlo with
      | some v => Instr.sliceBound v h.toNat code
      | none => pure 0 : Sem Nat).run P w = .ok l' w := by
      intro code
      cases lo with
      | none =>
        cases vlo with
        | none => simp only [evBound, Option.some.injEq] at hl'; subst hl'; rfl
        | some v => exact h1.elim
      | some x =>
        cases vlo with
        | none => exact h1.elim
        | some v =>
          unfold evBound at hl'
          split at hl'
          · rename_i e; simp at e
          · rename_i kk mm e
            simp only [Option.some.injEq] at e
            subst e
            split at hl'
            · rename_i hc'
              simp only [Option.some.injEq] at hl'; subst hl'
              cases h1
              simp only [Instr.sliceBound, asIntOf, Sem.run_bind, Sem.run_pure, Result.andThen_ok]
              rw [if_pos ⟨hc'.1, by omega⟩]
              rfl
            · simp at hl'
          · simp at hl'
    cases vlo with
    | none =>
      have e0 : l' = 0 := by have := s2 .sliceB; simp only [Sem.run_pure, Result.ok.injEq] at this; exact this.1.symm
      subst e0
      simp only [Instr.sliceAt, Instr.slice, Instr.sliceBounds, Sem.run_bind, run_underlying hu, Result.andThen_ok, s1 k' cap _ (by omega), s1 k h.toNat _ (Nat.le_refl _), Option.isSome_some, if_true, Sem.run_pure, Go.sizeOf, typeInfo, run_program, hinf]
    | some v =>
      simp only at s2
      simp only [Instr.sliceAt, Instr.slice, Instr.sliceBounds, Sem.run_bind, run_underlying hu, Result.andThen_ok, s1 k' cap _ (by omega), s1 k h.toNat _ (Nat.le_refl _), Option.isSome_some, if_true, s2, Sem.run_pure, Go.sizeOf, typeInfo, run_program, hinf]
  split at hev
  · unfold evCut at hev
    simp only at hev
    split at hev
    case h_2 => simp at hev
    rename_i p hp
    simp only [Option.some.injEq] at hev; subst hev
    cases hx
    obtain ⟨g1, g2, g3⟩ := key 0 0 p.1 p.2 (Nat.le_refl _) hp
    refine ⟨_, g3 _, ?_⟩
    have e1 : p.1 = 0 := by omega
    have e2 : p.2 = 0 := by omega
    rw [e1, e2]
    exact .nilsl
  · unfold evCut at hev
    simp only at hev
    split at hev
    case h_2 => simp at hev
    rename_i p hp
    simp only [Option.some.injEq] at hev; subst hev
    cases hx with
    | zsl a =>
      obtain ⟨g1, g2, g3⟩ := key 0 0 p.1 p.2 (Nat.le_refl _) hp
      refine ⟨_, g3 _, ?_⟩
      have e1 : p.1 = 0 := by omega
      have e2 : p.2 = 0 := by omega
      rw [e1, e2]
      exact .zsl a
  · rename_i b bs off len
    split at hev
    case h_2 => simp at hev
    rename_i p hp
    have key' : ∀ cap, len ≤ cap → _ := fun cap hc => key len cap p.1 p.2 hc hp
    split at hev
    · rename_i he
      simp only [Option.some.injEq] at hev; subst hev
      cases hx with
      | own0 _ _ _ a hb =>
        refine ⟨_, (key' 0 (Nat.le_refl _)).2.2 _, ?_⟩
        rw [he]; simp only [if_true, Nat.sub_self]; exact .zsl a
      | own _ _ _ _ cap n T hb hsh hn hc =>
        refine ⟨_, (key' cap hc).2.2 _, ?_⟩
        rw [he]; simp only [if_true, Nat.sub_self]; exact .zsl _
    · rename_i he
      unfold evCut at hev
      simp only at hev
      split at hev
      case isFalse => simp at hev
      rename_i hs
      subst hs
      rw [hp] at hev
      simp only [Option.some.injEq] at hev; subst hev
      cases hx with
      | own0 _ _ _ a hb =>
        have := (key' 0 (Nat.le_refl _))
        omega
      | own _ _ _ _ cap n T hb hsh hn hc =>
        have hk := key' cap hc
        refine ⟨_, hk.2.2 _, ?_⟩
        rw [if_neg (fun e => he e.symm)]
        simp only [Option.map_some, addr_add]
        rw [← Nat.add_mul]
        exact .own b i.size (off + p.1) (p.2 - p.1) (p.2 - p.1) n T hb hsh (Nat.le_trans (Nat.mul_le_mul_right _ (by omega)) hn) (Nat.le_refl _)
  · rename_i bs es
    split at hev
    case h_2 => simp at hev
    rename_i p hp
    have key' : ∀ cap, es.length ≤ cap → _ := fun cap hc => key es.length cap p.1 p.2 hc hp
    split at hev
    · rename_i he
      simp only [Option.some.injEq] at hev; subst hev
      cases hx with
      | imm0 _ a =>
        refine ⟨_, (key' 0 (Nat.le_refl _)).2.2 _, ?_⟩
        rw [he]; simp only [if_true, Nat.sub_self]; exact .zsl a
      | imm _ _ B o cap c T fr hI hB hs hc hz h =>
        refine ⟨_, (key' cap hc).2.2 _, ?_⟩
        rw [he]; simp only [if_true, Nat.sub_self]; exact .zsl _
    · rename_i he
      unfold evCut at hev
      simp only at hev
      split at hev
      case isFalse => simp at hev
      rename_i hs
      subst hs
      rw [hp] at hev
      simp only [Option.some.injEq] at hev; subst hev
      cases hx with
      | imm0 _ a =>
        have := (key' 0 (Nat.le_refl _))
        simp only [List.length_nil] at this
        omega
      | imm _ _ B o cap c T fr hI hB hs hc hz hh =>
        have hk := key' cap hc
        refine ⟨_, hk.2.2 _, ?_⟩
        rw [if_neg (fun e => he e.symm)]
        simp only [Option.map_some, addr_add]
        have hlen : ((es.drop p.1).take (p.2 - p.1)).length = p.2 - p.1 := by simp; omega
        have hmul : p.1 * i.size + (p.2 - p.1) * i.size ≤ es.length * i.size := by
          rw [← Nat.add_mul]; exact Nat.mul_le_mul_right _ (by omega)
        have := RV.imm (φ := φ) (N := N) i.size ((es.drop p.1).take (p.2 - p.1)) B (o + p.1 * i.size) (p.2 - p.1) c T fr hI hB (by rw [hlen]; omega) (by rw [hlen]; omega)
          (fun e he => hz e (List.mem_of_mem_drop (List.mem_of_mem_take he)))
          (fun k j e x v he hx hv => by
            have hk := get_lt he
            rw [hlen] at hk
            rw [List.getElem?_take_of_lt hk, List.getElem?_drop] at he
            refine hh (p.1 + k) j e x v he hx ?_
            rw [show o + (p.1 + k) * i.size + j = o + p.1 * i.size + k * i.size + j by rw [Nat.add_mul]; omega]
            exact hv)
        rwa [hlen] at this
  · simp at hev

theorem guard_else {P : Program} {op : BinOp} {t : TypeId} {ox oy : Operand} {a b : Value} {w : World} (h1 : ¬ (a = .nilIface ∧ b = .nilIface)) (h2 : ∀ xs ys, ¬ (a = .agg xs ∧ b = .agg ys)) :
    (eqGuard op t ox oy a b).run P w = .ok () w := by
  cases a <;> cases b <;> first
    | (cases op <;> rfl)
    | exact absurd ⟨rfl, rfl⟩ h1
    | exact absurd ⟨rfl, rfl⟩ (h2 _ _)

theorem cmpNil_sound {t : TypeId} (ox oy : Operand) {op : BinOp} (hop : op = .eql ∨ op = .neq) {k : NK} (hk : nkOf P t = some k) {x y : EV} {vx vy : Value} (hx : RV φ N I w x vx) (hy : RV φ N I w y vy)
    {r : Bool} (hev : evNil k x y = some r) : (do eqGuard op t ox oy vx vy; binOp op t vx vy : Sem Value).run P w = .ok (.bool (if op == .neq then !r else r)) w := by
  have fin : (∀ d, (Go.Op.equalIn (d + 1) t vx vy).run P w = .ok r w) → (eqGuard op t ox oy vx vy).run P w = .ok () w → (binOp .eql t vx vy = do pure (.bool (← Go.Op.equal t vx vy))) →
      (binOp .neq t vx vy = do pure (.bool (!(← Go.Op.equal t vx vy)))) → (do eqGuard op t ox oy vx vy; binOp op t vx vy : Sem Value).run P w = .ok (.bool (if op == .neq then !r else r)) w := by
    intro h0 h2 h3 h4
    have h1 : (Go.Op.equal t vx vy).run P w = .ok r w := h0 9999
    simp only [Sem.run_bind, h2, Result.andThen_ok]
    rcases hop with rfl | rfl
    · rw [h3]; simp [h1]
    · rw [h4]; simp [h1]
  unfold nkOf at hk
  unfold evNil at hev
  split at hev <;> simp only [Option.some.injEq, reduceCtorEq] at hev <;> subst hev <;>
    (split at hk <;> simp only [Option.some.injEq, reduceCtorEq] at hk) <;> rename_i hu <;> cases hx <;> cases hy <;>
    refine fin (fun d => ?_) (guard_else (by simp) (by simp)) rfl rfl <;> simp only [Go.Op.equalIn, Sem.run_bind, run_underlying hu, Result.andThen_ok, Sem.run_pure, Option.isNone_none, Option.isNone_some]

theorem isC_const {o : Operand} {e : EOpd} (h : resOpd o = some e) (hc : e.isC = true) : ∃ v, o = .const v := by
  cases o with
  | const v => exact ⟨v, rfl⟩
  | tmp t => simp only [resOpd, Option.some.injEq] at h; subst h; simp [EOpd.isC] at hc
  | global g => simp only [resOpd, Option.some.injEq] at h; subst h; simp [EOpd.isC] at hc
  | func f => simp only [resOpd, Option.some.injEq] at h; subst h; simp [EOpd.isC] at hc

theorem cmpNilC_sound {t : TypeId} (ox oy : Operand) {ex ey : EOpd} (hox : resOpd ox = some ex) (hoy : resOpd oy = some ey) {op : BinOp} (hop : op = .eql ∨ op = .neq) {k : NK} (hk : nkOf P t = some k) {x y : EV} {vx vy : Value} (hx : RV φ N I w x vx) (hy : RV φ N I w y vy)
    {r : Bool} (hev : evNilC (ex.isC || ey.isC) k x y = some r) : (do eqGuard op t ox oy vx vy; binOp op t vx vy : Sem Value).run P w = .ok (.bool (if op == .neq then !r else r)) w := by
  unfold evNilC at hev
  split at hev
  · split at hev
    case isFalse => simp at hev
    rename_i hc
    obtain rfl := Option.some.inj hev
    cases hx
    cases hy
    unfold nkOf at hk
    split at hk <;> simp only [Option.some.injEq, reduceCtorEq] at hk
    rename_i hu
    have h0 : ∀ d, (Go.Op.equalIn (d + 1) t .nilIface .nilIface).run P w = .ok true w := fun d => by
      simp only [Go.Op.equalIn, Sem.run_bind, run_underlying hu, Result.andThen_ok, Sem.run_pure]
    have h1 : (Go.Op.equal t .nilIface .nilIface).run P w = .ok true w := h0 9999
    have h2 : (eqGuard op t ox oy .nilIface .nilIface).run P w = .ok () w := by
      rw [Bool.or_eq_true] at hc
      rcases hc with hc | hc
      · obtain ⟨v, rfl⟩ := isC_const hox hc
        rcases hop with rfl | rfl <;> rfl
      · obtain ⟨v, rfl⟩ := isC_const hoy hc
        rcases hop with rfl | rfl <;> cases ox <;> rfl
    simp only [Sem.run_bind, h2, Result.andThen_ok]
    rcases hop with rfl | rfl
    · show (do pure (.bool (← Go.Op.equal t .nilIface .nilIface)) : Sem Value).run P w = _
      simp [h1]
    · show (do pure (.bool (!(← Go.Op.equal t .nilIface .nilIface))) : Sem Value).run P w = _
      simp [h1]
  · exact cmpNil_sound ox oy hop hk hx hy hev

end
end Abs

namespace Abs
open Go

theorem checkTy {P : Program} (em : Bool) (D : Nat) : ∀ (d : Nat) (t : TypeId) (ks : List SK), flatK P d t = some ks → ∀ (cs : List EV) (w : World), fits ks cs = true →
    (Instr.checkKey em (D + d) t (valT P t (cs.map toVal))).run P w = .ok () w
  | 0, t, ks, h => by simp [flatK] at h
  | d + 1, t, ks, h => by
    intro cs w hc
    have IH := checkTy (P := P) em D d
    unfold flatK at h
    split at h
    · rename_i hu
      simp only [Option.some.injEq] at h; subst h
      match cs, hc with
      | [.bool a], _ =>
        simp only [valT, hu, List.map_cons, List.map_nil, toVal, List.headD_cons]
        rw [show D + (d + 1) = (D + d) + 1 from rfl, Instr.checkKey]
        simp [run_underlying hu]
    · rename_i k hu
      simp only [Option.some.injEq] at h; subst h
      have one : ∀ {xs : List EV}, fits [.i k] xs = true → ∃ a, xs = [.int k a] := by
        intro xs h
        cases xs with
        | nil => simp [fits] at h
        | cons x xs =>
          cases xs with
          | nil =>
            cases x <;> simp [fits, fit] at h
            subst h; exact ⟨_, rfl⟩
          | cons y ys => simp [fits] at h
      obtain ⟨a, rfl⟩ := one hc
      simp only [valT, hu, List.map_cons, List.map_nil, toVal, List.headD_cons]
      rw [show D + (d + 1) = (D + d) + 1 from rfl, Instr.checkKey]
      simp [run_underlying hu]
    · rename_i hu
      simp only [Option.some.injEq] at h; subst h
      match cs, hc with
      | [.str a], _ =>
        simp only [valT, hu, List.map_cons, List.map_nil, toVal, List.headD_cons]
        rw [show D + (d + 1) = (D + d) + 1 from rfl, Instr.checkKey]
        simp [run_underlying hu]
    · rename_i n e hu
      split at h
      · rename_i ls i hls hi
        split at h
        · rename_i hsz
          simp only [Option.some.injEq] at h
          simp only [valT, hu]
          rw [show D + (d + 1) = (D + d) + 1 from rfl, Instr.checkKey]
          simp only [Sem.run_bind, run_underlying hu, Result.andThen_ok]
          obtain ⟨k, hk, hk1⟩ := flatK_info hls
          simp only [Std.Legacy.Range.forIn_eq_forIn_range', Std.Legacy.Range.size, Nat.sub_zero, Nat.add_one_sub_one, Nat.div_one]
          have hcell : P.cellsOf e = ls.length := by simp [Program.cellsOf, hi, hsz]
          have key : ∀ (m j : Nat), fits (List.replicate m ls).flatten (cs.drop (j * ls.length)) = true →
              (forIn (List.range' j m) PUnit.unit fun i _ => (do Instr.checkKey em (D + d) e (← part e (cs.map toVal).toArray (i * (← Go.sizeOf e))); Pure.pure (ForInStep.yield PUnit.unit) : Sem (ForInStep PUnit))).run P w = .ok PUnit.unit w := by
            intro m
            induction m with
            | zero => intro j h1; simp
            | succ m ih =>
              intro j h1
              simp only [List.replicate_succ, List.flatten_cons] at h1
              have l1 := fits_len h1
              have a1 := fits_append h1
              rw [List.drop_drop, show j * ls.length + ls.length = (j + 1) * ls.length by rw [Nat.add_mul]; omega] at a1
              have g := ih (j + 1) a1.2
              simp only [List.length_drop, List.length_append] at l1
              have b1 : j * ls.length + ls.length ≤ cs.length := by
                rcases Nat.eq_zero_or_pos ls.length with h0 | h0
                · simp [h0]
                · omega
              simp only [List.range'_succ, List.forIn_cons, Sem.run_bind, run_sizeOf w hi, hcell, Result.andThen_ok]
              rw [part_valT hi hk (cs.map toVal) _ w (by rw [List.length_map, hsz]; omega) (by rw [hsz]; exact hk1), Result.andThen_ok, hsz]
              rw [← List.map_drop, ← List.map_take, IH e ls hls _ w a1.1, Result.andThen_ok]
              simp only [Sem.run_pure, Result.andThen_ok]
              simpa only [Sem.run_bind] using g
          have := key n 0 (by rw [h]; simpa using hc)
          simp at this ⊢
          rw [this]
          simp
        · simp at h
      · simp at h
    · rename_i fs hu
      split at h
      · simp at h
      · rename_i hst
        simp only [valT, hu]
        rw [show D + (d + 1) = (D + d) + 1 from rfl, Instr.checkKey]
        simp only [Sem.run_bind, run_underlying hu, Result.andThen_ok]
        rw [← Array.forIn_toList]
        generalize fs.toList = l at h
        have none_fold : ∀ (l : List Field), l.foldl (fun acc f =>
            match acc, flatK P d f.type, P.info? f.type with
            | some ks, some ls, some i => if f.offset = ks.length && i.size = ls.length && f.name != "_" then some (ks ++ ls) else none
            | _, _, _ => none) (none : Option (List SK)) = none := by
          intro l
          induction l with
          | nil => rfl
          | cons f l ih => simpa using ih
        have key : ∀ (l : List Field) (pre : List SK), l.foldl (fun acc f =>
            match acc, flatK P d f.type, P.info? f.type with
            | some ks, some ls, some i => if f.offset = ks.length && i.size = ls.length && f.name != "_" then some (ks ++ ls) else none
            | _, _, _ => none) (some pre) = some ks →
            (∀ f ∈ l, f.name ≠ "_" ∧ ∃ a, (part f.type (cs.map toVal).toArray f.offset).run P w = .ok a w ∧ (Instr.checkKey em (D + d) f.type a).run P w = .ok () w) ∧ ∃ suf, ks = pre ++ suf := by
          intro l
          induction l with
          | nil =>
            intro pre hp
            simp only [List.foldl_nil, Option.some.injEq] at hp
            subst hp
            exact ⟨by simp, [], by simp⟩
          | cons f l ih =>
            intro pre hp
            rw [List.foldl_cons] at hp
            cases hls : flatK P d f.type with
            | none => simp only [hls, none_fold] at hp; simp at hp
            | some ls =>
              cases hi : P.info? f.type with
              | none => simp only [hls, hi, none_fold] at hp; simp at hp
              | some i =>
                simp only [hls, hi] at hp
                split at hp
                · rename_i hcond
                  simp only [Bool.and_eq_true, decide_eq_true_eq, bne_iff_ne, ne_eq] at hcond
                  obtain ⟨⟨hoff, hsz⟩, hnm⟩ := hcond
                  obtain ⟨g, suf, hsuf⟩ := ih (pre ++ ls) hp
                  refine ⟨?_, ls ++ suf, by rw [hsuf]; simp⟩
                  obtain ⟨k, hk, hk1⟩ := flatK_info hls
                  have l1 := fits_len hc
                  rw [hsuf] at l1
                  simp only [List.length_append] at l1
                  have f1 : fits ls ((cs.drop pre.length).take ls.length) = true := by
                    have h1 := hc
                    rw [hsuf, List.append_assoc] at h1
                    exact (fits_append (fits_append h1).2).1
                  intro y hy
                  rcases List.mem_cons.1 hy with rfl | hy
                  · refine ⟨hnm, _, part_valT hi hk (cs.map toVal) _ w (by rw [List.length_map, hsz]; omega) (by rw [hsz]; exact hk1), ?_⟩
                    rw [hsz, hoff, ← List.map_drop, ← List.map_take]
                    exact IH y.type ls hls _ w f1
                  · exact g y hy
                · rw [none_fold] at hp; simp at hp
        have each := (key l [] h).1
        clear key none_fold h
        induction l with
        | nil => simp
        | cons f l ih =>
          obtain ⟨hn, a, p1, p2⟩ := each f (by simp)
          simp only [List.forIn_cons, Sem.run_bind, hn, ne_eq, not_false_eq_true, if_true, Result.andThen_ok, p1, p2, Sem.run_pure]
          exact ih (fun y hy => each y (by simp [hy]))
    · simp at h

/-- A type's key value. -/
def keyV (P : Program) (t : TypeId) (k : EV) : Value := valT P t (k.cells.map toVal)

theorem rv_key {P : Program} {φ : Nat → Nat} {N : Nat} {I : Nat → Prop} {w : World} {t : TypeId} {ag : Bool} {ks : List SK} {k : EV} {v : Value} (hd : ∃ d, P.underlying t = some d ∧ aggD d = ag)
    (hf : keyFit ag ks k = true) (h : RV φ N I w k v) : v = keyV P t k := by
  obtain ⟨d, hu, ha⟩ := hd
  have hc := keyFit_cells hf
  unfold keyV
  unfold keyFit at hf
  split at hf
  · rename_i cs
    simp only [Bool.and_eq_true] at hf
    obtain ⟨rfl, hf⟩ := hf
    cases h with
    | agg _ vs hl hv =>
    rw [valT_agg ⟨d, hu, ha⟩]
    have := rv_fits (vs := vs.toList) hf (by simpa using hl) (fun k x v h1 h2 => hv k x v h1 (by simpa using h2))
    simp only [EV.cells]
    rw [← this]
  · rename_i x hx
    simp only [Bool.and_eq_true, Bool.not_eq_true'] at hf
    obtain ⟨rfl, hf⟩ := hf
    have hxc : k.cells = [k] := not_agg_cells hx
    have := rv_fits (vs := [v]) hf rfl (fun j x u h1 h2 => by
      cases j with
      | zero => simp at h1 h2; subst h1 h2; exact h
      | succ j => simp at h1)
    rw [hxc, ← this]
    unfold valT
    rw [hu]
    cases d <;> first | rfl | exact absurd ha (by simp [aggD])

end Abs

namespace Abs
open Go

section
variable {P : Program} {φ : Nat → Nat} {N : Nat} {I : Nat → Prop} {w : World} {t : TypeId} {ag : Bool} {ks : List SK} {k : EV}

theorem eq_key (hk : flatK P 16 t = some ks) {a b : EV} (ha : keyFit ag ks a = true) (hb : keyFit ag ks b = true) (w : World) :
    (Go.Op.equal t (keyV P t a) (keyV P t b)).run P w = .ok (eqL a.cells b.cells) w :=
  eqTy (P := P) 9984 16 t ks hk a.cells b.cells w (keyFit_cells ha) (keyFit_cells hb)

theorem eqL_eq : ∀ {ks : List SK} {a b : List EV}, fits ks a = true → fits ks b = true → eqL a b = true → a = b
  | [], [], [], _, _, _ => rfl
  | [], _ :: _, _, h, _, _ => by simp [fits] at h
  | [], [], _ :: _, _, h, _ => by simp [fits] at h
  | _ :: _, [], _, h, _, _ => by simp [fits] at h
  | _ :: _, _ :: _, [], _, h, _ => by simp [fits] at h
  | k :: ks, x :: a, y :: b, h1, h2, h3 => by
    simp only [fits, Bool.and_eq_true] at h1 h2
    simp only [eqL, Bool.and_eq_true] at h3
    rw [eqL_eq h1.2 h2.2 h3.2]
    have e1 := h1.1
    have e2 := h2.1
    have e3 := h3.1
    cases k <;> cases x <;> simp [fit] at e1 <;> cases y <;> simp [fit] at e2 <;> simp [sceq] at e3 <;> subst e3 <;> first | rfl | (rw [← e1, ← e2])

theorem asking (hk : flatK P 16 t = some ks) (ha : keyFit ag ks k = true) (w : World) : ∀ (l : List MapEntry) (es : List (EV × EV)) (i : Nat), l.length = es.length → fitsAll ag ks es = true →
    (∀ (j : Nat) (m : MapEntry) (e : EV × EV), l[j]? = some m → es[j]? = some e → m.key = keyV P t e.1) →
    (lookE k es = none ∧ (∀ v, putE k v es = es ++ [(k, v)]) ∧ (Instr.findAsking t (keyV P t k) l i).run P w = .ok none w) ∨
    (∃ j m e, l[j]? = some m ∧ es[j]? = some e ∧ eqL k.cells e.1.cells = true ∧ lookE k es = some e.2 ∧ (∀ v, putE k v es = es.set j (k, v)) ∧ (Instr.findAsking t (keyV P t k) l i).run P w = .ok (some (i + j, m.val)) w)
  | [], [], i, _, _, _ => .inl ⟨rfl, fun _ => rfl, by simp [Instr.findAsking]⟩
  | [], _ :: _, _, h, _, _ => by simp at h
  | _ :: _, [], _, h, _, _ => by simp at h
  | m :: l, e :: es, i, h, hf, hm => by
    simp only [fitsAll, List.all_cons, Bool.and_eq_true] at hf
    have h0 := hm 0 m e rfl rfl
    have he := eq_key hk ha hf.1 w
    rw [← h0] at he
    by_cases hq : eqL k.cells e.1.cells = true
    · refine .inr ⟨0, m, e, rfl, rfl, hq, by simp [lookE, hq], fun v => by simp [putE, hq], ?_⟩
      rw [hq] at he
      simp [Instr.findAsking, he]
    · have hq' : eqL k.cells e.1.cells = false := by simpa using hq
      rw [hq'] at he
      have run : (Instr.findAsking t (keyV P t k) (m :: l) i).run P w = (Instr.findAsking t (keyV P t k) l (i + 1)).run P w := by
        simp [Instr.findAsking, he]
      rcases asking hk ha w l es (i + 1) (by simpa using h) hf.2 (fun j m e h1 h2 => hm (j + 1) m e (by simpa using h1) (by simpa using h2)) with ⟨g1, g2, g3⟩ | ⟨j, m', e', g1, g2, g3, g4, g5, g6⟩
      · exact .inl ⟨by simp [lookE, hq', g1], fun v => by simp [putE, hq', g2], by rw [run, g3]⟩
      · refine .inr ⟨j + 1, m', e', by simpa using g1, by simpa using g2, g3, by simp [lookE, hq', g4], fun v => by simp [putE, hq', g5], ?_⟩
        rw [run, g6, Nat.add_assoc, Nat.add_comm 1 j]

theorem same_key {d : TypeDesc} (hd : P.underlying t = some d) (hk : flatK P 16 t = some ks) {a b : EV} (ha : keyFit ag ks a = true) (hb : keyFit ag ks b = true) :
    Instr.sameNow d (keyV P t a) (keyV P t b) = some (eqL a.cells b.cells) ∨ ∀ x y, Instr.sameNow d x y = none := by
  have fa := keyFit_cells ha
  have fb := keyFit_cells hb
  unfold flatK at hk
  rw [hd] at hk
  unfold keyV valT
  rw [hd]
  cases d <;> simp only [Option.some.injEq, reduceCtorEq] at hk <;> try (exact .inr fun x y => rfl)
  · subst hk
    generalize a.cells = ca at fa
    generalize b.cells = cb at fb
    match ca, cb, fa, fb with
    | [.bool x], [.bool y], _, _ => exact .inl (by simp [toVal, Instr.sameNow, eqL, sceq])
  · rename_i q
    subst hk
    have one : ∀ {xs : List EV}, fits [.i q] xs = true → ∃ a, xs = [.int q a] := by
      intro xs h
      cases xs with
      | nil => simp [fits] at h
      | cons x xs =>
        cases xs with
        | nil =>
          cases x <;> simp [fits, fit] at h
          subst h; exact ⟨_, rfl⟩
        | cons y ys => simp [fits] at h
    obtain ⟨x, hx⟩ := one fa
    obtain ⟨y, hy⟩ := one fb
    rw [hx, hy]
    exact .inl (by simp [toVal, Instr.sameNow, eqL, sceq])
  · subst hk
    generalize a.cells = ca at fa
    generalize b.cells = cb at fb
    match ca, cb, fa, fb with
    | [.str x], [.str y], _, _ => exact .inl (by simp [toVal, Instr.sameNow, eqL, sceq, sceq_bytes])

theorem now {d : TypeDesc} (hd : P.underlying t = some d) (hk : flatK P 16 t = some ks) (ha : keyFit ag ks k = true) : ∀ (l : List MapEntry) (es : List (EV × EV)) (i : Nat), l.length = es.length → fitsAll ag ks es = true →
    (∀ (j : Nat) (m : MapEntry) (e : EV × EV), l[j]? = some m → es[j]? = some e → m.key = keyV P t e.1) →
    Instr.findNow d (keyV P t k) l i = none ∨ (lookE k es = none ∧ Instr.findNow d (keyV P t k) l i = some none) ∨
    (∃ j m e, l[j]? = some m ∧ es[j]? = some e ∧ eqL k.cells e.1.cells = true ∧ lookE k es = some e.2 ∧ (∀ v, putE k v es = es.set j (k, v)) ∧ Instr.findNow d (keyV P t k) l i = some (some (i + j, m.val)))
  | [], [], i, _, _, _ => .inr (.inl ⟨rfl, rfl⟩)
  | [], _ :: _, _, h, _, _ => by simp at h
  | _ :: _, [], _, h, _, _ => by simp at h
  | m :: l, e :: es, i, h, hf, hm => by
    simp only [fitsAll, List.all_cons, Bool.and_eq_true] at hf
    have h0 := hm 0 m e rfl rfl
    rcases same_key hd hk ha hf.1 with he | he
    · rw [← h0] at he
      by_cases hq : eqL k.cells e.1.cells = true
      · refine .inr (.inr ⟨0, m, e, rfl, rfl, hq, by simp [lookE, hq], fun v => by simp [putE, hq], ?_⟩)
        rw [hq] at he
        simp [Instr.findNow, he]
      · have hq' : eqL k.cells e.1.cells = false := by simpa using hq
        rw [hq'] at he
        have run : Instr.findNow d (keyV P t k) (m :: l) i = Instr.findNow d (keyV P t k) l (i + 1) := by
          simp [Instr.findNow, he]
        rcases now hd hk ha l es (i + 1) (by simpa using h) hf.2 (fun j m e h1 h2 => hm (j + 1) m e (by simpa using h1) (by simpa using h2)) with g | ⟨g1, g3⟩ | ⟨j, m', e', g1, g2, gq, g4, g5, g6⟩
        · exact .inl (run.trans g)
        · exact .inr (.inl ⟨by simp [lookE, hq', g1], by rw [run, g3]⟩)
        · refine .inr (.inr ⟨j + 1, m', e', by simpa using g1, by simpa using g2, gq, by simp [lookE, hq', g4], fun v => by simp [putE, hq', g5], ?_⟩)
          rw [run, g6, Nat.add_assoc, Nat.add_comm 1 j]
    · left
      simp [Instr.findNow, he]

/-- Finding a key. -/
theorem find_key {d : TypeDesc} (hd : P.underlying t = some d) (hk : flatK P 16 t = some ks) (ha : keyFit ag ks k = true) (w : World) (l : List MapEntry) (es : List (EV × EV)) (hl : l.length = es.length) (hf : fitsAll ag ks es = true)
    (hm : ∀ (j : Nat) (m : MapEntry) (e : EV × EV), l[j]? = some m → es[j]? = some e → m.key = keyV P t e.1) :
    (lookE k es = none ∧ (∀ v, putE k v es = es ++ [(k, v)]) ∧ (Instr.findKey t (keyV P t k) l).run P w = .ok none w) ∨
    (∃ j m e, l[j]? = some m ∧ es[j]? = some e ∧ eqL k.cells e.1.cells = true ∧ lookE k es = some e.2 ∧ (∀ v, putE k v es = es.set j (k, v)) ∧ (Instr.findKey t (keyV P t k) l).run P w = .ok (some (j, m.val)) w) := by
  have hA := asking hk ha w l es 0 hl hf hm
  rcases now hd hk ha l es 0 hl hf hm with g | ⟨g1, g2⟩ | ⟨j, m, e, g1, g2, gq, g4, g5, g6⟩
  · have run : (Instr.findKey t (keyV P t k) l).run P w = (Instr.findAsking t (keyV P t k) l 0).run P w := by
      simp [Instr.findKey, run_underlying hd, g]
    rcases hA with ⟨a1, a2, a3⟩ | ⟨j, m, e, a1, a2, a3, a4, a5, a6⟩
    · exact .inl ⟨a1, a2, run.trans a3⟩
    · exact .inr ⟨j, m, e, a1, a2, a3, a4, a5, by rw [run, a6, Nat.zero_add]⟩
  · have run : (Instr.findKey t (keyV P t k) l).run P w = .ok none w := by
      simp [Instr.findKey, run_underlying hd, g2]
    rcases hA with ⟨a1, a2, a3⟩ | ⟨j, m, e, a1, a2, a3, a4, a5, a6⟩
    · exact .inl ⟨a1, a2, run⟩
    · rw [g1] at a4; simp at a4
  · have run : (Instr.findKey t (keyV P t k) l).run P w = .ok (some (j, m.val)) w := by
      simp [Instr.findKey, run_underlying hd, g6]
    exact .inr ⟨j, m, e, g1, g2, gq, g4, g5, run⟩

theorem look_put_self (v : EV) : ∀ (es : List (EV × EV)), eqL k.cells k.cells = true → lookE k (putE k v es) = some v
  | [], h => by simp [putE, lookE, h]
  | e :: es, h => by
    by_cases hq : eqL k.cells e.1.cells = true
    · simp [putE, lookE, hq, h]
    · simp only [putE, if_neg hq, lookE]
      exact look_put_self v es h

/-- A map's block, changed. -/
theorem setMap_other {w : World} {g B : Nat} {o : Obj} (h : B ≠ g) : ({ w with heap := w.heap.setIfInBounds g o } : World).heap[B]? = w.heap[B]? := by
  simp [Array.getElem?_setIfInBounds, Ne.symm h]

theorem setMap_self {w : World} {g : Nat} {o : Obj} (h : g < w.heap.size) : ({ w with heap := w.heap.setIfInBounds g o } : World).heap[g]? = some o := by
  simp [h]

theorem shape_setMap {w : World} {g B : Nat} {ms ms' : Array MapEntry} {c c' : Nat} (hg : w.heap[g]? = some (.map ms c)) :
    ({ w with heap := w.heap.setIfInBounds g (.map ms' c') } : World).shape? B = w.shape? B := by
  have hlt : g < w.heap.size := (Array.getElem?_eq_some_iff.1 hg).1
  by_cases e : B = g
  · subst e
    have h1 := setMap_self (w := w) (o := .map ms' c') hlt
    simp only [World.shape?]
    simp only at h1
    rw [h1, hg]
  · have h1 := setMap_other (w := w) (o := .map ms' c') e
    simp only [World.shape?]
    simp only at h1
    rw [h1]

theorem evo_setMap {φ : Nat → Nat} {I : Nat → Prop} {H : Heap} {w : World} {b : Nat} {x y : EB} {ms ms' : Array MapEntry} {c c' : Nat}
    (hb : H[b]? = some (some x)) (hg : w.heap[φ b]? = some (.map ms c)) : Evo φ I H w φ I (H.set b (some y)) { w with heap := w.heap.setIfInBounds (φ b) (.map ms' c') } where
  size := by simp
  shape B _ := shape_setMap hg
  keep B _ hn := setMap_other fun e => hn ⟨b, x, hb, e.symm⟩
  imm B h := h
  phi i _ := rfl
  len := by simp
  own B h := by
    obtain ⟨k, z, hk, e⟩ := h
    by_cases hkb : b = k
    · subst hkb; exact .inl ⟨b, x, hb, e⟩
    · rw [List.getElem?_set_ne hkb] at hk; exact .inl ⟨k, z, hk, e⟩
  immf B h := .inl h
  tape := rfl
  os := rfl
  out := rfl
  froz a _ := by
    unfold World.frozen?
    by_cases e : a.block = φ b
    · rw [e, setMap_self (Array.getElem?_eq_some_iff.1 hg).1, hg]
    · rw [setMap_other e]

theorem rh_setMap {γ : Nat → EV} {φ : Nat → Nat} {I : Nat → Prop} {H : Heap} {w : World} {b : Nat} {x y : EB} {ms ms' : Array MapEntry} {c c' : Nat}
    (h : RH γ φ I H w) (hb : H[b]? = some (some x)) (hg : w.heap[φ b]? = some (.map ms c))
    (hy : RB φ H.length I { w with heap := w.heap.setIfInBounds (φ b) (.map ms' c') } (φ b) y) : RH γ φ I (H.set b (some y)) { w with heap := w.heap.setIfInBounds (φ b) (.map ms' c') } where
  glob g := (h.glob g).mono (Nat.le_refl 0) (fun i hi => absurd hi (Nat.not_lt_zero i)) (fun _ h => h)
    (fun B hB => setMap_other (g := φ b) fun e => h.dis b x hb (e ▸ hB)) (fun b hb => absurd hb (Nat.not_lt_zero b))
  blk k z hk := by
    rw [List.length_set]
    by_cases hkb : b = k
    · subst hkb
      rw [List.getElem?_set_self (get_lt hb)] at hk
      simp only [Option.some.injEq] at hk
      exact hk ▸ hy
    · rw [List.getElem?_set_ne hkb] at hk
      exact (h.blk k z hk).mono (Nat.le_refl _) (fun _ _ => rfl) (fun _ h => h) (fun B hB => setMap_other (g := φ b) fun e => h.dis b x hb (e ▸ hB))
        (fun _ _ _ _ hs' => (shape_setMap hg).trans hs') (setMap_other fun e => hkb (h.inj b k x z hb hk e.symm))
  inj k k' z z' hk hk' e := by
    have f : ∀ {k : Nat} {z : EB}, (H.set b (some y))[k]? = some (some z) → ∃ z', H[k]? = some (some z') := fun {k z} hk => by
      by_cases hkb : b = k
      · subst hkb; exact ⟨x, hb⟩
      · rw [List.getElem?_set_ne hkb] at hk; exact ⟨z, hk⟩
    obtain ⟨u, hu⟩ := f hk
    obtain ⟨u', hu'⟩ := f hk'
    exact h.inj k k' u u' hu hu' e
  imm B hB := by have := h.imm B hB; simpa using this
  dis k z hk := by
    by_cases hkb : b = k
    · subst hkb; exact h.dis b x hb
    · rw [List.getElem?_set_ne hkb] at hk; exact h.dis k z hk
  lt k z hk := by
    by_cases hkb : b = k
    · subst hkb; simpa using h.lt b x hb
    · rw [List.getElem?_set_ne hkb] at hk; simpa using h.lt k z hk

theorem ok_sound {z : EV} {v : Value} {b ok : Bool} (h : RV φ N I w z v) : RV φ N I w (if ok then .tup [z, .bool b] else z) (if ok then .tuple #[v, .bool b] else v) := by
  cases ok
  · exact h
  · refine .tup _ _ rfl fun k x u hx hu => ?_
    match k, hx, hu with
    | 0, hx, hu => simp at hx hu; subst hx hu; exact h
    | 1, hx, hu => simp at hx hu; subst hx hu; exact .bool b
    | k + 2, hx, hu => simp at hx

theorem check_key (hk : flatK P 16 t = some ks) (ha : keyFit ag ks k = true) (em : Bool) (w : World) : (Instr.checkKey em 10000 t (keyV P t k)).run P w = .ok () w :=
  checkTy (P := P) em 9984 16 t ks hk k.cells w (keyFit_cells ha)

theorem sameBits_key (ha : keyFit ag ks k = true) (hd : ∃ d, P.underlying t = some d ∧ aggD d = ag) (hk : flatK P 16 t = some ks) : Instr.sameBits 10000 (keyV P t k) (keyV P t k) = true := by
  have hc := keyFit_cells ha
  have one : ∀ (n : Nat) (q : SK) (x : EV), fit q x = true → Instr.sameBits n (toVal x) (toVal x) = true := by
    intro n q x h
    cases q <;> cases x <;> simp [fit] at h <;> simp [toVal, Instr.sameBits, sceq_bytes]
  have all : ∀ (n : Nat) (ks : List SK) (xs : List EV), fits ks xs = true → ((xs.map toVal).zip (xs.map toVal)).all (fun (x, y) => Instr.sameBits n x y) = true := by
    intro n ks
    induction ks with
    | nil => intro xs h; cases xs <;> simp [fits] at h ⊢
    | cons q ks ih =>
      intro xs h
      cases xs with
      | nil => simp [fits] at h
      | cons x xs =>
        simp only [fits, Bool.and_eq_true] at h
        simp only [List.map_cons, List.zip_cons_cons, List.all_cons, Bool.and_eq_true]
        exact ⟨one n q x h.1, ih xs h.2⟩
  obtain ⟨d, hu, hag⟩ := hd
  unfold keyV
  by_cases hag' : aggD d = true
  · rw [valT_agg ⟨d, hu, hag'⟩]
    have := all 9999 ks k.cells hc
    show (_ && _) = true
    simpa using this
  · unfold valT
    rw [hu]
    have hl : ks.length = 1 := by
      obtain ⟨d', hu', h1⟩ := flatK_info hk
      rw [hu] at hu'
      simp only [Option.some.injEq] at hu'
      subst hu'
      exact h1 (by simpa using hag')
    have hl2 := fits_len hc
    rw [hl] at hl2
    generalize k.cells = cs at hc hl2
    match cs, ks, hc, hl2 with
    | [x], [q], hc, _ =>
      simp only [fits, Bool.and_eq_true] at hc
      have := one 10000 q x hc.1
      cases d <;> first | exact this | exact absurd rfl hag'

theorem lookup_sound {γ : Nat → EV} {H : Heap} (hr : RH γ φ I H w) {mt e : TypeId} (hm : P.underlying mt = some (.map t e)) (hd : ∃ d, P.underlying t = some d ∧ aggD d = ag) (hk : flatK P 16 t = some ks)
    {z x v : EV} {vz vx vk : Value} {ok : Bool} (hz : (zeroValue e).run P w = .ok vz w) (hzr : RV φ H.length I w z vz) (hx : RV φ H.length I w x vx) (hkr : RV φ H.length I w k vk) (hev : evLookup ag ks z ok x k H = some v) :
    ∃ val, (Instr.lookup mt vx vk ok).run P w = .ok val w ∧ RV φ H.length I w v val := by
  unfold evLookup at hev
  split at hev
  · cases hx
    split at hev
    · rename_i hf
      simp only [Option.some.injEq] at hev; subst hev
      have e1 := rv_key hd hf hkr
      subst e1
      obtain ⟨d, hd, _⟩ := hd
      rcases find_key hd hk hf w [] [] rfl rfl (by simp) with ⟨g1, g2, g3⟩ | ⟨j, m, e, g1, _⟩
      · refine ⟨if ok then .tuple #[vz, .bool false] else vz, ?_, ok_sound hzr⟩
        simp [Instr.lookup, run_underlying hm, check_key hk hf, g3, hz]
      · simp at g1
    · simp at hev
  · rename_i b
    cases hx
    split at hev
    · rename_i es hH
      split at hev
      · rename_i hf
        simp only [Bool.and_eq_true] at hf
        have e1 := rv_key hd hf.1 hkr
        subst e1
        obtain ⟨ms, clock, hB, hsz, hes⟩ := hr.blk b _ hH
        have hkeys : ∀ (j : Nat) (m : MapEntry) (e : EV × EV), ms.toList[j]? = some m → es[j]? = some e → m.key = keyV P t e.1 := fun j m e h1 h2 =>
          rv_key hd (List.all_eq_true.1 hf.2 e (List.mem_of_getElem? h2)) (hes j e m h2 (by simpa using h1)).1
        obtain ⟨d, hd, _⟩ := hd
        rcases find_key hd hk hf.1 w ms.toList es (by simpa using hsz) hf.2 hkeys with ⟨g1, g2, g3⟩ | ⟨j, m, e, g1, g2, g3, g4, g5, g6⟩
        · rw [g1] at hev
          simp only [Option.some.injEq] at hev; subst hev
          refine ⟨if ok then .tuple #[vz, .bool false] else vz, ?_, ok_sound hzr⟩
          simp [Instr.lookup, run_underlying hm, Go.MapKept.run_getObj_map hB, check_key hk hf.1, g3, hz]
        · rw [g4] at hev
          simp only [Option.some.injEq] at hev; subst hev
          refine ⟨if ok then .tuple #[m.val, .bool true] else m.val, ?_, ok_sound (hes j e m g2 (by simpa using g1)).2⟩
          simp [Instr.lookup, run_underlying hm, Go.MapKept.run_getObj_map hB, check_key hk hf.1, g6]
      · simp at hev
    · simp at hev
  · simp at hev

theorem mapset_sound {γ : Nat → EV} {H H' : Heap} (hr : RH γ φ I H w) {mt e : TypeId} (hm : P.underlying mt = some (.map t e)) (hd : ∃ d, P.underlying t = some d ∧ aggD d = ag) (hk : flatK P 16 t = some ks)
    {x v : EV} {vx vk vv : Value} (hx : RV φ H.length I w x vx) (hkr : RV φ H.length I w k vk) (hv : RV φ H.length I w v vv) (hev : evMapset ag ks x k v H = some H') :
    ∃ w', (Instr.mapUpdate mt vx vk vv).run P w = .ok () w' ∧ Evo φ I H w φ I H' w' ∧ RH γ φ I H' w' := by
  unfold evMapset at hev
  split at hev
  · rename_i b
    cases hx
    split at hev
    · rename_i es hH
      split at hev
      · rename_i hf
        simp only [Bool.and_eq_true] at hf
        simp only [Option.some.injEq] at hev; subst hev
        have e1 := rv_key hd hf.1 hkr
        obtain ⟨ms, clock, hB, hsz, hes⟩ := hr.blk b _ hH
        have hkeys : ∀ (j : Nat) (m : MapEntry) (e : EV × EV), ms.toList[j]? = some m → es[j]? = some e → m.key = keyV P t e.1 := fun j m e h1 h2 =>
          rv_key hd (List.all_eq_true.1 hf.2 e (List.mem_of_getElem? h2)) (hes j e m h2 (by simpa using h1)).1
        have hbits := sameBits_key (P := P) (t := t) hf.1 hd hk
        obtain ⟨d, hud, hdd⟩ := hd
        have hlt : φ b < w.heap.size := hr.lt b _ hH
        rcases find_key hud hk hf.1 w ms.toList es (by simpa using hsz) hf.2 hkeys with ⟨g1, g2, g3⟩ | ⟨j, m, e, g1, g2, g3, g4, g5, g6⟩
        · refine ⟨{ w with heap := w.heap.setIfInBounds (φ b) (.map (ms.push { key := vk, val := vv, born := clock }) (clock + 1)) }, ?_, evo_setMap hH hB, rh_setMap hr hH hB ?_⟩
          · subst e1
            simp [Instr.mapUpdate, run_underlying hm, Go.MapKept.run_getObj_map hB, check_key hk hf.1, g3, Go.MapKept.run_setObj_map _ hB]
          · have step : ∀ {x : EV} {u : Value}, RV φ H.length I w x u → RV φ H.length I { w with heap := w.heap.setIfInBounds (φ b) (.map (ms.push { key := vk, val := vv, born := clock }) (clock + 1)) } x u := fun {x u} h => by
              have := (evo_setMap (I := I) (y := EB.map es) (ms' := ms.push { key := vk, val := vv, born := clock }) (c' := clock + 1) hH hB).rv hr h
              simpa using this
            refine ⟨_, _, setMap_self hlt, by simp [g2, hsz], fun i e m he hm => ?_⟩
            rw [g2] at he
            by_cases hi : i < es.length
            · rw [List.getElem?_append_left hi] at he
              rw [Array.getElem?_push, if_neg (by omega)] at hm
              exact ⟨step (hes i e m he hm).1, step (hes i e m he hm).2⟩
            · have hi2 := get_lt he
              simp at hi2
              obtain rfl : i = es.length := by omega
              simp at he
              rw [Array.getElem?_push, if_pos (by omega)] at hm
              simp at hm
              subst he hm
              exact ⟨step hkr, step hv⟩
        · refine ⟨{ w with heap := w.heap.setIfInBounds (φ b) (.map (ms.modify j fun e => { e with key := vk, val := vv }) clock) }, ?_, evo_setMap hH hB, rh_setMap hr hH hB ?_⟩
          · have hmk : m.key = keyV P t e.1 := hkeys j m e g1 g2
            subst e1
            have hme : m.key = keyV P t k := by
              have hfe := List.all_eq_true.1 hf.2 e (List.mem_of_getElem? g2)
              rw [hmk, keyV, keyV, eqL_eq (keyFit_cells hf.1) (keyFit_cells hfe) g3]
            have g1' : ms[j]? = some m := by simpa using g1
            simp [Instr.mapUpdate, run_underlying hm, Go.MapKept.run_getObj_map hB, check_key hk hf.1, g6, g1', hme, Instr.keyThatStays, hbits, Go.MapKept.run_setObj_map _ hB]
          · have step : ∀ {x : EV} {u : Value}, RV φ H.length I w x u → RV φ H.length I { w with heap := w.heap.setIfInBounds (φ b) (.map (ms.modify j fun e => { e with key := vk, val := vv }) clock) } x u := fun {x u} h => by
              have := (evo_setMap (I := I) (y := EB.map es) (ms' := ms.modify j fun e => { e with key := vk, val := vv }) (c' := clock) hH hB).rv hr h
              simpa using this
            refine ⟨_, _, setMap_self hlt, by simp [g5, hsz], fun i e' m' he hm => ?_⟩
            rw [g5] at he
            rw [Array.getElem?_modify] at hm
            by_cases hi : j = i
            · subst hi
              rw [List.getElem?_set_self (get_lt g2)] at he
              simp only [Option.some.injEq] at he
              subst he
              simp only [if_true, Option.map_eq_some_iff] at hm
              obtain ⟨m0, _, rfl⟩ := hm
              exact ⟨step hkr, step hv⟩
            · rw [List.getElem?_set_ne hi] at he
              rw [if_neg hi] at hm
              exact ⟨step (hes i e' m' he hm).1, step (hes i e' m' he hm).2⟩
      · simp at hev
    · simp at hev
  · simp at hev

/-- A new map. -/
theorem makeMap_sound {γ : Nat → EV} {H : Heap} (hr : RH γ φ I H w) (mt : TypeId) :
    ∃ φ' w', (Instr.makeMap mt none).run P w = .ok (.map (some w.heap.size)) w' ∧ Evo φ I H w φ' I (H ++ [some (.map [])]) w' ∧ RH γ φ' I (H ++ [some (.map [])]) w' ∧
      RV φ' (H ++ [some (EB.map [])]).length I w' (.map H.length) (.map (some w.heap.size)) := by
  refine ⟨up φ H.length w.heap.size, w.alloc (.map #[] 0), by simp [Instr.makeMap, run_newObj], evo_alloc .., rh_alloc hr ⟨#[], 0, alloc_new .., rfl, by simp⟩, ?_⟩
  have := RV.map (φ := up φ H.length w.heap.size) (N := (H ++ [some (EB.map [])]).length) (I := I) (w := w.alloc (.map #[] 0)) H.length (by simp)
  rwa [up_eq] at this

end
end Abs

namespace Abs
open Go

section
variable {P : Program} {w : World} {t u ty e : TypeId} {i : TypeInfo} {d : TypeDesc} {z vy : Value} {m : Nat} {news : List Value}

theorem run_app_nil0 (ht : P.underlying t = some (.slice e)) (hu : P.underlying u = some d) (hd : ∀ k, d ≠ .int k) (hi : P.info? e = some i) (hlen : (Builtin.lenOf vy).run P w = .ok 0 w)
    (hnews : ∀ w', w'.heap = w.heap → (Builtin.firstCells i.size 0 vy).run P w' = .ok #[] w') : (Builtin.append_ #[t, u] ty #[.slice none 0 0, vy]).run P w = .ok (.slice none 0 0) w := by
  simp [Builtin.append_, run_underlying ht, run_underlying hu, Go.sizeOf, typeInfo, hi, hlen, hnews w rfl]

theorem run_app_nil (ht : P.underlying t = some (.slice e)) (hu : P.underlying u = some d) (hd : ∀ k, d ≠ .int k) (hi : P.info? e = some i) (hz : i.zero = some z) (hlen : (Builtin.lenOf vy).run P w = .ok m w)
    (hnews : ∀ w', w'.heap = w.heap → (Builtin.firstCells i.size m vy).run P w' = .ok news.toArray w') (h0 : 0 < m) (h63 : m ≤ 9223372036854775807) (h48 : m * i.bytes ≤ 140737488355328) :
    (Builtin.append_ #[t, u] ty #[.slice none 0 0, vy]).run P w =
      .ok (.slice (some ⟨w.heap.size, 0, none⟩) m (grownCap w m 0 e)) (w.drew.alloc (.cells (news.toArray ++ Builtin.zeroCells z.cells (grownCap w m 0 e - m)) e)) := by
  have hn : m ≠ 0 := by omega
  have h63' : ¬ (9223372036854775807 < (m : Int)) := by omega
  have h48' : ¬ (281474976710656 < Builtin.nextslicecap m 0 * i.bytes) := by rw [nextslicecap_zero h0]; omega
  have hf := hnews w.drew rfl
  simp [Builtin.append_, run_underlying ht, run_underlying hu, Go.sizeOf, typeInfo, zeroValue, hi, hz, hlen, hn, h63', h48', Question.forced, run_firstCells_none, hf, newRow, grownCap]

theorem run_app_room (ht : P.underlying t = some (.slice e)) (hu : P.underlying u = some d) (hd : ∀ k, d ≠ .int k) (hi : P.info? e = some i) (hlen : (Builtin.lenOf vy).run P w = .ok m w) {a : Addr} {n cap : Nat} {w1 : World}
    (hnews : ∀ w', w'.heap = w.heap → (Builtin.firstCells i.size m vy).run P w' = .ok news.toArray w') (hroom : n + m ≤ cap) (hst : (storeCells (a.add (n * i.size)) news).run P w = .ok () w1) :
    (Builtin.append_ #[t, u] ty #[.slice (some a) n cap, vy]).run P w = .ok (.slice (some a) (n + m) cap) w1 := by
  simp [Builtin.append_, run_underlying ht, run_underlying hu, Go.sizeOf, typeInfo, hi, hlen, hroom, hnews w rfl, hst]

theorem run_app_grow (ht : P.underlying t = some (.slice e)) (hu : P.underlying u = some d) (hd : ∀ k, d ≠ .int k) (hi : P.info? e = some i) (hz : i.zero = some z) (hlen : (Builtin.lenOf vy).run P w = .ok m w) {a : Addr} {n cap : Nat} {olds : List Value}
    (hold : ∀ w', w'.heap = w.heap → (Builtin.firstCells i.size n (.slice (some a) n cap)).run P w' = .ok olds.toArray w')
    (hnews : ∀ w', w'.heap = w.heap → (Builtin.firstCells i.size m vy).run P w' = .ok news.toArray w') (hg : cap < n + m) (h63 : n + m ≤ 9223372036854775807) (h48 : (n + m) * i.bytes ≤ 140737488355328) :
    (Builtin.append_ #[t, u] ty #[.slice (some a) n cap, vy]).run P w =
      .ok (.slice (some ⟨w.heap.size, 0, none⟩) (n + m) (grownCap w (n + m) cap e)) (w.drew.alloc (.cells (olds.toArray ++ news.toArray ++ Builtin.zeroCells z.cells (grownCap w (n + m) cap e - (n + m))) e)) := by
  have hn : ¬ (n + m ≤ cap) := by omega
  have h63' : ¬ (9223372036854775807 < ((n : Int) + (m : Int))) := by omega
  have h48' : ¬ (281474976710656 < Builtin.nextslicecap (n + m) cap * i.bytes) := by
    have := growslice_fits (show cap < n + m by omega) h48
    omega
  simp [Builtin.append_, run_underlying ht, run_underlying hu, Go.sizeOf, typeInfo, zeroValue, hi, hz, hlen, hn, h63', h48', Question.forced, hold w.drew rfl, hnews w.drew rfl, newRow, grownCap]
  congr 2
  apply Array.ext'
  simp [List.append_assoc]
end

section
variable {P : Program} {γ : Nat → EV} {φ : Nat → Nat} {N : Nat} {I : Nat → Prop} {H : Heap} {w : World}

/-- The cells of a slice's or a string's elements. -/
theorem elems_cells (hr : RH γ φ I H w) {y : EV} {es : List EV} (h : elems H y = some es) {vy : Value} (hy : RV φ H.length I w y vy) {sz : Nat} (h0 : 0 < sz) (hsz : ∀ x ∈ es, x.cells.length = sz) :
    ∃ news : List Value, (Builtin.lenOf vy).run P w = .ok es.length w ∧ (∀ w', w'.heap = w.heap → (Builtin.firstCells sz es.length vy).run P w' = .ok news.toArray w') ∧ RowC φ H.length I w sz es news := by
  have part : ∀ (B o len cap : Nat) (c : Array Value) (T : TypeId) (fr : Nat × Nat), w.heap[B]? = some (.cells c T fr) → o + es.length * sz ≤ c.size → len = es.length →
      (∀ (i j : Nat) (x y : EV) (v : Value), es[i]? = some x → x.cells[j]? = some y → c[o + i * sz + j]? = some v → RV φ H.length I w y v) →
      ∃ news : List Value, (Builtin.lenOf (.slice (some ⟨B, o, none⟩) len cap)).run P w = .ok es.length w ∧ (∀ w', w'.heap = w.heap → (Builtin.firstCells sz es.length (.slice (some ⟨B, o, none⟩) len cap)).run P w' = .ok news.toArray w') ∧ RowC φ H.length I w sz es news := by
    intro B o len cap c T fr hB hs hl hv
    subst hl
    refine ⟨(c.toList.drop o).take (es.length * sz), by simp [Builtin.lenOf], fun w' hw => ?_, ?_, hsz, fun i j x y v hx hy hv' => ?_⟩
    · exact run_cells P (w := w') (by rw [hw]; exact hB) hs
    · simp; omega
    · have hi := get_lt hx
      have hj := get_lt hy
      have hxs := hsz x (List.mem_of_getElem? hx)
      have hlt : i * sz + j < es.length * sz := mul_add_lt (by omega) hi
      rw [List.getElem?_take_of_lt hlt, List.getElem?_drop] at hv'
      exact hv i j x y v hx hy (by rw [Nat.add_assoc]; simpa using hv')
  have empty : es = [] → ∀ a, vy = .slice (some a) 0 0 → ∃ news : List Value, (Builtin.lenOf vy).run P w = .ok es.length w ∧ (∀ w', w'.heap = w.heap → (Builtin.firstCells sz es.length vy).run P w' = .ok news.toArray w') ∧ RowC φ H.length I w sz es news := by
    rintro rfl a rfl
    refine ⟨[], by simp [Builtin.lenOf], fun w' hw => ?_, by simp, by simp, by simp⟩
    simp [Builtin.firstCells, loadCells, loadCellsFrom]
  unfold elems at h
  split at h
  · simp only [Option.some.injEq] at h; subst h
    cases hy
    exact ⟨[], by simp [Builtin.lenOf], fun w' _ => by simp [Builtin.firstCells], by simp, by simp, by simp⟩
  · simp only [Option.some.injEq] at h; subst h
    cases hy with
    | zsl a => exact empty rfl a rfl
  · rename_i sz' es'
    simp only [Option.some.injEq] at h; subst h
    cases hy with
    | imm0 _ a => exact empty rfl a rfl
    | imm _ _ B o cap c T fr hI hB hs hc hz hv =>
      by_cases hes : es' = []
      · subst hes
        refine ⟨[], by simp [Builtin.lenOf], fun w' hw => ?_, by simp, by simp, by simp⟩
        simp [Builtin.firstCells, loadCells, loadCellsFrom]
      · obtain ⟨x, hx⟩ := List.exists_mem_of_ne_nil _ hes
        have e : sz' = sz := (hz x hx).symm.trans (hsz x hx)
        subst e
        exact part B o _ cap c T fr hB hs rfl hv
  · rename_i b sz' off len
    split at h
    · rename_i sz2 es' hb
      split at h
      · rename_i hcond
        obtain ⟨rfl, hlen⟩ := hcond
        simp only [Option.some.injEq] at h; subst h
        obtain ⟨c, T, hB, hc1, hc2, hc3⟩ := hr.blk b _ hb
        have hl : ((es'.drop off).take len).length = len := by simp; omega
        cases hy with
        | own0 _ _ _ a hbb => exact empty (by simp) a rfl
        | own _ _ _ _ cap n T' hbb hsh hn hcap =>
          by_cases hl0 : len = 0
          · subst hl0
            refine ⟨[], by simp [Builtin.lenOf], fun w' hw => ?_, by simp, by simp, by simp⟩
            simp [Builtin.firstCells, loadCells, loadCellsFrom]
          · have hx : es'[off]'(by omega) ∈ (es'.drop off).take len := List.mem_iff_getElem.2 ⟨0, by rw [hl]; omega, by simp⟩
            have e : sz' = sz := (hc2 _ (List.getElem_mem (by omega))).symm.trans (hsz _ hx)
            subst e
            refine part (φ b) (off * sz') len cap c T (0, 0) hB ?_ hl.symm fun i j x y v hx hy hv => ?_
            · rw [hl, ← Nat.add_mul]
              exact Nat.le_trans (Nat.mul_le_mul_right _ hlen) hc1
            · have hi := get_lt hx
              rw [hl] at hi
              rw [List.getElem?_take_of_lt hi, List.getElem?_drop] at hx
              exact hc3 (off + i) j x y v hx hy (by rw [Nat.add_mul]; exact hv)
      · simp at h
    · simp at h
  · rename_i s
    simp only [Option.some.injEq] at h; subst h
    cases hy
    by_cases hs : s = []
    · subst hs
      refine ⟨[], ?_, fun w' _ => by simp [Builtin.firstCells], by simp, by simp, by simp⟩
      show Result.ok _ w = _
      rfl
    · obtain ⟨b, hb⟩ := List.exists_mem_of_ne_nil _ hs
      have hs1 : (EV.int .u8 (b.toNat : Int)).cells.length = sz := hsz _ (List.mem_map.2 ⟨b, hb, rfl⟩)
      have hs1 : sz = 1 := hs1.symm
      subst hs1
      refine ⟨s.map fun b => .int .u8 (b.toNat : Int), by simp [Builtin.lenOf, bytes_size], fun w' _ => ?_, by simp, hsz, fun i j x y v hx hy hv => ?_⟩
      · simp only [Builtin.firstCells, Sem.run_pure]
        congr 1
        apply Array.ext'
        simp [ByteArray.data_extract]
      · simp only [List.getElem?_map, Option.map_eq_some_iff] at hx
        obtain ⟨b, hb, rfl⟩ := hx
        have hj := get_lt hy
        simp [EV.cells] at hj
        subst hj
        simp [EV.cells] at hy
        subst hy
        simp [hb] at hv
        subst hv
        exact .int _ _
  · simp at h

theorem RH.kill {b : Nat} (h : RH γ φ I H w) : RH γ φ I (H.set b none) w := by
  have old : ∀ {k : Nat} {x : EB}, (H.set b none)[k]? = some (some x) → H[k]? = some (some x) := fun {k x} hk => by
    by_cases e : b = k
    · subst e
      have hb := get_lt hk
      rw [List.getElem?_set_self (by simpa using hb)] at hk
      simp at hk
    · rwa [List.getElem?_set_ne e] at hk
  exact ⟨h.glob, fun k x hk => by rw [List.length_set]; exact h.blk k x (old hk), fun k k' x x' hk hk' e => h.inj k k' x x' (old hk) (old hk') e, h.imm, fun k x hk => h.dis k x (old hk), fun k x hk => h.lt k x (old hk)⟩

theorem Evo.kill {b : Nat} : Evo φ I H w φ I (H.set b none) w :=
  ⟨Nat.le_refl _, fun _ _ => rfl, fun _ _ _ => rfl, fun _ h => h, fun _ _ => rfl, by simp, fun B h => by
    obtain ⟨k, x, hk, e⟩ := h
    by_cases eb : b = k
    · subst eb
      have hb := get_lt hk
      rw [List.getElem?_set_self (by simpa using hb)] at hk
      simp at hk
    · rw [List.getElem?_set_ne eb] at hk
      exact .inl ⟨k, x, hk, e⟩, fun _ h => .inl h, rfl, rfl, rfl, fun _ _ => rfl⟩

theorem RV.drew {x : EV} {v : Value} (h : RV φ N I w x v) : RV φ N I w.drew x v :=
  RV.mono (w := w) (w' := w.drew) (Nat.le_refl _) (fun _ _ => rfl) (fun _ h => h) (fun _ _ => rfl) (fun _ _ _ _ h => h) h
theorem RH.drew (h : RH γ φ I H w) : RH γ φ I H w.drew :=
  ⟨fun g => (h.glob g).drew, fun b x hb => RB.mono (w := w) (w' := w.drew) (Nat.le_refl _) (fun _ _ => rfl) (fun _ h => h) (fun _ _ => rfl) (fun _ _ _ _ h => h) rfl (h.blk b x hb), h.inj, h.imm, h.dis, h.lt⟩
theorem evo_drew : Evo φ I H w φ I H w.drew := ⟨Nat.le_refl _, fun _ _ => rfl, fun _ _ _ => rfl, fun _ h => h, fun _ _ => rfl, Nat.le_refl _, fun _ h => .inl h, fun _ h => .inl h, rfl, rfl, rfl, fun _ _ => rfl⟩

/-- A new row with room behind it. -/
theorem row_new (hr : RH γ φ I H w) {e : TypeId} {sz cap : Nat} {es : List EV} {news rest : List Value} (hrow : RowC φ H.length I w sz es news) (hcap : es.length ≤ cap) (hrest : rest.length = (cap - es.length) * sz) :
    ∃ φ' w', w' = w.alloc (.cells (news ++ rest).toArray e) ∧ Evo φ I H w φ' I (H ++ [some (.row sz es)]) w' ∧ RH γ φ' I (H ++ [some (.row sz es)]) w' ∧ RV φ' (H.length + 1) I w' (.own H.length sz 0 es.length) (.slice (some ⟨w.heap.size, 0, none⟩) es.length cap) := by
  have hev := evo_alloc φ I H w (.cells (news ++ rest).toArray e) (.row sz es)
  obtain ⟨r1, r2, r3⟩ := hrow
  refine ⟨_, _, rfl, hev, rh_alloc hr ⟨_, e, alloc_new w _, by simp; omega, r2, fun i j x y v hx hy hv => ?_⟩, ?_⟩
  · have hi := get_lt hx
    have hj := get_lt hy
    have hs := r2 x (List.mem_of_getElem? hx)
    have hlt : i * sz + j < es.length * sz := mul_add_lt (by omega) hi
    have := hev.rv hr (r3 i j x y v hx hy (by
      simp only [List.getElem?_toArray] at hv
      rwa [List.getElem?_append_left (by omega)] at hv))
    simpa using this
  · have hsh : (w.alloc (.cells (news ++ rest).toArray e)).shape? (up φ H.length w.heap.size H.length) = some (e, (news ++ rest).toArray.size) := by
      rw [up_eq]; unfold World.shape?; rw [alloc_new]
    have := RV.own (I := I) H.length sz 0 es.length cap _ e (Nat.lt_succ_self _) hsh (by
      simp only [List.size_toArray, List.length_append, hrest, ← r1, Nat.zero_add, ← Nat.add_mul]
      exact Nat.mul_le_mul_right _ (by omega)) hcap
    rw [up_eq] at this
    simpa using this

theorem append_sound (hr : RH γ φ I H w) {t u e ty : TypeId} {i : TypeInfo} {d : TypeDesc} {z : EV} (ht : P.underlying t = some (.slice e)) (hu : P.underlying u = some d) (hd : ∀ k, d ≠ .int k) (hi : P.info? e = some i) (hz : zeroOf P e = some z)
    (hzs : z.cells.length = i.size) (hzo : z.cells.all EV.one = true) {x y v : EV} {vx vy : Value} (hx : RV φ H.length I w x vx) (hy : RV φ H.length I w y vy) {H' : Heap} (hev : evAppend i.size i.bytes x y H = some (v, H')) :
    ∃ φ' val w', (Builtin.append_ #[t, u] ty #[vx, vy]).run P w = .ok val w' ∧ Evo φ I H w φ' I H' w' ∧ RH γ φ' I H' w' ∧ RV φ' H'.length I w' v val := by
  obtain ⟨i', vz, hi', hvz, hcz⟩ := zero_of hz
  rw [hi] at hi'
  simp only [Option.some.injEq] at hi'; subst hi'
  have hzc : vz.cells.size = i.size := by rw [((evConst_rv (φ := φ) (N := 0) (I := I) (w := w) hcz).cells hzo).1, hzs]
  unfold evAppend at hev
  split at hev
  case h_2 => simp at hev
  rename_i es hes
  split at hev
  case isFalse => simp at hev
  rename_i hc
  obtain ⟨h0, hall⟩ := hc
  rw [List.all_eq_true] at hall
  have hsz : ∀ x ∈ es, x.cells.length = i.size := fun x hx => by have := hall x hx; simp only [Bool.and_eq_true, beq_iff_eq] at this; exact this.1
  obtain ⟨news, hlen, hnews, hrow⟩ := elems_cells (P := P) hr hes hy h0 hsz
  have hnl : news.length = es.length * i.size := hrow.1.symm
  have rest_len : ∀ k, (Builtin.zeroCells vz.cells k).toList.length = k * i.size := fun k => by rw [Array.length_toList, size_zeroCells, hzc]
  split at hev
  · -- nil
    cases hx
    split at hev
    · rename_i he
      simp only [Option.some.injEq, Prod.mk.injEq] at hev
      obtain ⟨rfl, rfl⟩ := hev
      have he' : es = [] := List.eq_nil_of_length_eq_zero he
      subst he'
      have hn : news = [] := List.eq_nil_of_length_eq_zero (by simpa using hnl)
      subst hn
      exact ⟨φ, _, w, run_app_nil0 ht hu hd hi hlen hnews, .refl .., hr, .nilsl⟩
    · rename_i he
      split at hev
      case isFalse => simp at hev
      rename_i hb
      simp only [Option.some.injEq, Prod.mk.injEq] at hev
      obtain ⟨rfl, rfl⟩ := hev
      have hge := grownCap_ge w es.length 0 e
      obtain ⟨φ', w', e1, e2, e3, e4⟩ := row_new hr.drew (e := e) (cap := grownCap w es.length 0 e) (rest := (Builtin.zeroCells vz.cells (grownCap w es.length 0 e - es.length)).toList) ⟨hrow.1, hrow.2.1, fun i j x y v h1 h2 h3 => (hrow.2.2 i j x y v h1 h2 h3).drew⟩ hge (rest_len _)
      refine ⟨φ', _, w', ?_, evo_drew.trans e2, e3, by simpa using e4⟩
      rw [run_app_nil ht hu hd hi hvz hlen hnews (by omega) hb.1 hb.2, e1]
      congr 3
      apply Array.ext'
      simp
  · -- empty
    cases hx with
    | zsl a =>
    split at hev
    · rename_i he
      simp only [Option.some.injEq, Prod.mk.injEq] at hev
      obtain ⟨rfl, rfl⟩ := hev
      have he' : es = [] := List.eq_nil_of_length_eq_zero he
      subst he'
      have hn : news = [] := List.eq_nil_of_length_eq_zero (by simpa using hnl)
      subst hn
      exact ⟨φ, _, w, run_app_room ht hu hd hi hlen (a := a) (n := 0) (cap := 0) (w1 := w) hnews (by simp) (by simp [storeCells]), .refl .., hr, .zsl a⟩
    · rename_i he
      split at hev
      case isFalse => simp at hev
      rename_i hb
      simp only [Option.some.injEq, Prod.mk.injEq] at hev
      obtain ⟨rfl, rfl⟩ := hev
      have hge := grownCap_ge w es.length 0 e
      obtain ⟨φ', w', e1, e2, e3, e4⟩ := row_new hr.drew (e := e) (cap := grownCap w es.length 0 e) (rest := (Builtin.zeroCells vz.cells (grownCap w es.length 0 e - es.length)).toList) ⟨hrow.1, hrow.2.1, fun i j x y v h1 h2 h3 => (hrow.2.2 i j x y v h1 h2 h3).drew⟩ hge (rest_len _)
      refine ⟨φ', _, w', ?_, evo_drew.trans e2, e3, by simpa using e4⟩
      rw [run_app_grow (olds := []) ht hu hd hi hvz hlen (fun w' _ => by simp [Builtin.firstCells, loadCells, loadCellsFrom]) hnews (by omega) (by omega) (by rw [Nat.zero_add]; exact hb.2)]
      simp only [Nat.zero_add] at e1 ⊢
      rw [e1]
      congr 3
      apply Array.ext'
      simp
  · -- a row of the call's own
    rename_i b bs off len
    split at hev
    case h_2 => simp at hev
    rename_i bs' old hb
    split at hev
    case isFalse => simp at hev
    rename_i hcond
    obtain ⟨rfl, rfl, rfl, hlo, hb1, hb2⟩ := hcond
    simp only [Option.some.injEq, Prod.mk.injEq] at hev
    obtain ⟨rfl, rfl⟩ := hev
    obtain ⟨c, T, hB, hc1, hc2, hc3⟩ := hr.blk b _ hb
    have hbl := get_lt hb
    have hol : (old.take len ++ es).length = len + es.length := by simp; omega
    have hcells : ∀ x ∈ old.take len ++ es, x.cells.length = i.size := fun x hx => by
      rcases List.mem_append.1 hx with h | h
      · exact hc2 x (List.mem_of_mem_take h)
      · exact hsz x h
    have getOld : ∀ (k j : Nat) (x y : EV) (v : Value) (c' : List Value), c'.length = len * i.size → (∀ q, q < len * i.size → c'[q]? = c[q]?) → (old.take len ++ es)[k]? = some x → x.cells[j]? = some y → (c' ++ news)[k * i.size + j]? = some v → RV φ H.length I w y v := by
      intro k j x y v c' hl hq hx hy hv
      have hj := get_lt hy
      have hxs := hcells x (List.mem_of_getElem? hx)
      by_cases hk : k < len
      · have hlt : k * i.size + j < len * i.size := mul_add_lt (by omega) hk
        rw [List.getElem?_append_left (by simp; omega), List.getElem?_take_of_lt hk] at hx
        rw [List.getElem?_append_left (by omega), hq _ hlt] at hv
        exact hc3 k j x y v hx hy hv
      · have hge : len * i.size ≤ k * i.size := Nat.mul_le_mul_right _ (by omega)
        rw [List.getElem?_append_right (by simp; omega)] at hx
        have e0 : (old.take len).length = len := by simp; omega
        rw [e0] at hx
        rw [List.getElem?_append_right (by omega), hl] at hv
        refine hrow.2.2 (k - len) j x y v hx hy ?_
        rw [show (k - len) * i.size + j = k * i.size + j - len * i.size by rw [Nat.sub_mul]; omega]
        exact hv
    -- the block kept
    have inplace : ∀ (w1 : World) (c' : Array Value) (val : Value), w1 = w.setRow (φ b) c' → c'.size = c.size → (len + es.length) * i.size ≤ c.size → (∀ q, q < (len + es.length) * i.size → c'[q]? = (c.toList.take (len * i.size) ++ news)[q]?) →
        (∀ φ', φ' H.length = φ b → RV φ' (H.length + 1) I w1 (.own H.length i.size 0 (len + es.length)) val) →
        ∃ φ', Evo φ I H w φ' I (H.set b none ++ [some (EB.row i.size (old.take len ++ es))]) w1 ∧ RH γ φ' I (H.set b none ++ [some (EB.row i.size (old.take len ++ es))]) w1 ∧ RV φ' (H.set b none ++ [some (EB.row i.size (old.take len ++ es))]).length I w1 (.own H.length i.size 0 (len + es.length)) val := by
      rintro w1 c' val rfl hcs hfit hc' hval
      have same : ∀ B, B ≠ φ b → (w.setRow (φ b) c').heap[B]? = w.heap[B]? := fun B hne => setRow_other w (φ b) B c' hne
      have oldb : ∀ {k : Nat} {x : EB}, (H.set b none ++ [some (EB.row i.size (old.take len ++ es))])[k]? = some (some x) → (k ≠ b ∧ k < H.length ∧ H[k]? = some (some x)) ∨ (k = H.length ∧ x = .row i.size (old.take len ++ es)) := fun {k x} hk => by
        have hkl := get_lt hk
        simp only [List.length_append, List.length_set, List.length_cons, List.length_nil] at hkl
        by_cases hlt : k < H.length
        · rw [List.getElem?_append_left (by simpa using hlt)] at hk
          by_cases eb : b = k
          · subst eb
            rw [List.getElem?_set_self hlt] at hk
            simp at hk
          · rw [List.getElem?_set_ne eb] at hk
            exact .inl ⟨fun h => eb h.symm, hlt, hk⟩
        · obtain rfl : k = H.length := by omega
          rw [List.getElem?_append_right (by simp)] at hk
          simp at hk
          exact .inr ⟨rfl, hk.symm⟩
      have hev : Evo φ I H w (up φ H.length (φ b)) I (H.set b none ++ [some (EB.row i.size (old.take len ++ es))]) (w.setRow (φ b) c') := by
        refine ⟨by simp, fun B _ => shape_setRow hB hcs, fun B hB hn => same B fun e => hn ⟨b, _, hb, e.symm⟩, fun _ h => h, fun k hk => up_lt hk, by simp, fun B h => ?_, fun _ h => .inl h, rfl, rfl, rfl, fun a _ => frozen_setRow hB a⟩
        obtain ⟨k, x, hk, e⟩ := h
        rcases oldb hk with ⟨h1, h2, h3⟩ | ⟨rfl, rfl⟩
        · rw [up_lt h2] at e; exact .inl ⟨k, x, h3, e⟩
        · rw [up_eq] at e; exact .inl ⟨b, _, hb, e⟩
      refine ⟨up φ H.length (φ b), hev, ⟨fun g => ?_, fun k x hk => ?_, fun k k' x x' hk hk' e => ?_, fun B hI => by have := hr.imm B hI; simpa using this, fun k x hk => ?_, fun k x hk => ?_⟩, by simpa using hval _ up_eq⟩
      · exact (hr.glob g).mono (Nat.le_refl 0) (fun i hi => absurd hi (Nat.not_lt_zero i)) (fun _ h => h) (fun B hI => same B fun e => hr.dis b _ hb (e ▸ hI)) (fun b hb => absurd hb (Nat.not_lt_zero b))
      · rcases oldb hk with ⟨h1, h2, h3⟩ | ⟨rfl, rfl⟩
        · rw [up_lt h2]
          exact (hr.blk k x h3).mono (by simp) (fun q hq => up_lt hq) (fun _ h => h) (fun B hI => same B fun e => hr.dis b _ hb (e ▸ hI)) (fun _ _ _ _ hs => (shape_setRow hB hcs).trans hs) (same _ fun e => h1 (hr.inj k b x _ h3 hb e))
        · rw [up_eq]
          refine ⟨c', T, setRow_heap w (φ b) c c' T (0, 0) hB, by rw [hol, hcs]; exact hfit, hcells, fun k j x y v hx hy hv => ?_⟩
          have hk := get_lt hx
          have hj := get_lt hy
          have hxs := hcells x (List.mem_of_getElem? hx)
          rw [hol] at hk
          have hlt : k * i.size + j < (len + es.length) * i.size := mul_add_lt (by omega) hk
          have := hev.rv hr (getOld k j x y v (c.toList.take (len * i.size)) (by
            have : len * i.size ≤ old.length * i.size := Nat.mul_le_mul_right _ hlo
            simp; omega) (fun q hq => by rw [List.getElem?_take_of_lt hq]; simp) hx hy (by rw [← hc' _ hlt]; exact hv))
          simpa using this
      · rcases oldb hk with ⟨h1, h2, h3⟩ | ⟨rfl, rfl⟩ <;> rcases oldb hk' with ⟨g1, g2, g3⟩ | ⟨rfl, rfl⟩
        · rw [up_lt h2, up_lt g2] at e; exact hr.inj k k' x x' h3 g3 e
        · rw [up_lt h2, up_eq] at e; exact absurd (hr.inj k b x _ h3 hb e) h1
        · rw [up_eq, up_lt g2] at e; exact absurd (hr.inj k' b x' _ g3 hb e.symm) g1
        · rfl
      · rcases oldb hk with ⟨h1, h2, h3⟩ | ⟨rfl, rfl⟩
        · rw [up_lt h2]; exact hr.dis k x h3
        · rw [up_eq]; exact hr.dis b _ hb
      · rcases oldb hk with ⟨h1, h2, h3⟩ | ⟨rfl, rfl⟩
        · rw [up_lt h2]; simpa using hr.lt k x h3
        · rw [up_eq]; simpa using hr.lt b _ hb
    -- a new block
    have grows : ∀ (a : Addr) (cap : Nat) (olds : List Value), vx = .slice (some a) len cap → (∀ w', w'.heap = w.heap → (Builtin.firstCells i.size len (.slice (some a) len cap)).run P w' = .ok olds.toArray w') → olds.length = len * i.size →
        (∀ q, q < len * i.size → olds[q]? = c[q]?) → cap < len + es.length → ∃ φ' val w', (Builtin.append_ #[t, u] ty #[vx, vy]).run P w = .ok val w' ∧ Evo φ I H w φ' I (H.set b none ++ [some (EB.row i.size (old.take len ++ es))]) w' ∧
          RH γ φ' I (H.set b none ++ [some (EB.row i.size (old.take len ++ es))]) w' ∧ RV φ' (H.set b none ++ [some (EB.row i.size (old.take len ++ es))]).length I w' (.own H.length i.size 0 (len + es.length)) val := by
      rintro a cap olds rfl hold hol2 hq hlt
      have hge := grownCap_ge w (len + es.length) cap e
      have hrow' : RowC φ (H.set b none).length I w.drew i.size (old.take len ++ es) (olds ++ news) := by
        refine ⟨by rw [hol, List.length_append, hol2, hnl, Nat.add_mul], hcells, fun k j x y v hx hy hv => ?_⟩
        rw [List.length_set]
        exact (getOld k j x y v olds hol2 hq hx hy hv).drew
      obtain ⟨φ', w', e1, e2, e3, e4⟩ := row_new (RH.kill (b := b) hr).drew (e := e) (cap := grownCap w (len + es.length) cap e) (rest := (Builtin.zeroCells vz.cells (grownCap w (len + es.length) cap e - (len + es.length))).toList) hrow' (by rw [hol]; exact hge) (by rw [hol]; exact rest_len _)
      rw [List.length_set, hol] at e4
      refine ⟨φ', _, w', ?_, (Evo.kill.trans evo_drew).trans e2, e3, by simpa using e4⟩
      rw [run_app_grow ht hu hd hi hvz hlen hold hnews hlt hb1 hb2, e1]
      congr 3
      apply Array.ext'
      simp
    cases hx with
    | own0 _ _ _ a hbb =>
      by_cases he : es = []
      · subst he
        have hn : news = [] := List.eq_nil_of_length_eq_zero (by simpa using hnl)
        subst hn
        obtain ⟨φ', e1, e2, e3⟩ := inplace (w.setRow (φ b) c) c (.slice (some a) 0 0) rfl rfl (by simp) (fun q hq => by simp at hq) (fun φ' _ => .own0 _ _ _ a (Nat.lt_succ_self _))
        have hw : w.setRow (φ b) c = w := by
          have h1 : (w.setRow (φ b) c).heap = w.heap := by
            apply Array.ext_getElem?
            intro B
            by_cases e : B = φ b
            · subst e; rw [setRow_heap w (φ b) c c T (0, 0) hB, hB]
            · exact setRow_other w (φ b) B c e
          unfold World.setRow at h1 ⊢
          simp only at h1
          rw [h1]
        rw [hw] at e1 e2 e3
        exact ⟨φ', _, w, run_app_room ht hu hd hi hlen (a := a) (n := 0) (cap := 0) (w1 := w) hnews (by simp) (by simp [storeCells]), e1, e2, e3⟩
      · refine grows a 0 [] rfl (fun w' _ => by simp [Builtin.firstCells, loadCells, loadCellsFrom]) (by simp) (fun q hq => by simp at hq) ?_
        have := List.length_pos_iff.2 he
        omega
    | own _ _ _ _ cap n' T' hbb hsh hn hcap =>
      have hcn : c.size = n' := by unfold World.shape? at hsh; rw [hB] at hsh; simp at hsh; exact hsh.2
      by_cases hroom : len + es.length ≤ cap
      · have hfit : (len + es.length) * i.size ≤ c.size := by
          have : (len + es.length) * i.size ≤ cap * i.size := Nat.mul_le_mul_right _ hroom
          rw [Nat.zero_add] at hn
          omega
        have hfit2 : len * i.size + news.length ≤ c.size := by rw [hnl, ← Nat.add_mul]; exact hfit
        have hones : ∀ v ∈ news, v.oneCell' = true := by
          intro v hv
          obtain ⟨q, hq⟩ := List.mem_iff_getElem?.1 hv
          have hql := get_lt hq
          rw [hnl] at hql
          have hdiv : q / i.size < es.length := Nat.div_lt_of_lt_mul (by rw [Nat.mul_comm]; exact hql)
          have hmod : q % i.size < i.size := Nat.mod_lt _ h0
          have hxs := hsz es[q / i.size] (List.getElem_mem hdiv)
          have hone := hall es[q / i.size] (List.getElem_mem hdiv)
          simp only [Bool.and_eq_true, List.all_eq_true] at hone
          have hy' : es[q / i.size].cells[q % i.size]? = some (es[q / i.size].cells[q % i.size]'(by omega)) := by simp
          exact ((hrow.2.2 (q / i.size) (q % i.size) _ _ v (by simp) hy' (by rw [Nat.mul_comm, Nat.div_add_mod]; exact hq)).one (hone.2 _ (List.getElem_mem _))).1
        have hst := run_storeCells_at P (φ b) (len * i.size) T news 0 c w hB (by simpa using hfit2) hones
        simp only [Nat.add_zero] at hst
        obtain ⟨φ', e1, e2, e3⟩ := inplace (w.setRow (φ b) (c.toList.take (len * i.size) ++ news ++ c.toList.drop (len * i.size + news.length)).toArray) (c.toList.take (len * i.size) ++ news ++ c.toList.drop (len * i.size + news.length)).toArray (.slice (some ⟨φ b, 0, none⟩) (len + es.length) cap) rfl (by simp; omega) hfit (fun q hq => by
          have hl : (c.toList.take (len * i.size)).length = len * i.size := by simp; omega
          rw [List.getElem?_toArray, List.getElem?_append_left (by simp only [List.length_append, hl, hnl, ← Nat.add_mul]; exact hq)]) (fun φ' hφ => by
          have hsh' : (w.setRow (φ b) (c.toList.take (len * i.size) ++ news ++ c.toList.drop (len * i.size + news.length)).toArray).shape? (φ' H.length) = some (T', n') := by
            rw [hφ, shape_setRow hB (by simp; omega)]; exact hsh
          have := RV.own (φ := φ') (N := H.length + 1) (I := I) H.length i.size 0 (len + es.length) cap n' T' (Nat.lt_succ_self _) hsh' hn hroom
          rw [hφ] at this
          simpa using this)
        refine ⟨φ', _, _, run_app_room ht hu hd hi hlen hnews hroom ?_, e1, e2, by simpa using e3⟩
        simpa [addr_add] using hst
      · refine grows ⟨φ b, 0 * i.size, none⟩ cap (c.toList.take (len * i.size)) rfl (fun w' hw => ?_) ?_ (fun q hq => ?_) (by omega)
        · have := run_cells P (w := w') (B := φ b) (o := 0) (n := len * i.size) (by rw [hw]; exact hB) (by
            have : len * i.size ≤ old.length * i.size := Nat.mul_le_mul_right _ hlo
            omega)
          simpa [Builtin.firstCells] using this
        · have : len * i.size ≤ old.length * i.size := Nat.mul_le_mul_right _ hlo
          simp; omega
        · rw [List.getElem?_take_of_lt hq]; simp
  · simp at hev

theorem run_app_z {ty : TypeId} {t u e : TypeId} {kk k : IntKind} {i : TypeInfo} {vz : Value} {m : Nat} (ht : P.underlying t = some (.slice e)) (hu : P.underlying u = some (.int kk)) (hi : P.info? e = some i) (hz : i.zero = some vz)
    (h0 : 0 < m) (hs : 0 < i.size) (h63 : m ≤ 9223372036854775807) (h48 : m * i.bytes ≤ 140737488355328) :
    (Builtin.append_ #[t, u] ty #[.slice none 0 0, .int k (m : Int)]).run P w =
      .ok (.slice (some ⟨w.heap.size, 0, none⟩) m (grownCap w m 0 e)) (w.drew.alloc (.cells (Builtin.zeroCells vz.cells m ++ Builtin.zeroCells vz.cells (grownCap w m 0 e - m)) e)) := by
  have hn : m ≠ 0 := by omega
  have h63' : ¬ (9223372036854775807 < (m : Int)) := by omega
  have h48' : ¬ (281474976710656 < Builtin.nextslicecap m 0 * i.bytes) := by rw [nextslicecap_zero h0]; omega
  have h48'' : ¬ (281474976710656 < (m : Int) * (i.bytes : Int)) := by
    have : (m : Int) * (i.bytes : Int) = ((m * i.bytes : Nat) : Int) := by simp
    omega
  have hw : IntKind.i64.wrap (m : Int) = (m : Int) := by simp [IntKind.wrap, IntKind.signed, IntKind.bits]; omega
  have hms : ¬ (m * i.size = 0) := by
    have := Nat.mul_pos h0 hs
    omega
  have hneg : ¬ ((m : Int) < 0) := by omega
  simp [Builtin.append_, run_underlying ht, run_underlying hu, Go.sizeOf, typeInfo, zeroValue, hi, hz, hn, h63', h48', h48'', Question.forced, run_firstCells_none, newRow, grownCap, asInt, asIntOf, hw, hneg, hms, hs, Nat.pos_iff_ne_zero.1 hs]

theorem appz_sound (hr : RH γ φ I H w) {t u e ty : TypeId} {kk : IntKind} {i : TypeInfo} {z x k v : EV} {vx vk : Value} (ht : P.underlying t = some (.slice e)) (hu : P.underlying u = some (.int kk)) (hi : P.info? e = some i) (hz : zeroOf P e = some z)
    (hzs : z.cells.length = i.size) (hzo : z.cells.all EV.one = true) (h0 : 0 < i.size) (hx : RV φ H.length I w x vx) (hk : RV φ H.length I w k vk) {H' : Heap} (hev : evAppz i.size i.bytes z x k H = some (v, H')) :
    ∃ φ' val w', (Builtin.append_ #[t, u] ty #[vx, vk]).run P w = .ok val w' ∧ Evo φ I H w φ' I H' w' ∧ RH γ φ' I H' w' ∧ RV φ' H'.length I w' v val := by
  unfold evAppz at hev
  split at hev
  case h_2 => simp at hev
  rename_i kk' n
  split at hev
  case isFalse => simp at hev
  rename_i hc
  obtain ⟨i', vz, hi', hvz, hcz⟩ := zero_of hz
  rw [hi] at hi'
  obtain rfl := Option.some.inj hi'
  cases hx
  cases hk
  obtain ⟨m, rfl⟩ : ∃ m : Nat, n = m := ⟨n.toNat, by omega⟩
  split at hev
  · rename_i hm
    simp only [Option.some.injEq, Prod.mk.injEq] at hev
    obtain ⟨rfl, rfl⟩ := hev
    refine ⟨φ, .slice none 0 0, w, ?_, .refl .., hr, .nilsl⟩
    rw [hm]
    simp [Builtin.append_, run_underlying ht, run_underlying hu, Go.sizeOf, typeInfo, hi, asInt, asIntOf, IntKind.wrap, IntKind.signed, IntKind.bits]
  · rename_i hm
    simp only [Option.some.injEq, Prod.mk.injEq] at hev
    obtain ⟨rfl, rfl⟩ := hev
    have hm0 : 0 < m := by omega
    have hrz := evConst_rv (φ := φ) (N := H.length) (I := I) (w := w) hcz
    have hsz0 : vz.cells.size = i.size := by have := (hrz.cells hzo).1; rw [← hzs, ← this]
    have hrow : RowC φ H.length I w i.size (List.replicate m z) (Builtin.zeroCells vz.cells m).toList := by
      have := rows_zero (len := m) hrz hzo hzs
      unfold Builtin.zeroCells
      rw [hsz0] at this ⊢
      exact this
    have hge := grownCap_ge w m 0 e
    have hlen : (List.replicate m z).length = m := by simp
    obtain ⟨φ', w', e1, e2, e3, e4⟩ := row_new hr.drew (e := e) (cap := grownCap w m 0 e) (rest := (Builtin.zeroCells vz.cells (grownCap w m 0 e - m)).toList) ⟨hrow.1, hrow.2.1, fun i j x y v h1 h2 h3 => (hrow.2.2 i j x y v h1 h2 h3).drew⟩ (by rw [hlen]; exact hge) (by rw [hlen, Array.length_toList, size_zeroCells, hsz0])
    have hmb : m * i.bytes ≤ 140737488355328 := by
      have : (m : Int) * (i.bytes : Int) = ((m * i.bytes : Nat) : Int) := by simp
      omega
    rw [hlen] at e4
    refine ⟨φ', _, w', ?_, evo_drew.trans e2, by simpa using e3, by simpa using e4⟩
    rw [run_app_z ht hu hi hvz hm0 h0 (by omega) hmb, e1]
    congr 3
    apply Array.ext'
    simp
end
end Abs

namespace Abs
open Go

section
variable {P : Program} {γ : Nat → EV} {φ : Nat → Nat} {N : Nat} {I : Nat → Prop} {H H' : Heap} {w : World}

def noCells : Obj → Bool
  | .cells _ _ _ => false
  | _ => true

/-- A block that is no row is replaced. -/
theorem evo_setObj {b : Nat} {x y : EB} {o o' : Obj} (hb : H[b]? = some (some x)) (hg : w.heap[φ b]? = some o) (ho : noCells o = true) (ho' : noCells o' = true) :
    Evo φ I H w φ I (H.set b (some y)) { w with heap := w.heap.setIfInBounds (φ b) o' } where
  size := by simp
  shape B _ := by
    unfold World.shape?
    by_cases e : B = φ b
    · subst e
      rw [setMap_self (Array.getElem?_eq_some_iff.1 hg).1, hg]
      cases o <;> cases o' <;> simp_all [noCells]
    · rw [setMap_other e]
  keep B _ hn := setMap_other fun e => hn ⟨b, x, hb, e.symm⟩
  imm B h := h
  phi i _ := rfl
  len := by simp
  own B h := by
    obtain ⟨k, z, hk, e⟩ := h
    by_cases hkb : b = k
    · subst hkb; exact .inl ⟨b, x, hb, e⟩
    · rw [List.getElem?_set_ne hkb] at hk; exact .inl ⟨k, z, hk, e⟩
  immf B h := .inl h
  tape := rfl
  os := rfl
  out := rfl
  froz a _ := by
    unfold World.frozen?
    by_cases e : a.block = φ b
    · rw [e, setMap_self (Array.getElem?_eq_some_iff.1 hg).1, hg]
      cases o <;> cases o' <;> simp_all [noCells]
    · rw [setMap_other e]

theorem rh_setObj {b : Nat} {x y : EB} {o o' : Obj} (h : RH γ φ I H w) (hb : H[b]? = some (some x)) (hg : w.heap[φ b]? = some o) (ho : noCells o = true) (ho' : noCells o' = true)
    (hy : RB φ H.length I { w with heap := w.heap.setIfInBounds (φ b) o' } (φ b) y) : RH γ φ I (H.set b (some y)) { w with heap := w.heap.setIfInBounds (φ b) o' } where
  glob g := (h.glob g).mono (Nat.le_refl 0) (fun i hi => absurd hi (Nat.not_lt_zero i)) (fun _ h => h)
    (fun B hB => setMap_other (g := φ b) fun e => h.dis b x hb (e ▸ hB)) (fun b hb => absurd hb (Nat.not_lt_zero b))
  blk k z hk := by
    rw [List.length_set]
    by_cases hkb : b = k
    · subst hkb
      rw [List.getElem?_set_self (get_lt hb)] at hk
      simp only [Option.some.injEq] at hk
      exact hk ▸ hy
    · rw [List.getElem?_set_ne hkb] at hk
      exact (h.blk k z hk).mono (Nat.le_refl _) (fun _ _ => rfl) (fun _ h => h) (fun B hB => setMap_other (g := φ b) fun e => h.dis b x hb (e ▸ hB))
        (fun _ hlt _ _ hs' => ((evo_setObj (I := I) (y := y) hb hg ho ho').shape _ (shape_lt hs')).trans hs') (setMap_other fun e => hkb (h.inj b k x z hb hk e.symm))
  inj k k' z z' hk hk' e := by
    have f : ∀ {k : Nat} {z : EB}, (H.set b (some y))[k]? = some (some z) → ∃ z', H[k]? = some (some z') := fun {k z} hk => by
      by_cases hkb : b = k
      · subst hkb; exact ⟨x, hb⟩
      · rw [List.getElem?_set_ne hkb] at hk; exact ⟨z, hk⟩
    obtain ⟨u, hu⟩ := f hk
    obtain ⟨u', hu'⟩ := f hk'
    exact h.inj k k' u u' hu hu' e
  imm B hB := by have := h.imm B hB; simpa using this
  dis k z hk := by
    by_cases hkb : b = k
    · subst hkb; exact h.dis b x hb
    · rw [List.getElem?_set_ne hkb] at hk; exact h.dis k z hk
  lt k z hk := by
    by_cases hkb : b = k
    · subst hkb; have := h.lt b x hb; simpa using this
    · rw [List.getElem?_set_ne hkb] at hk; have := h.lt k z hk; simpa using this

theorem rng_sound (hr : RH γ φ I H w) {t : TypeId} (hu : P.underlying t = some .string) {s : List UInt8} {v : Value} (hx : RV φ N I w (.str s) v) :
    ∃ φ' w', (Instr.range t v).run P w = .ok (.pointer (some ⟨w.heap.size, 0, none⟩)) w' ∧ Evo φ I H w φ' I (H ++ [some (.it s 0)]) w' ∧ RH γ φ' I (H ++ [some (.it s 0)]) w' ∧
      RV φ' (H ++ [some (EB.it s 0)]).length I w' (.ptr H.length 0 0 0) (.pointer (some ⟨w.heap.size, 0, none⟩)) := by
  cases hx
  refine ⟨up φ H.length w.heap.size, w.alloc (.stringIter ⟨s.toArray⟩ 0), by simp [Instr.range, run_underlying hu], evo_alloc .., rh_alloc hr (alloc_new ..), ?_⟩
  have := RV.ptr (φ := up φ H.length w.heap.size) (N := (H ++ [some (EB.it s 0)]).length) (I := I) (w := w.alloc (.stringIter ⟨s.toArray⟩ 0)) H.length 0 0 0 (by simp)
  rwa [up_eq] at this

theorem next_sound (hr : RH γ φ I H w) (ty : TypeId) {x y : EV} {v : Value} (hx : RV φ H.length I w x v) (hev : evNext x H = some (y, H')) :
    ∃ val w', (Instr.next v true ty).run P w = .ok val w' ∧ Evo φ I H w φ I H' w' ∧ RH γ φ I H' w' ∧ RV φ H'.length I w' y val := by
  unfold evNext at hev
  split at hev
  case h_2 => simp at hev
  rename_i b
  split at hev
  case h_2 => simp at hev
  rename_i s p hb
  have hg := hr.blk b _ hb
  cases hx
  have hget : (getObj (φ b)).run P w = .ok (.stringIter ⟨s.toArray⟩ p) w := by simp [getObj, Sem.run, show w.heap[φ b]? = some (.stringIter ⟨s.toArray⟩ p) from hg]
  split at hev
  · rename_i hp
    simp only [Option.some.injEq, Prod.mk.injEq] at hev
    obtain ⟨rfl, rfl⟩ := hev
    have hset : (setObj (φ b) (.stringIter ⟨s.toArray⟩ (p + (Utf8.decode ⟨s.toArray⟩ p).2))).run P w = .ok () { w with heap := w.heap.setIfInBounds (φ b) (.stringIter ⟨s.toArray⟩ (p + (Utf8.decode ⟨s.toArray⟩ p).2)) } := by
      simp [setObj, Sem.run, show w.heap[φ b]? = some (.stringIter ⟨s.toArray⟩ p) from hg]
    refine ⟨.tuple #[.bool true, .int .i64 (p : Int), .int .i32 ((Utf8.decode ⟨s.toArray⟩ p).1 : Nat)], _, ?_, evo_setObj hb hg rfl rfl, rh_setObj hr hb hg rfl rfl (setMap_self (hr.lt b _ hb)), .tup _ _ rfl fun k x v hx hv => ?_⟩
    · simp [Instr.next, hget, hset, bytes_size, hp, goInt]
    · match k with
      | 0 => simp at hx hv; subst hx hv; exact .bool _
      | 1 => simp at hx hv; subst hx hv; exact .int _ _
      | 2 => simp at hx hv; subst hx hv; exact .int _ _
      | k + 3 => simp at hx
  · rename_i hp
    simp only [Option.some.injEq, Prod.mk.injEq] at hev
    obtain ⟨rfl, rfl⟩ := hev
    refine ⟨.tuple #[.bool false], w, by simp [Instr.next, hget, bytes_size, hp], .refl .., hr, .tup _ _ rfl fun k x v hx hv => ?_⟩
    match k with
    | 0 => simp at hx hv; subst hx hv; exact .bool _
    | k + 1 => simp at hx

/-- A row seen another way. -/
theorem evo_seen {b : Nat} {x y : EB} (hb : H[b]? = some (some x)) : Evo φ I H w φ I (H.set b (some y)) w where
  size := Nat.le_refl _
  shape _ _ := rfl
  keep _ _ _ := rfl
  imm _ h := h
  phi _ _ := rfl
  len := by simp
  own B h := by
    obtain ⟨k, z, hk, e⟩ := h
    by_cases hkb : b = k
    · subst hkb; exact .inl ⟨b, x, hb, e⟩
    · rw [List.getElem?_set_ne hkb] at hk; exact .inl ⟨k, z, hk, e⟩
  immf B h := .inl h
  tape := rfl
  os := rfl
  out := rfl
  froz _ _ := rfl

theorem rh_seen {b : Nat} {x y : EB} (h : RH γ φ I H w) (hb : H[b]? = some (some x)) (hy : RB φ H.length I w (φ b) y) : RH γ φ I (H.set b (some y)) w where
  glob := h.glob
  blk k z hk := by
    rw [List.length_set]
    by_cases hkb : b = k
    · subst hkb
      rw [List.getElem?_set_self (get_lt hb)] at hk
      simp only [Option.some.injEq] at hk
      exact hk ▸ hy
    · rw [List.getElem?_set_ne hkb] at hk
      exact h.blk k z hk
  inj k k' z z' hk hk' e := by
    have f : ∀ {k : Nat} {z : EB}, (H.set b (some y))[k]? = some (some z) → ∃ z', H[k]? = some (some z') := fun {k z} hk => by
      by_cases hkb : b = k
      · subst hkb; exact ⟨x, hb⟩
      · rw [List.getElem?_set_ne hkb] at hk; exact ⟨z, hk⟩
    obtain ⟨u, hu⟩ := f hk
    obtain ⟨u', hu'⟩ := f hk'
    exact h.inj k k' u u' hu hu' e
  imm := h.imm
  dis k z hk := by
    by_cases hkb : b = k
    · subst hkb; exact h.dis b x hb
    · rw [List.getElem?_set_ne hkb] at hk; exact h.dis k z hk
  lt k z hk := by
    by_cases hkb : b = k
    · subst hkb; exact h.lt b x hb
    · rw [List.getElem?_set_ne hkb] at hk; exact h.lt k z hk

theorem slArr_sound (hr : RH γ φ I H w) {t e : TypeId} {n : Nat} {i : TypeInfo} (hu : P.underlying t = some (.array n e)) (hif : P.info? e = some i) (h1i : i.size = 1)
    {x y : EV} {v : Value} (hx : RV φ H.length I w x v) {lo hi : Option EV} {vlo vhi : Option Value}
    (h1 : match lo, vlo with | none, none => True | some x, some v => RV φ H.length I w x v | _, _ => False)
    (h2 : match hi, vhi with | none, none => True | some x, some v => RV φ H.length I w x v | _, _ => False)
    (hev : evSlArr n x lo hi H = some (y, H')) :
    ∃ val, (Instr.sliceAt t v vlo vhi none).run P w = .ok val w ∧ Evo φ I H w φ I H' w ∧ RH γ φ I H' w ∧ RV φ H'.length I w y val := by
  have run : ∀ (a : Addr) (l h : Nat), (Instr.sliceBounds false n n vlo vhi none).run P w = .ok (l, h, n) w →
      (Instr.sliceAt t (.pointer (some a)) vlo vhi none).run P w = .ok (.slice (some (if n = l then a else a.add l)) (h - l) (n - l)) w := by
    intro a l h hb
    simp [Instr.sliceAt, run_underlying hu, hb, Go.sizeOf, typeInfo, hif, h1i, Instr.sureAddr]
  have fin : ∀ (b sz : Nat) (c : Array Value) (T : TypeId) (p : Nat × Nat) (N : Nat), N = H.length → w.heap[φ b]? = some (.cells c T (0, 0)) → n ≤ c.size → b < H.length → evBounds n n lo hi = some p → v = .pointer (some ⟨φ b, 0 * sz + 0, none⟩) →
      ∃ val, (Instr.sliceAt t v vlo vhi none).run P w = .ok val w ∧ RV φ N I w (.own b 1 p.1 (p.2 - p.1)) val := by
    intro b sz c T p N hN hB hc hb hp hv
    subst hN hv
    obtain ⟨b1, b2, b3⟩ := bounds_sound (P := P) (isSlice := false) h1 h2 (l := p.1) (h := p.2) hp (Nat.le_refl _) n (Nat.le_refl _)
    refine ⟨_, run _ _ _ b1, ?_⟩
    have hsh : w.shape? (φ b) = some (T, c.size) := by simp [World.shape?, hB]
    by_cases hnl : n = p.1
    · have e2 : p.2 - p.1 = 0 := by omega
      have e3 : n - p.1 = 0 := by omega
      rw [if_pos hnl, e2, e3]
      exact .own0 b _ _ _ hb
    · rw [if_neg hnl, addr_add]
      simp only [Nat.zero_mul, Nat.zero_add]
      have := RV.own (φ := φ) (N := H.length) (I := I) (w := w) b 1 p.1 (p.2 - p.1) (n - p.1) c.size T hb hsh (by omega) (by omega)
      rwa [Nat.mul_one] at this
  unfold evSlArr at hev
  split at hev
  case h_2 => simp at hev
  rename_i b sz
  split at hev
  case h_2 => simp at hev
  rename_i sz' es hb
  obtain ⟨c, T, hB, hc1, hc2, hc3⟩ := hr.blk b _ hb
  have hlt := get_lt hb
  generalize hv : v = v' at hx
  cases hx
  subst hv
  split at hev
  · rename_i cs
    split at hev
    case isFalse => simp at hev
    rename_i hcond
    obtain ⟨rfl, hl, hone⟩ := hcond
    split at hev
    case h_2 => simp at hev
    rename_i p hp
    simp only [Option.some.injEq, Prod.mk.injEq] at hev
    obtain ⟨rfl, rfl⟩ := hev
    obtain ⟨val, r1, r2⟩ := fin b sz c T p _ (List.length_set ..) hB (by simpa using hc1) hlt hp rfl
    refine ⟨val, r1, evo_seen hb, rh_seen hr hb ⟨c, T, hB, by simp at hc1; omega, fun e he => ?_, fun i j e x v he hx hv => ?_⟩, r2⟩
    · rw [one_cells (List.all_eq_true.1 hone e he)]; rfl
    · rw [one_cells (List.all_eq_true.1 hone e (List.mem_of_getElem? he))] at hx
      have hj := get_lt hx
      simp at hj
      subst hj
      simp at hx
      subst hx
      exact hc3 0 i _ _ v rfl he (by simpa using hv)
  · split at hev
    case isFalse => simp at hev
    rename_i hcond
    obtain ⟨rfl, hl⟩ := hcond
    split at hev
    case h_2 => simp at hev
    rename_i p hp
    simp only [Option.some.injEq, Prod.mk.injEq] at hev
    obtain ⟨rfl, rfl⟩ := hev
    obtain ⟨val, r1, r2⟩ := fin b sz c T p _ rfl hB (by simpa [hl] using hc1) hlt hp rfl
    exact ⟨val, r1, .refl .., hr, r2⟩

theorem run_push {f : Value → ByteArray → Sem (ForInStep ByteArray)} (hf : ∀ n acc, f (.int .u8 n) acc = pure (ForInStep.yield (ByteArray.push acc (UInt8.ofNat n.toNat)))) : ∀ (es : List EV) (bs : List UInt8) (l : List Value) (acc : ByteArray), bytesV es = some bs → es.length = l.length → (∀ (k : Nat) (x : EV) (v : Value), es[k]? = some x → l[k]? = some v → RV φ N I w x v) →
    (forIn l acc f : Sem ByteArray).run P w = .ok ⟨acc.data ++ bs.toArray⟩ w
  | [], bs, l, acc, h, hl, _ => by
    simp only [bytesV, Option.some.injEq] at h
    subst h
    have : l = [] := List.eq_nil_of_length_eq_zero (by simpa using hl.symm)
    subst this
    simp
  | x :: es, bs, [], acc, h, hl, _ => by simp at hl
  | x :: es, bs, v :: l, acc, h, hl, hv => by
    simp only [bytesV] at h
    split at h
    case h_2 => simp at h
    rename_i b bs' hb hbs
    simp only [Option.some.injEq] at h
    subst h
    have h0 := hv 0 x v rfl rfl
    unfold byteV at hb
    split at hb
    case h_2 => simp at hb
    rename_i n
    simp only [Option.some.injEq] at hb
    subst hb
    cases h0
    have ih := run_push hf es bs' l (acc.push (UInt8.ofNat n.toNat)) hbs (by simpa using hl) fun k x v hx hv' => hv (k + 1) x v (by simpa using hx) (by simpa using hv')
    simp only [List.forIn_cons, hf, Sem.run_bind, Sem.run_pure, Result.andThen_ok]
    rw [ih]
    congr 1
    apply ByteArray.ext
    simp [ByteArray.push]

theorem toStr_sound (hr : RH γ φ I H w) {x y : EV} {v : Value} (hx : RV φ H.length I w x v) (hev : evToStr x H = some y) :
    ∃ val, (Conv.bytesToString v).run P w = .ok val w ∧ RV φ H.length I w y val := by
  have fin : ∀ (es : List EV) (bs : List UInt8) (a : Addr) (len cap : Nat) (news : List Value), es.length = len → bytesV es = some bs → (loadCells a len).run P w = .ok news.toArray w → es.length = news.length →
      (∀ (k : Nat) (x : EV) (v : Value), es[k]? = some x → news[k]? = some v → RV φ H.length I w x v) →
      ∃ val, (Conv.bytesToString (.slice (some a) len cap)).run P w = .ok val w ∧ RV φ H.length I w (.str bs) val := by
    intro es bs a len cap news hlen hbs hload hn hrv
    refine ⟨.string ⟨bs.toArray⟩, ?_, .str bs⟩
    simp only [Conv.bytesToString, Sem.run_bind, hload, Result.andThen_ok]
    simp only [List.forIn_toArray]
    rw [run_push (fun n acc => rfl) es bs news .empty hbs hn hrv]
    simp
  have ones : ∀ (es : List EV) (bs : List UInt8), bytesV es = some bs → ∀ x ∈ es, x.cells.length = 1 := by
    intro es
    induction es with
    | nil => intro bs _ x hx; simp at hx
    | cons e es ih =>
      intro bs h x hx
      simp only [bytesV] at h
      split at h
      case h_2 => simp at h
      rename_i b bs' hb hbs
      rcases List.mem_cons.1 hx with rfl | hx
      · unfold byteV at hb
        split at hb
        · rfl
        · simp at hb
      · exact ih _ hbs x hx
  have main : ∀ (es : List EV) (bs : List UInt8), elems H x = some es → bytesV es = some bs → (∀ s, x ≠ .str s) → x ≠ .nilsl → ∃ val, (Conv.bytesToString v).run P w = .ok val w ∧ RV φ H.length I w (.str bs) val := by
    intro es bs he hbs hns hnn
    obtain ⟨news, n1, n2, n3, n4, n5⟩ := elems_cells hr he hx (sz := 1) (by omega) (ones es bs hbs)
    have h2 := n2 w rfl
    have hsl : ∃ a len cap, v = .slice (some a) len cap := by
      unfold elems at he
      split at he
      · exact absurd rfl hnn
      · cases hx <;> exact ⟨_, _, _, rfl⟩
      · cases hx <;> exact ⟨_, _, _, rfl⟩
      · cases hx <;> exact ⟨_, _, _, rfl⟩
      · exact absurd rfl (hns _)
      · simp at he
    obtain ⟨a, len, cap, rfl⟩ := hsl
    have hlen : len = es.length := by simpa [Builtin.lenOf] using n1
    subst hlen
    refine fin es bs a _ cap news rfl hbs (by simpa [Builtin.firstCells] using h2) (by simpa using n3) fun k x v hx hv => ?_
    have hone := ones es bs hbs x (List.mem_of_getElem? hx)
    obtain ⟨x0, hx0⟩ : ∃ x0, x.cells = [x0] := by
      match hc : x.cells, hone with
      | [x0], _ => exact ⟨x0, rfl⟩
    have hxx : x0 = x := by
      have hb : ∀ (es : List EV) (bs : List UInt8), bytesV es = some bs → ∀ x ∈ es, x.cells = [x] := by
        intro es
        induction es with
        | nil => intro bs _ x hx; simp at hx
        | cons e es ih =>
          intro bs h x hx
          simp only [bytesV] at h
          split at h
          case h_2 => simp at h
          rename_i b bs' hb hbs
          rcases List.mem_cons.1 hx with rfl | hx
          · unfold byteV at hb
            split at hb
            · rfl
            · simp at hb
          · exact ih _ hbs x hx
      have := hb es bs hbs x (List.mem_of_getElem? hx)
      rw [this] at hx0
      simpa using hx0.symm
    subst hxx
    exact n5 k 0 x0 x0 v hx (by rw [hx0]; rfl) (by simpa using hv)
  unfold evToStr at hev
  split at hev
  · simp only [Option.some.injEq] at hev; subst hev
    cases hx
    exact ⟨.string .empty, by simp [Conv.bytesToString], .str []⟩
  · simp only [Option.some.injEq] at hev; subst hev
    exact main [] [] rfl rfl (by simp) (by simp)
  · rename_i b off len
    split at hev
    case h_2 => simp at hev
    rename_i es he
    simp only [Option.map_eq_some_iff] at hev
    obtain ⟨bs, hbs, rfl⟩ := hev
    exact main es bs he hbs (by simp) (by simp)
  · rename_i es
    simp only [Option.map_eq_some_iff] at hev
    obtain ⟨bs, hbs, rfl⟩ := hev
    exact main es bs rfl hbs (by simp) (by simp)
  · simp at hev

end
end Abs
