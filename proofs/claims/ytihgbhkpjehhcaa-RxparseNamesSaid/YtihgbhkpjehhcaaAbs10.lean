/- Slice literals, cuts of slices and strings, and nil. -/
import Derived.Test.YtihgbhkpjehhcaaAbs1
namespace Abs
open Go

theorem evo_imm (φ : Nat → Nat) (I : Nat → Prop) (H : Heap) (w : World) (o : Obj) (hm : melt o = true := by rfl) : Evo φ I H w φ (fun B => I B ∨ B = w.heap.size) H (w.alloc o) where
  size := by simp
  shape B hB := shape_alloc hB
  keep B hB _ := alloc_old w o B hB
  imm B h := .inl h
  phi i _ := rfl
  len := Nat.le_refl _
  own B h := .inl h
  immf B h := by
    rcases h with h | h
    · exact .inl h
    · exact .inr (.inr (by omega))
  tape := rfl
  os := rfl
  out := rfl
  froz a _ := frozen_alloc hm a

section
variable {P : Program} {γ : Nat → EV} {φ : Nat → Nat} {N : Nat} {I : Nat → Prop} {H : Heap} {w : World}

theorem RV.evo_imm {x : EV} {v : Value} (hI : ∀ B, I B → B < w.heap.size) (o : Obj) (h : RV φ N I w x v) : RV φ N (fun B => I B ∨ B = w.heap.size) (w.alloc o) x v :=
  h.mono (Nat.le_refl _) (fun _ _ => rfl) (fun _ h => .inl h) (fun B hB => alloc_old w o B (hI B hB)) (fun _ _ _ _ hs => (shape_alloc (shape_lt hs)).trans hs)

theorem rh_imm (h : RH γ φ I H w) (o : Obj) : RH γ φ (fun B => I B ∨ B = w.heap.size) H (w.alloc o) where
  glob g := (h.glob g).evo_imm h.imm o
  blk b y hb := (h.blk b y hb).mono (Nat.le_refl _) (fun _ _ => rfl) (fun _ h => .inl h) (fun B hB => alloc_old w o B (h.imm B hB))
    (fun _ _ _ _ hs => (shape_alloc (shape_lt hs)).trans hs) (alloc_old w o _ (h.lt b y hb))
  inj := h.inj
  imm B hB := by
    rcases hB with hB | hB
    · have := h.imm B hB; simp; omega
    · simp; omega
  dis b y hb hI := by
    rcases hI with hI | hI
    · exact h.dis b y hb hI
    · have := h.lt b y hb; omega
  lt b y hb := by have := h.lt b y hb; simp; omega

/-- A row of elements, cell by cell. -/
def RowC (φ : Nat → Nat) (N : Nat) (I : Nat → Prop) (w : World) (sz : Nat) (es : List EV) (c : List Value) : Prop :=
  es.length * sz = c.length ∧ (∀ e ∈ es, e.cells.length = sz) ∧
    ∀ (i j : Nat) (e x : EV) (v : Value), es[i]? = some e → e.cells[j]? = some x → c[i * sz + j]? = some v → RV φ N I w x v

theorem RowC.put {sz : Nat} {es : List EV} {c vs : List Value} {x : EV} {i : Nat} (h : RowC φ N I w sz es c) (hi : i < es.length) (hx : RCs φ N I w x.cells vs) (hs : x.cells.length = sz) :
    RowC φ N I w sz (es.set i x) (c.take (i * sz) ++ vs ++ c.drop (i * sz + sz)) := by
  obtain ⟨h1, h2, h3⟩ := h
  have hmul : i * sz + sz ≤ es.length * sz := by
    have : (i + 1) * sz ≤ es.length * sz := Nat.mul_le_mul_right _ hi
    rw [Nat.add_mul] at this; omega
  have hvs : vs.length = sz := by rw [← hx.1, hs]
  have hfit : i * sz + vs.length ≤ c.length := by omega
  have hlen := splice_len _ _ _ hfit
  have hget := splice_get _ _ _ hfit
  rw [hvs] at hlen hget
  refine ⟨?_, ?_, ?_⟩
  · rw [List.length_set, hlen]; exact h1
  · intro e he
    rcases List.mem_or_eq_of_mem_set he with h | rfl
    · exact h2 e h
    · exact hs
  · intro i' j e y v he hy hv
    rw [hget] at hv
    by_cases hii : i = i'
    · subst hii
      rw [List.getElem?_set_self hi] at he
      simp only [Option.some.injEq] at he; subst he
      have hj := get_lt hy
      rw [if_neg (by omega), if_pos (by omega)] at hv
      exact hx.2 j y v hy (by rw [show i * sz + j - i * sz = j by omega] at hv; exact hv)
    · rw [List.getElem?_set_ne hii] at he
      have hj := get_lt hy
      have hz := h2 e (List.mem_of_getElem? he)
      refine h3 i' j e y v he hy ?_
      rcases Nat.lt_or_gt_of_ne hii with g | g
      · have : (i + 1) * sz ≤ i' * sz := Nat.mul_le_mul_right _ g
        rw [Nat.add_mul] at this
        rw [if_neg (by omega), if_neg (by omega)] at hv; exact hv
      · have : (i' + 1) * sz ≤ i * sz := Nat.mul_le_mul_right _ g
        rw [Nat.add_mul] at this
        rw [if_pos (by omega)] at hv; exact hv

theorem rows_fill {sz : Nat} : ∀ (ps : List (Nat × EV)) (qs : List (Nat × Value)) (es : List EV) (c : Array Value), RowC φ N I w sz es c.toList → ps.length = qs.length →
    (∀ (i : Nat) (p : Nat × EV) (q : Nat × Value), ps[i]? = some p → qs[i]? = some q → p.1 = q.1 ∧ p.1 < es.length ∧ RV φ N I w p.2 q.2 ∧ p.2.cells.all EV.one = true ∧ p.2.cells.length = sz) →
    ∃ c' : Array Value, Instr.fill (fun i => some (i * sz, sz)) c qs = some c' ∧ RowC φ N I w sz (ps.foldl (fun es p => es.set p.1 p.2) es) c'.toList
  | [], [], es, c, h, _, _ => ⟨c, rfl, h⟩
  | (i, x) :: ps, (k, v) :: qs, es, c, h, hl, hp => by
    obtain ⟨h0, h1, h2, h3, h4⟩ := hp 0 _ _ rfl rfl
    simp only at h0 h1 h2 h3 h4
    subst h0
    obtain ⟨g1, g2⟩ := h2.cells h3
    have hx : RCs φ N I w x.cells v.cells.toList := ⟨by simp [g1], fun k y u hy hu => g2 k y u hy (by simpa using hu)⟩
    have step := RowC.put h h1 hx h4
    have hmul : i * sz + sz ≤ es.length * sz := by
      have : (i + 1) * sz ≤ es.length * sz := Nat.mul_le_mul_right _ h1
      rw [Nat.add_mul] at this; omega
    have hcs : es.length * sz = c.size := by simpa using h.1
    have hvs : v.cells.toList.length = sz := by simp [g1, h4]
    have fold := fold_set (i * sz) v.cells.toList 0 c (by rw [hvs]; omega)
    simp only [Nat.add_zero, hvs] at fold
    have hfold : (v.cells.zipIdx.foldl (fun cs (x : Value × Nat) => cs.setIfInBounds (i * sz + x.2) x.1) c).toList = c.toList.take (i * sz) ++ v.cells.toList ++ c.toList.drop (i * sz + sz) := by
      rw [← fold, ← Array.foldl_toList]
      simp
    obtain ⟨c', e1, e2⟩ := rows_fill ps qs (es.set i x) (v.cells.zipIdx.foldl (fun cs (x : Value × Nat) => cs.setIfInBounds (i * sz + x.2) x.1) c) (by rw [hfold]; exact step) (by simpa using hl)
      (fun j p q hp' hq' => by simpa using hp (j + 1) p q (by simpa using hp') (by simpa using hq'))
    refine ⟨c', ?_, e2⟩
    simp only [Instr.fill]
    rw [if_neg (by simp [g1, h4]; omega)]
    exact e1
  | [], _ :: _, _, _, _, hl, _ => by simp at hl
  | _ :: _, [], _, _, _, hl, _ => by simp at hl

theorem rows_zero {sz len : Nat} {z : EV} {vz : Value} (hz : RV φ N I w z vz) (ho : z.cells.all EV.one = true) (hs : z.cells.length = sz) :
    RowC φ N I w sz (List.replicate len z) ((Array.range (len * sz)).map (vz.cells[· % vz.cells.size]!)).toList := by
  obtain ⟨g1, g2⟩ := hz.cells ho
  refine ⟨by simp, fun e he => by rw [List.eq_of_mem_replicate he]; exact hs, fun i j e x v he hx hv => ?_⟩
  have hi := get_lt he
  simp only [List.length_replicate] at hi
  simp [hi] at he
  subst he
  have hj := get_lt hx
  have hlt : i * sz + j < len * sz := mul_add_lt (by omega) hi
  simp only [Array.toList_map, Array.toList_range, List.getElem?_map, List.getElem?_range hlt, Option.map_some, Option.some.injEq] at hv
  have hvs : vz.cells.size = sz := by omega
  rw [hvs, show (i * sz + j) % sz = j by rw [Nat.mul_comm, Nat.mul_add_mod]; exact Nat.mod_eq_of_lt (by omega)] at hv
  have hjj : j < vz.cells.size := by omega
  rw [getElem!_pos vz.cells j hjj] at hv
  exact g2 j x v hx (by rw [← hv]; simp [hjj])


theorem zero_of {t : TypeId} {z : EV} (h : zeroOf P t = some z) : ∃ i v, P.info? t = some i ∧ i.zero = some v ∧ evConst v = some z := by
  unfold zeroOf at h
  simp only [Option.bind_eq_some_iff] at h
  obtain ⟨v, ⟨i, hi, hv⟩, hz⟩ := h
  exact ⟨i, v, hi, hv, hz⟩

/-- A slice literal: its cells. -/
theorem bsl_cells {t e : TypeId} {ag : Bool} {sz len : Nat} {z : EV} (hu : P.underlying t = some (.slice e)) (hty : tyOf P e = some (ag, sz)) (hz : zeroOf P e = some z)
    (hs : z.cells.length = sz) (ho : z.cells.all EV.one = true) (hle : len * sz ≤ 2 ^ 24) {ps : List (Nat × EV)} {qs : Array (Nat × Value)} (hl : ps.length = qs.size)
    (hp : ∀ (i : Nat) (p : Nat × EV) (q : Nat × Value), ps[i]? = some p → qs[i]? = some q → p.1 = q.1 ∧ p.1 < len ∧ RV φ N I w p.2 q.2 ∧ p.2.cells.all EV.one = true ∧ p.2.cells.length = sz) :
    ∃ c : Array Value, (Instr.buildSlice t len qs).run P w = .ok (.slice (some ⟨w.heap.size, 0, none⟩) len len) (w.alloc (.cells c e)) ∧
      RowC φ N I w sz (ps.foldl (fun es p => es.set p.1 p.2) (List.replicate len z)) c.toList := by
  obtain ⟨i, v, hi, hv, hc⟩ := zero_of hz
  have hsz := (tyOf_agg hty w).2.1
  have hzv : RV φ N I w z v := evConst_rv hc
  have h0 := rows_zero (len := len) hzv ho hs
  have fill : ∀ c0 : Array Value, RowC φ N I w sz (List.replicate len z) c0.toList → ∃ c' : Array Value, Instr.fill (fun i => some (i * sz, sz)) c0 qs.toList = some c' ∧
      RowC φ N I w sz (ps.foldl (fun es p => es.set p.1 p.2) (List.replicate len z)) c'.toList := fun c0 h =>
    rows_fill ps qs.toList (List.replicate len z) c0 h (by simpa using hl) (fun i p q h1 h2 => by simpa using hp i p q h1 (by simpa using h2))
  by_cases hn : len * sz = 0
  · obtain ⟨c', e1, e2⟩ := fill ((Array.range 0).map fun _ => (default : Value)) (by
      refine ⟨by simp [hn], h0.2.1, fun i j e' x v he hx hv => by simp at hv⟩)
    refine ⟨c', ?_, e2⟩
    simp only [Instr.buildSlice, Sem.run_bind, run_underlying hu, Result.andThen_ok, hsz]
    rw [if_neg (by omega)]
    simp only [hn, if_true, Sem.run_bind, Sem.run_pure, Result.andThen_ok]
    simp [newRow, e1]
  · obtain ⟨c', e1, e2⟩ := fill _ h0
    refine ⟨c', ?_, e2⟩
    simp only [Instr.buildSlice, Sem.run_bind, run_underlying hu, Result.andThen_ok, hsz]
    rw [if_neg (by omega)]
    have hzero : (zeroValue e).run P w = .ok v w := by simp [zeroValue, typeInfo, hi, hv]
    simp only [hn, if_false, Sem.run_bind, Sem.run_pure, hzero, Result.andThen_ok]
    simp [newRow, e1]

theorem bsl_imm (hr : RH γ φ I H w) {t e : TypeId} {ag : Bool} {sz len : Nat} {z : EV} (hu : P.underlying t = some (.slice e)) (hty : tyOf P e = some (ag, sz)) (hz : zeroOf P e = some z)
    (hs : z.cells.length = sz) (ho : z.cells.all EV.one = true) (hle : len * sz ≤ 2 ^ 24) {ps : List (Nat × EV)} {qs : Array (Nat × Value)} (hl : ps.length = qs.size)
    (hp : ∀ (i : Nat) (p : Nat × EV) (q : Nat × Value), ps[i]? = some p → qs[i]? = some q → p.1 = q.1 ∧ p.1 < len ∧ RV φ H.length I w p.2 q.2 ∧ p.2.cells.all EV.one = true ∧ p.2.cells.length = sz) :
    ∃ I' val w', (Instr.buildSlice t len qs).run P w = .ok val w' ∧ Evo φ I H w φ I' H w' ∧ RH γ φ I' H w' ∧
      RV φ H.length I' w' (.imm sz (ps.foldl (fun es p => es.set p.1 p.2) (List.replicate len z))) val := by
  obtain ⟨c, h1, h2, h3, h4⟩ := bsl_cells (w := w) hu hty hz hs ho hle hl hp
  refine ⟨_, _, _, h1, evo_imm φ I H w _, rh_imm hr _, ?_⟩
  have hlen : (ps.foldl (fun es p => es.set p.1 p.2) (List.replicate len z)).length = len := by
    have : ∀ (ps : List (Nat × EV)) (es : List EV), (ps.foldl (fun es p => es.set p.1 p.2) es).length = es.length := by
      intro ps
      induction ps with
      | nil => intro es; rfl
      | cons p ps ih => intro es; rw [List.foldl_cons, ih, List.length_set]
    rw [this]; simp
  have := RV.imm (φ := φ) (N := H.length) (I := fun B => I B ∨ B = w.heap.size) (w := w.alloc (.cells c e)) sz _ w.heap.size 0 len c e (0, 0) (.inr rfl) (alloc_new w _)
    (by rw [h2]; simp) (by rw [hlen]; exact Nat.le_refl _) h3
    (fun i j e' x v he hx hv => (h4 i j e' x v he hx (by simpa using hv)).evo_imm hr.imm _)
  rwa [hlen] at this

theorem bsl_own (hr : RH γ φ I H w) {t e : TypeId} {ag : Bool} {sz len : Nat} {z : EV} (hu : P.underlying t = some (.slice e)) (hty : tyOf P e = some (ag, sz)) (hz : zeroOf P e = some z)
    (hs : z.cells.length = sz) (ho : z.cells.all EV.one = true) (hle : len * sz ≤ 2 ^ 24) {ps : List (Nat × EV)} {qs : Array (Nat × Value)} (hl : ps.length = qs.size)
    (hp : ∀ (i : Nat) (p : Nat × EV) (q : Nat × Value), ps[i]? = some p → qs[i]? = some q → p.1 = q.1 ∧ p.1 < len ∧ RV φ H.length I w p.2 q.2 ∧ p.2.cells.all EV.one = true ∧ p.2.cells.length = sz) :
    ∃ φ' val w', (Instr.buildSlice t len qs).run P w = .ok val w' ∧ Evo φ I H w φ' I (H ++ [some (.row sz (ps.foldl (fun es p => es.set p.1 p.2) (List.replicate len z)))]) w' ∧
      RH γ φ' I (H ++ [some (.row sz (ps.foldl (fun es p => es.set p.1 p.2) (List.replicate len z)))]) w' ∧
      RV φ' (H.length + 1) I w' (.own H.length sz 0 len) val := by
  obtain ⟨c, h1, h2, h3, h4⟩ := bsl_cells (w := w) hu hty hz hs ho hle hl hp
  have hev := evo_alloc φ I H w (.cells c e) (.row sz (ps.foldl (fun es p => es.set p.1 p.2) (List.replicate len z)))
  have hlen : (ps.foldl (fun es p => es.set p.1 p.2) (List.replicate len z)).length = len := by
    have : ∀ (ps : List (Nat × EV)) (es : List EV), (ps.foldl (fun es p => es.set p.1 p.2) es).length = es.length := by
      intro ps
      induction ps with
      | nil => intro es; rfl
      | cons p ps ih => intro es; rw [List.foldl_cons, ih, List.length_set]
    rw [this]; simp
  refine ⟨_, _, _, h1, hev, rh_alloc hr ⟨c, e, alloc_new w _, by rw [h2]; simp, h3, fun i j e' x v he hx hv => ?_⟩, ?_⟩
  · have := hev.rv hr (h4 i j e' x v he hx (by simpa using hv))
    simpa using this
  · have hsh : (w.alloc (.cells c e)).shape? (up φ H.length w.heap.size H.length) = some (e, c.size) := by
      rw [up_eq]; unfold World.shape?; rw [alloc_new]
    have hsize : len * sz = c.size := by rw [← hlen, h2]; simp
    have := RV.own (I := I) H.length sz 0 len len c.size e (Nat.lt_succ_self _) hsh (by rw [Nat.zero_add, hsize]; exact Nat.le_refl _) (Nat.le_refl _)
    rw [up_eq] at this
    simpa using this

theorem slStr_sound {t : TypeId} (hu : P.underlying t = some .string) {s : List UInt8} {v : Value} (hx : RV φ N I w (.str s) v) {lo hi : Option EV} {vlo vhi : Option Value} {l h : Nat}
    (h1 : match lo, vlo with | none, none => True | some x, some v => RV φ N I w x v | _, _ => False)
    (h2 : match hi, vhi with | none, none => True | some x, some v => RV φ N I w x v | _, _ => False)
    (hev : evBounds s.length s.length lo hi = some (l, h)) :
    ∃ val, (Instr.sliceAt t v vlo vhi none).run P w = .ok val w ∧ RV φ N I w (.str ((s.drop l).take (h - l))) val := by
  cases hx
  obtain ⟨b1, b2, b3⟩ := bounds_sound (P := P) (isSlice := false) h1 h2 hev (Nat.le_refl _) s.length (Nat.le_refl _)
  refine ⟨.string ((⟨s.toArray⟩ : ByteArray).extract l h), ?_, ?_⟩
  · simp [Instr.sliceAt, run_underlying hu, Instr.slice, bytes_size, b1]
  · have : (⟨s.toArray⟩ : ByteArray).extract l h = ⟨((s.drop l).take (h - l)).toArray⟩ := by
      apply ByteArray.ext
      simp [ByteArray.data_extract, List.extract]
    rw [this]
    exact .str _


theorem cut_sound {t e : TypeId} {i : TypeInfo} (hu : P.underlying t = some (.slice e)) (hinf : P.info? e = some i) {x y : EV} {v : Value} (hx : RV φ N I w x v) {lo hi : Option EV} {vlo vhi : Option Value}
    (h1 : match lo, vlo with | none, none => True | some x, some v => RV φ N I w x v | _, _ => False)
    (h2 : match hi, vhi with | none, none => True | some x, some v => RV φ N I w x v | _, _ => False)
    (hev : evCut i.size x lo hi = some y) :
    ∃ val, (Instr.sliceAt t v vlo vhi none).run P w = .ok val w ∧ RV φ N I w y val := by
  have run : ∀ (a : Option Addr) (len cap l h : Nat), (Instr.sliceBounds true len cap vlo vhi none).run P w = .ok (l, h, cap) w →
      (Instr.sliceAt t (.slice a len cap) vlo vhi none).run P w = .ok (.slice (if cap = l then a else a.map (·.add (l * i.size))) (h - l) (cap - l)) w := by
    intro a len cap l h hb
    simp [Instr.sliceAt, run_underlying hu, Instr.slice, hb, Go.sizeOf, typeInfo, hinf]
  unfold evCut at hev
  split at hev
  · split at hev
    · rename_i p hp
      simp only [Option.some.injEq] at hev; subst hev
      cases hx
      obtain ⟨b1, b2, b3⟩ := bounds_sound (P := P) (isSlice := true) h1 h2 (l := p.1) (h := p.2) hp (Nat.le_refl _) 0 (Nat.le_refl _)
      refine ⟨_, run _ _ _ _ _ b1, ?_⟩
      have e1 : p.1 = 0 := by omega
      have e2 : p.2 = 0 := by omega
      rw [e1, e2]
      exact .nilsl
    · simp at hev
  · rename_i b bs off len
    split at hev
    · rename_i hs
      subst hs
      split at hev
      · rename_i p hp
        simp only [Option.some.injEq] at hev; subst hev
        cases hx with
        | own0 _ _ _ a hb =>
          obtain ⟨b1, b2, b3⟩ := bounds_sound (P := P) (isSlice := true) h1 h2 (l := p.1) (h := p.2) hp (Nat.le_refl _) 0 (Nat.le_refl _)
          refine ⟨_, run _ _ _ _ _ b1, ?_⟩
          have e1 : p.1 = 0 := by omega
          have e2 : p.2 = 0 := by omega
          rw [e1, e2]
          exact .own0 b _ _ a hb
        | own _ _ _ _ cap n T hb hsh hn hc =>
          obtain ⟨b1, b2, b3⟩ := bounds_sound (P := P) (isSlice := true) h1 h2 (l := p.1) (h := p.2) hp (Nat.le_refl _) cap hc
          refine ⟨_, run _ _ _ _ _ b1, ?_⟩
          by_cases hcl : cap = p.1
          · have e2 : p.2 - p.1 = 0 := by omega
            have e3 : cap - p.1 = 0 := by omega
            rw [if_pos hcl, e2, e3]
            exact .own0 b _ _ _ hb
          · rw [if_neg hcl]
            simp only [Option.map_some, addr_add]
            rw [← Nat.add_mul]
            exact .own b i.size (off + p.1) (p.2 - p.1) (cap - p.1) n T hb hsh (by rw [show off + p.1 + (cap - p.1) = off + cap by omega]; exact hn) (by omega)
      · simp at hev
    · simp at hev
  · rename_i bs es
    split at hev
    · rename_i hs
      subst hs
      split at hev
      · rename_i p hp
        simp only [Option.some.injEq] at hev; subst hev
        cases hx with
        | imm0 _ a =>
          obtain ⟨b1, b2, b3⟩ := bounds_sound (P := P) (isSlice := true) h1 h2 (l := p.1) (h := p.2) hp (Nat.le_refl _) 0 (Nat.le_refl _)
          refine ⟨_, run _ _ _ _ _ b1, ?_⟩
          have e1 : p.1 = 0 := by simp at b3; omega
          have e2 : p.2 = 0 := by simp at b3; omega
          rw [e1, e2]
          exact .imm0 _ a
        | imm _ _ B o cap c T fr hI hB hs hc hz h =>
          obtain ⟨b1, b2, b3⟩ := bounds_sound (P := P) (isSlice := true) h1 h2 (l := p.1) (h := p.2) hp (Nat.le_refl _) cap hc
          refine ⟨_, run _ _ _ _ _ b1, ?_⟩
          by_cases hcl : cap = p.1
          · have e2 : p.2 - p.1 = 0 := by omega
            have e3 : cap - p.1 = 0 := by omega
            rw [if_pos hcl, e2, e3, List.take_zero]
            exact .imm0 _ _
          · rw [if_neg hcl]
            simp only [Option.map_some, addr_add]
            have hlen : ((es.drop p.1).take (p.2 - p.1)).length = p.2 - p.1 := by simp; omega
            have hmul : p.1 * i.size + (p.2 - p.1) * i.size ≤ es.length * i.size := by
              rw [← Nat.add_mul]; exact Nat.mul_le_mul_right _ (by omega)
            have := RV.imm (φ := φ) (N := N) i.size ((es.drop p.1).take (p.2 - p.1)) B (o + p.1 * i.size) (cap - p.1) c T fr hI hB (by rw [hlen]; omega) (by rw [hlen]; omega)
              (fun e he => hz e (List.mem_of_mem_drop (List.mem_of_mem_take he)))
              (fun k j e x v he hx hv => by
                have hk := get_lt he
                rw [hlen] at hk
                rw [List.getElem?_take_of_lt hk, List.getElem?_drop] at he
                refine h (p.1 + k) j e x v he hx ?_
                rw [show o + (p.1 + k) * i.size + j = o + p.1 * i.size + k * i.size + j by rw [Nat.add_mul]; omega]
                exact hv)
            rwa [hlen] at this
      · simp at hev
    · simp at hev
  · simp at hev

theorem guard_else {P : Program} {op : BinOp} {t : TypeId} {ox oy : Operand} {a b : Value} {w : World} (h1 : ¬ (a = .nilIface ∧ b = .nilIface)) (h2 : ∀ xs ys, ¬ (a = .agg xs ∧ b = .agg ys)) :
    (eqGuard op t ox oy a b).run P w = .ok () w := by
  cases a <;> cases b <;> first
    | (cases op <;> rfl)
    | exact absurd ⟨rfl, rfl⟩ h1
    | exact absurd ⟨rfl, rfl⟩ (h2 _ _)

theorem cmpNil_sound {t : TypeId} (ox oy : Operand) {op : BinOp} (hop : op = .eql ∨ op = .neq) {k : NK} (hk : nkOf P t = some k) {x y : EV} {vx vy : Value} (hx : RV φ N I w x vx) (hy : RV φ N I w y vy)
    {r : Bool} (hev : evNil k x y = some r) : (do eqGuard op t ox oy vx vy; binOp op t vx vy : Sem Value).run P w = .ok (.bool (if op == .neq then !r else r)) w := by
  have fin : (∀ d, (Go.Op.equalIn (d + 1) t vx vy).run P w = .ok r w) → (eqGuard op t ox oy vx vy).run P w = .ok () w → (binOp .eql t vx vy = do pure (.bool (← Go.Op.equal t vx vy))) →
      (binOp .neq t vx vy = do pure (.bool (!(← Go.Op.equal t vx vy)))) → (do eqGuard op t ox oy vx vy; binOp op t vx vy : Sem Value).run P w = .ok (.bool (if op == .neq then !r else r)) w := by
    intro h0 h2 h3 h4
    have h1 : (Go.Op.equal t vx vy).run P w = .ok r w := h0 9999
    simp only [Sem.run_bind, h2, Result.andThen_ok]
    rcases hop with rfl | rfl
    · rw [h3]; simp [h1]
    · rw [h4]; simp [h1]
  unfold nkOf at hk
  unfold evNil at hev
  split at hev <;> simp only [Option.some.injEq, reduceCtorEq] at hev <;> subst hev <;>
    (split at hk <;> simp only [Option.some.injEq, reduceCtorEq] at hk) <;> rename_i hu <;> cases hx <;> cases hy <;>
    refine fin (fun d => ?_) (guard_else (by simp) (by simp)) rfl rfl <;> simp only [Go.Op.equalIn, Sem.run_bind, run_underlying hu, Result.andThen_ok, Sem.run_pure, Option.isNone_none, Option.isNone_some]

theorem isC_const {o : Operand} {e : EOpd} (h : resOpd o = some e) (hc : e.isC = true) : ∃ v, o = .const v := by
  cases o with
  | const v => exact ⟨v, rfl⟩
  | tmp t => simp only [resOpd, Option.some.injEq] at h; subst h; simp [EOpd.isC] at hc
  | global g => simp only [resOpd, Option.some.injEq] at h; subst h; simp [EOpd.isC] at hc
  | func f => simp only [resOpd, Option.some.injEq] at h; subst h; simp [EOpd.isC] at hc

theorem cmpNilC_sound {t : TypeId} (ox oy : Operand) {ex ey : EOpd} (hox : resOpd ox = some ex) (hoy : resOpd oy = some ey) {op : BinOp} (hop : op = .eql ∨ op = .neq) {k : NK} (hk : nkOf P t = some k) {x y : EV} {vx vy : Value} (hx : RV φ N I w x vx) (hy : RV φ N I w y vy)
    {r : Bool} (hev : evNilC (ex.isC || ey.isC) k x y = some r) : (do eqGuard op t ox oy vx vy; binOp op t vx vy : Sem Value).run P w = .ok (.bool (if op == .neq then !r else r)) w := by
  unfold evNilC at hev
  split at hev
  · split at hev
    case isFalse => simp at hev
    rename_i hc
    obtain rfl := Option.some.inj hev
    cases hx
    cases hy
    unfold nkOf at hk
    split at hk <;> simp only [Option.some.injEq, reduceCtorEq] at hk
    rename_i hu
    have h0 : ∀ d, (Go.Op.equalIn (d + 1) t .nilIface .nilIface).run P w = .ok true w := fun d => by
      simp only [Go.Op.equalIn, Sem.run_bind, run_underlying hu, Result.andThen_ok, Sem.run_pure]
    have h1 : (Go.Op.equal t .nilIface .nilIface).run P w = .ok true w := h0 9999
    have h2 : (eqGuard op t ox oy .nilIface .nilIface).run P w = .ok () w := by
      rw [Bool.or_eq_true] at hc
      rcases hc with hc | hc
      · obtain ⟨v, rfl⟩ := isC_const hox hc
        rcases hop with rfl | rfl <;> rfl
      · obtain ⟨v, rfl⟩ := isC_const hoy hc
        rcases hop with rfl | rfl <;> cases ox <;> rfl
    simp only [Sem.run_bind, h2, Result.andThen_ok]
    rcases hop with rfl | rfl
    · show (do pure (.bool (← Go.Op.equal t .nilIface .nilIface)) : Sem Value).run P w = _
      simp [h1]
    · show (do pure (.bool (!(← Go.Op.equal t .nilIface .nilIface))) : Sem Value).run P w = _
      simp [h1]
  · exact cmpNil_sound ox oy hop hk hx hy hev

end
end Abs
