/- Addresses, parts, slices, and new blocks. -/
import Derived.Test.YtcjnpmaljfkpgaaDoorAbs7
namespace Abs
open Go

section
variable {P : Program} {γ : Nat → EV} {φ : Nat → Nat} {N : Nat} {I : Nat → Prop} {H : Heap} {w : World}

theorem box_sound (hr : RH γ φ I H w) (t : TypeId) {x : EV} {v : Value} (hx : RV φ H.length I w x v) (ho : x.cells.all EV.one = true) :
    ∃ φ' w', (Instr.box t v).run P w = .ok (.pointer (some ⟨w.heap.size, 0, none⟩)) w' ∧ Evo φ I H w φ' I (H ++ [some (.row x.cells.length [x])]) w' ∧
      RH γ φ' I (H ++ [some (.row x.cells.length [x])]) w' ∧ RV φ' (H ++ [some (EB.row x.cells.length [x])]).length I w' (.ptr H.length x.cells.length 0 0) (.pointer (some ⟨w.heap.size, 0, none⟩)) := by
  obtain ⟨h1, h2⟩ := hx.cells ho
  have hev := evo_alloc φ I H w (.cells v.cells t) (.row x.cells.length [x])
  refine ⟨up φ H.length w.heap.size, w.alloc (.cells v.cells t), by simp [Instr.box, newVar, newRow], hev, rh_alloc hr ?_, ?_⟩
  · refine ⟨v.cells, t, alloc_new w _, by simp [h1], by simp, fun i j e y u he hy hu => ?_⟩
    cases i with
    | zero =>
      simp only [List.getElem?_cons_zero, Option.some.injEq] at he
      subst he
      have := hev.rv hr (h2 j y u hy (by simpa using hu))
      simpa using this
    | succ i => simp at he
  · have := RV.ptr (φ := up φ H.length w.heap.size) (I := I) (w := w.alloc (.cells v.cells t)) (N := (H ++ [some (EB.row x.cells.length [x])]).length) H.length x.cells.length 0 0 (by simp)
    rw [up_eq] at this
    simpa using this

theorem ptr_add {x : EV} {v : Value} {off : Nat} (hx : RV φ N I w x v) {y : EV}
    (hev : evAdd off x = some y) :
    ∃ B o, v = .pointer (some ⟨B, o, none⟩) ∧ RV φ N I w y (.pointer (some ⟨B, o + off, none⟩)) := by
  unfold evAdd at hev
  split at hev <;> simp only [Option.some.injEq, reduceCtorEq] at hev <;> subst hev
  · rename_i b sz i j
    cases hx with
    | ptr _ _ _ _ hb => exact ⟨_, _, rfl, by rw [Nat.add_assoc]; exact .ptr b sz i (j + off) hb⟩
  · rename_i cells j
    cases hx with
    | iptr _ _ B o c T fr hI hB hs h => exact ⟨_, _, rfl, by rw [Nat.add_assoc]; exact .iptr cells (j + off) B o c T fr hI hB hs h⟩

theorem faddr_sound {t : TypeId} {fs : Array Field} {f : Nat} {fd : Field} {i : TypeInfo} (hu : P.underlying t = some (.struct fs)) (hf : fs[f]? = some fd) (hi : P.info? fd.type = some i) (hz : i.size ≠ 0)
    {x y : EV} {v : Value} (hx : RV φ N I w x v)
    (hev : evAdd fd.offset x = some y) :
    ∃ val, (Instr.fieldAt t v f).run P w = .ok val w ∧ RV φ N I w y val := by
  obtain ⟨B, o, rfl, h⟩ := ptr_add hx hev
  exact ⟨_, by simp [Instr.fieldAt, run_underlying hu, hf, Instr.sureAddr, fieldPlace, Go.sizeOf, typeInfo, hi, hz, addr_add], h⟩

theorem iaddrA_sound {t e : TypeId} {len : Nat} {i : TypeInfo} (hu : P.underlying t = some (.array len e)) (hi : P.info? e = some i)
    {x y : EV} {v : Value} {k : IntKind} {n : Int} (hx : RV φ N I w x v) (h0 : 0 ≤ n) (h1 : n < len)
    (hev : evAdd (n.toNat * i.size) x = some y) :
    ∃ val, (Instr.indexAt t v (.int k n)).run P w = .ok val w ∧ RV φ N I w y val := by
  obtain ⟨B, o, rfl, h⟩ := ptr_add hx hev
  exact ⟨_, by simp [Instr.indexAt, asIntOf, run_underlying hu, Instr.sureAddr, h0, h1, Go.sizeOf, typeInfo, hi, addr_add], h⟩

theorem iaddrS_sound {t e : TypeId} {i : TypeInfo} (hu : P.underlying t = some (.slice e)) (hi : P.info? e = some i)
    {x y : EV} {v : Value} {k : IntKind} {n : Int} (hx : RV φ N I w x v)
    (hev : evElem i.size n x = some y) :
    ∃ val, (Instr.indexAt t v (.int k n)).run P w = .ok val w ∧ RV φ N I w y val := by
  unfold evElem at hev
  split at hev
  · rename_i b bs off len
    split at hev
    · rename_i hc
      obtain ⟨rfl, h0, h1⟩ := hc
      simp only [Option.some.injEq] at hev; subst hev
      cases hx with
      | own0 _ _ _ a hb => exfalso; omega
      | own _ _ _ _ cap m T hb hs hn hc =>
        refine ⟨.pointer (some ⟨φ b, off * i.size + n.toNat * i.size, none⟩), by simp [Instr.indexAt, asIntOf, run_underlying hu, h0, h1, Go.sizeOf, typeInfo, hi, addr_add], ?_⟩
        have := RV.ptr (φ := φ) (I := I) (w := w) b i.size (off + n.toNat) 0 hb
        rw [Nat.add_mul] at this
        simpa using this
    · simp at hev
  · rename_i bs es
    split at hev
    · rename_i hc
      obtain ⟨rfl, h0⟩ := hc
      split at hev
      · rename_i e' he
        simp only [Option.some.injEq] at hev; subst hev
        have hlt := get_lt he
        cases hx with
        | imm0 => simp at hlt
        | imm _ _ B o cap c T fr hI hB hs hc hz h =>
          refine ⟨.pointer (some ⟨B, o + n.toNat * i.size, none⟩), ?_, ?_⟩
          · have h1 : n < (es.length : Int) := by omega
            simp [Instr.indexAt, asIntOf, run_underlying hu, h0, h1, Go.sizeOf, typeInfo, hi, addr_add]
          · have hze := hz e' (List.mem_of_getElem? he)
            have hmul : n.toNat * i.size + i.size ≤ es.length * i.size := by
              have : (n.toNat + 1) * i.size ≤ es.length * i.size := Nat.mul_le_mul_right _ hlt
              rw [Nat.add_mul] at this; omega
            have := RV.iptr (φ := φ) (N := N) e'.cells 0 B (o + n.toNat * i.size) c T fr hI hB (by omega) fun k x v hx hv => h n.toNat k e' x v he hx hv
            simpa using this
      · simp at hev
    · simp at hev
  · simp at hev

/-- A part of a value's cells. -/
theorem part_sound {t : TypeId} {ag : Bool} {n off : Nat} (hty : tyOf P t = some (ag, n)) {cs : List EV} {vs : Array Value} (hl : cs.length = vs.size) (hle : off + n ≤ cs.length)
    (h : ∀ (k : Nat) (x : EV) (v : Value), cs[k]? = some x → vs[k]? = some v → RV φ N I w x v) :
    ∃ val, (part t vs off).run P w = .ok val w ∧ RV φ N I w (pack ag ((cs.drop off).take n)) val := by
  obtain ⟨h1, h2, h3⟩ := tyOf_agg hty w
  cases ag with
  | true =>
    refine ⟨.agg (vs.extract off (off + n)), by simp [part, h1, h2], .agg _ _ (by simp; omega) fun k x v hx hv => ?_⟩
    have hk := get_lt hx
    simp only [List.length_take, List.length_drop] at hk
    rw [List.getElem?_take_of_lt (by omega), List.getElem?_drop] at hx
    refine h (off + k) x v hx ?_
    rw [Array.getElem?_extract] at hv
    split at hv
    · exact hv
    · simp at hv
  | false =>
    obtain rfl := h3 rfl
    have hlt : off < vs.size := by omega
    refine ⟨vs[off], by simp [part, h1, hlt], ?_⟩
    have : (cs.drop off).take 1 = [cs[off]'(by omega)] := by rw [List.drop_eq_getElem_cons (by omega)]; rfl
    rw [this]
    exact h off _ _ (List.getElem?_eq_getElem (by omega)) (by simp [hlt])

theorem field_sound {t : TypeId} {fs : Array Field} {f : Nat} {fd : Field} {ag : Bool} {n : Nat} (hu : P.underlying t = some (.struct fs)) (hf : fs[f]? = some fd) (hty : tyOf P fd.type = some (ag, n))
    {cs : List EV} {v : Value} (hx : RV φ N I w (.agg cs) v) (hle : fd.offset + n ≤ cs.length) :
    ∃ val, (Instr.field t v f).run P w = .ok val w ∧ RV φ N I w (pack ag ((cs.drop fd.offset).take n)) val := by
  cases hx with
  | agg _ vs hl h =>
    obtain ⟨val, h1, h2⟩ := part_sound (P := P) hty hl hle h
    exact ⟨val, by simp [Instr.field, run_underlying hu, hf, asAgg, h1], h2⟩

theorem idxA_sound {t e : TypeId} {len : Nat} {ag : Bool} {n : Nat} (hu : P.underlying t = some (.array len e)) (hty : tyOf P e = some (ag, n))
    {cs : List EV} {v : Value} {k : IntKind} {m : Int} (hx : RV φ N I w (.agg cs) v) (h0 : 0 ≤ m) (h1 : m < len) (hle : len * n ≤ cs.length) :
    ∃ val, (Instr.index t v (.int k m)).run P w = .ok val w ∧ RV φ N I w (pack ag ((cs.drop (m.toNat * n)).take n)) val := by
  cases hx with
  | agg _ vs hl h =>
    have hmul : m.toNat * n + n ≤ len * n := by
      have : (m.toNat + 1) * n ≤ len * n := Nat.mul_le_mul_right _ (by omega)
      rw [Nat.add_mul] at this; omega
    obtain ⟨val, g1, g2⟩ := part_sound (P := P) (off := m.toNat * n) hty hl (by omega) h
    exact ⟨val, by simp [Instr.index, asIntOf, run_underlying hu, h0, h1, (tyOf_agg hty w).2.1, g1], g2⟩

theorem idxStr_sound {t : TypeId} (hu : P.underlying t = some .string) {s : List UInt8} {v : Value} {k : IntKind} {m : Int} (hx : RV φ N I w (.str s) v) (h0 : 0 ≤ m) {b : UInt8} (hb : s[m.toNat]? = some b) :
    (Instr.index t v (.int k m)).run P w = .ok (.int .u8 b.toNat) w := by
  cases hx
  have hlt := get_lt hb
  have e : (⟨s.toArray⟩ : ByteArray)[m.toNat]? = some b := by
    obtain ⟨_, h⟩ := List.getElem?_eq_some_iff.1 hb
    rw [getElem?_pos (⟨s.toArray⟩ : ByteArray) m.toNat (by rw [bytes_size]; exact hlt)]
    exact congrArg some h
  simp [Instr.index, asIntOf, run_underlying hu, h0, e]

theorem extract_sound {vs : List EV} {v : Value} {i : Nat} {x : EV} (hx : RV φ N I w (.tup vs) v) (he : vs[i]? = some x) :
    ∃ val, (Instr.extract v i).run P w = .ok val w ∧ RV φ N I w x val := by
  cases hx with
  | tup _ ws hl h =>
    have hlt := get_lt he
    have hlt' : i < ws.size := by omega
    exact ⟨ws[i], by simp [Instr.extract, hlt'], h i x _ he (by simp [hlt'])⟩

theorem len_sound {ats : Array TypeId} {ty t : TypeId} {vs : Array Value} {str : Bool} (ht : ats[0]? = some t) (hu : (str = true ∧ P.underlying t = some .string) ∨ (str = false ∧ ∃ e, P.underlying t = some (.slice e)))
    {x : EV} {v : Value} {n : Nat} (hv : vs[0]? = some v) (hx : RV φ N I w x v) (hev : evLen str x = some n) :
    (Builtin.len_ ats ty vs).run P w = .ok (.int .i64 n) w := by
  unfold evLen at hev
  split at hev <;> simp only [Option.some.injEq, reduceCtorEq] at hev <;> subst hev
  · have h : P.underlying t = some .string := by simpa using hu
    cases hx
    simp [Builtin.len_, ht, hv, run_underlying h, goInt, bytes_size]
  all_goals
    have h : ∃ e, P.underlying t = some (.slice e) := by simpa using hu
    obtain ⟨e, h⟩ := h
    cases hx <;> simp [Builtin.len_, ht, hv, run_underlying h, goInt]

end
end Abs
