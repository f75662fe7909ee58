/- Each operation of the machine does what the abstract one says. -/
import Derived.Test.YtcjnpmaljfkpgaaDoorAbs3
namespace Abs
open Go

/-- Marks among the deferred calls: loops over functions leave them. -/
def mark (D : Nat) : Deferred := { target := .collected D, args := #[] }
def Marks (nb : Nat) (φ : Nat → Nat) (I : Nat → Prop) (H : Heap) (w : World) (ds : List Deferred) : Prop :=
  nb ≤ w.heap.size ∧ ∃ Ds : List Nat, ds = Ds.map mark ∧ Ds.Nodup ∧ ∀ D ∈ Ds, nb ≤ D ∧ w.heap[D]? = some (.deferred (some [])) ∧ ¬ Own φ H D ∧ ¬ I D

theorem Marks.none {nb : Nat} {φ : Nat → Nat} {I : Nat → Prop} {H : Heap} {w : World} (h : nb ≤ w.heap.size) : Marks nb φ I H w [] := ⟨h, [], rfl, List.nodup_nil, by simp⟩

theorem Marks.evo {nb : Nat} {φ φ' : Nat → Nat} {I I' : Nat → Prop} {H H' : Heap} {w w' : World} {ds : List Deferred} (h : Marks nb φ I H w ds) (he : Evo φ I H w φ' I' H' w') : Marks nb φ' I' H' w' ds := by
  obtain ⟨hnb, Ds, rfl, hnd, hD⟩ := h
  refine ⟨Nat.le_trans hnb he.size, Ds, rfl, hnd, fun D hm => ?_⟩
  obtain ⟨h1, h2, h3, h4⟩ := hD D hm
  have hlt : D < w.heap.size := (Array.getElem?_eq_some_iff.1 h2).1
  refine ⟨h1, (he.keep D hlt h3).trans h2, fun ho => ?_, fun hi => ?_⟩
  · rcases he.own D ho with h | h
    · exact h3 h
    · omega
  · rcases he.immf D hi with h | h | h
    · exact h4 h
    · exact h3 h
    · omega

structure Rel (γ : Nat → EV) (n nb : Nat) (φ : Nat → Nat) (I : Nat → Prop) (s : Slots) (H : Heap) (a : Act) (w : World) : Prop where
  sz : a.tmps.size = n
  slots : ∀ t, RV φ H.length I w (s t) (a.tmps.getD t Go.undef)
  heap : RH γ φ I H w
  defers : Marks nb φ I H w a.defers

theorem evScalar_rv {φ : Nat → Nat} {N : Nat} {I : Nat → Prop} {w : World} {v : Value} {x : EV} (h : evScalar v = some x) : RV φ N I w x v := by
  unfold evScalar at h
  split at h <;> simp only [Option.some.injEq, reduceCtorEq] at h <;> subst h
  · exact .bool _
  · exact .int _ _
  · rename_i s
    have : RV φ N I w (.str s.data.toList) (.string ⟨s.data.toList.toArray⟩) := .str _
    simpa using this
  · exact .nilptr
  · exact .nilsl
  · exact .nilfn
  · exact .nilif
  · exact .nilmap

theorem mapM_get {α β : Type} {f : α → Option β} : ∀ {l : List α} {m : List β}, l.mapM f = some m → m.length = l.length ∧ ∀ (i : Nat) (x : α) (y : β), l[i]? = some x → m[i]? = some y → f x = some y
  | [], m, h => by
    simp at h; subst h; simp
  | x :: l, m, h => by
    simp only [List.mapM_cons, Option.pure_def, Option.bind_eq_bind, Option.bind_eq_some_iff, Option.some.injEq] at h
    obtain ⟨y, hy, m', hm, rfl⟩ := h
    obtain ⟨h1, h2⟩ := mapM_get hm
    refine ⟨by simp [h1], fun i => ?_⟩
    cases i with
    | zero => intro a b ha hb; simp at ha hb; subst ha hb; exact hy
    | succ i => intro a b ha hb; exact h2 i a b (by simpa using ha) (by simpa using hb)

theorem evConst_rv {φ : Nat → Nat} {N : Nat} {I : Nat → Prop} {w : World} {v : Value} {x : EV} (h : evConst v = some x) : RV φ N I w x v := by
  unfold evConst at h
  split at h
  · rename_i cs
    simp only [Option.map_eq_some_iff] at h
    obtain ⟨m, hm, rfl⟩ := h
    obtain ⟨h1, h2⟩ := mapM_get hm
    refine .agg m cs (by simpa using h1) fun k x v hx hv => evScalar_rv (h2 k v x (by simpa using hv) hx)
  · rename_i cs
    split at h
    · rename_i h0
      simp at h; subst h
      exact .tup [] cs (by simp [h0]) (by simp)
    · simp at h
  · exact evScalar_rv h

theorem rv_opd {γ : Nat → EV} {n nb : Nat} {φ : Nat → Nat} {I : Nat → Prop} {s : Slots} {H : Heap} {a : Act} {w : World} (hR : Rel γ n nb φ I s H a w)
    {x : Operand} {e : EOpd} (h : resOpd x = some e) : RV φ H.length I w (ev γ s e) (a.eval x) := by
  cases x with
  | tmp t => simp only [resOpd, Option.some.injEq] at h; subst h; exact hR.slots t
  | const v =>
    simp only [resOpd, Option.map_eq_some_iff] at h
    obtain ⟨y, hy, rfl⟩ := h
    exact evConst_rv hy
  | global g =>
    simp only [resOpd, Option.some.injEq] at h; subst h
    exact (hR.heap.glob g).mono (Nat.zero_le _) (fun _ hi => absurd hi (Nat.not_lt_zero _)) (fun _ h => h) (fun _ _ => rfl) (fun _ hb => absurd hb (Nat.not_lt_zero _))
  | func f =>
    simp only [resOpd, Option.some.injEq] at h; subst h
    exact .func _ [] [] #[] #[] rfl rfl (by simp) (by simp)

/-- The cells of a value that an abstract one stands for. -/
theorem RV.cells {φ : Nat → Nat} {N : Nat} {I : Nat → Prop} {w : World} {x : EV} {v : Value} (h : RV φ N I w x v) (hu : x.cells.all EV.one = true) :
    v.cells.size = x.cells.length ∧ (∀ (k : Nat) (y : EV) (u : Value), x.cells[k]? = some y → v.cells[k]? = some u → RV φ N I w y u) := by
  have one : ∀ {x : EV} {v : Value}, RV φ N I w x v → x.cells = [x] → v.cells = #[v] →
      v.cells.size = x.cells.length ∧ (∀ (k : Nat) (y : EV) (u : Value), x.cells[k]? = some y → v.cells[k]? = some u → RV φ N I w y u) := by
    intro x v h e1 e2
    rw [e1, e2]
    refine ⟨rfl, fun k y u hy hu => ?_⟩
    cases k with
    | zero => simp at hy hu; subst hy hu; exact h
    | succ k => simp at hy
  cases h with
  | agg cs vs hl h => exact ⟨hl.symm, h⟩
  | undef v => simp [EV.cells, EV.one] at hu
  | tup cs vs hl h => simp [EV.cells, EV.one] at hu
  | bool b => exact one (.bool b) rfl rfl
  | int k n => exact one (.int k n) rfl rfl
  | str s => exact one (.str s) rfl rfl
  | nilptr => exact one .nilptr rfl rfl
  | ptr b sz i j hb => exact one (.ptr b sz i j hb) rfl rfl
  | iptr cells j B o c T fr hB hb hs' hh => exact one (.iptr cells j B o c T fr hB hb hs' hh) rfl rfl
  | nilsl => exact one .nilsl rfl rfl
  | imm sz es B o cap c T fr hB hb hs' hc hz hh => exact one (.imm sz es B o cap c T fr hB hb hs' hc hz hh) rfl rfl
  | imm0 sz a => exact one (.imm0 sz a) rfl rfl
  | own0 b sz off a hb => exact one (.own0 b sz off a hb) rfl rfl
  | own b sz off len cap n T hb hsh hn hc => exact one (.own b sz off len cap n T hb hsh hn hc) rfl rfl
  | nilfn => exact one .nilfn rfl rfl
  | func f first cap vf vc h1 h2 h3 h4 => exact one (.func f first cap vf vc h1 h2 h3 h4) rfl rfl
  | nilif => exact one .nilif rfl rfl
  | iface t x v hx => exact one (.iface t x v hx) rfl rfl
  | nilmap => exact one .nilmap rfl rfl
  | map b hb => exact one (.map b hb) rfl rfl

theorem RV.one {φ : Nat → Nat} {N : Nat} {I : Nat → Prop} {w : World} {x : EV} {v : Value} (h : RV φ N I w x v) (hu : x.one = true) : v.oneCell' = true ∧ v.cells = #[v] ∧ x.cells = [x] := by
  cases h <;> first | exact ⟨rfl, rfl, rfl⟩ | simp [EV.one] at hu

theorem addr_add (B o n : Nat) : (⟨B, o, none⟩ : Addr).add n = ⟨B, o + n, none⟩ := by
  unfold Addr.add
  split
  · subst_vars; rfl
  · rfl

/-- Cells out of a row of cells. -/
theorem run_cells (P : Program) {w : World} {B o n : Nat} {c : Array Value} {T : TypeId} {fr : Nat × Nat} (hB : w.heap[B]? = some (.cells c T fr)) (hs : o + n ≤ c.size) :
    (loadCells ⟨B, o, none⟩ n).run P w = .ok ((c.toList.drop o).take n).toArray w := by
  have h := run_loadCells_list (P := P) w ⟨B, o, none⟩ ((c.toList.drop o).take n) (fun j v hv => by
    rw [addr_add, cell_of_row w B _ c T fr hB]
    have hj := get_lt hv
    simp only [List.length_take, List.length_drop, Array.length_toList] at hj
    rw [List.getElem?_take_of_lt (by omega), List.getElem?_drop] at hv
    simpa using hv)
  simpa [List.length_take, Nat.min_eq_left (show n ≤ c.size - o by omega)] using h

theorem tyOf_agg {P : Program} {t : TypeId} {ag : Bool} {n : Nat} (h : tyOf P t = some (ag, n)) (w : World) :
    (isAgg t).run P w = .ok ag w ∧ (Go.sizeOf t).run P w = .ok n w ∧ (ag = false → n = 1) := by
  unfold tyOf at h
  split at h
  · rename_i i hu hi
    simp only [Option.some.injEq, Prod.mk.injEq] at h
    obtain ⟨rfl, rfl⟩ := h
    exact ⟨by simp [isAgg, run_underlying hu], by simp [Go.sizeOf, typeInfo, hi], by simp⟩
  · rename_i i hu hi
    simp only [Option.some.injEq, Prod.mk.injEq] at h
    obtain ⟨rfl, rfl⟩ := h
    exact ⟨by simp [isAgg, run_underlying hu], by simp [Go.sizeOf, typeInfo, hi], by simp⟩
  · rename_i d i h1 h2 hu hi
    split at h
    · rename_i h3
      simp only [Option.some.injEq, Prod.mk.injEq] at h
      obtain ⟨rfl, rfl⟩ := h
      refine ⟨?_, by simp [Go.sizeOf, typeInfo, hi, h3], by simp⟩
      simp only [isAgg, Sem.run_bind, run_underlying hu, Result.andThen_ok]
      cases d <;> first | rfl | exact absurd rfl (h1 _) | exact absurd rfl (h2 _ _)
    · simp at h
  · simp at h

theorem load_at {P : Program} {φ : Nat → Nat} {N : Nat} {I : Nat → Prop} {w : World} {t : TypeId} {ag : Bool} {n B o : Nat} (hty : tyOf P t = some (ag, n))
    {c : Array Value} {T : TypeId} {fr : Nat × Nat} (hB : w.heap[B]? = some (.cells c T fr)) {cs : List EV} (hl : cs.length = n) (hs : o + n ≤ c.size)
    (h : ∀ (k : Nat) (x : EV) (v : Value), cs[k]? = some x → c[o + k]? = some v → RV φ N I w x v) :
    ∃ val, (Instr.loadAt t (.pointer (some ⟨B, o, none⟩))).run P w = .ok val w ∧ RV φ N I w (pack ag cs) val := by
  obtain ⟨h1, h2, h3⟩ := tyOf_agg hty w
  cases ag with
  | true =>
    refine ⟨.agg ((c.toList.drop o).take n).toArray, by simp [Instr.loadAt, Instr.sureAddr, loadVar, h1, h2, run_cells P hB hs], ?_⟩
    refine .agg cs _ (by simp [hl]; omega) fun k x v hx hv => h k x v hx ?_
    have hk := get_lt hx
    simp only [List.getElem?_toArray] at hv
    rw [List.getElem?_take_of_lt (by omega), List.getElem?_drop] at hv
    simpa using hv
  | false =>
    obtain rfl := h3 rfl
    have hc : w.cell? ⟨B, o, none⟩ = some c[o] := by simp [World.cell?, hB, show o < c.size by omega]
    refine ⟨c[o], by simp [Instr.loadAt, Instr.sureAddr, loadVar, h1, hc], ?_⟩
    match cs, hl with
    | [x], _ => exact h 0 x _ rfl (by simp)

theorem load_sound {P : Program} {γ : Nat → EV} {φ : Nat → Nat} {I : Nat → Prop} {H : Heap} {w : World} (hr : RH γ φ I H w) {t : TypeId} {ag : Bool} {n : Nat} (hty : tyOf P t = some (ag, n))
    {x v : EV} {vx : Value} (hx : RV φ H.length I w x vx) (hev : evLoad ag n x H = some v) :
    ∃ val, (Instr.loadAt t vx).run P w = .ok val w ∧ RV φ H.length I w v val := by
  unfold evLoad at hev
  split at hev
  · rename_i b sz i j
    cases hx with
    | ptr _ _ _ _ hb =>
    split at hev
    · rename_i sz' es hH
      split at hev
      · rename_i hsz
        subst hsz
        split at hev
        · rename_i e he
          split at hev
          · rename_i hle
            simp only [Option.some.injEq] at hev
            subst hev
            obtain ⟨c, T, hB, hc1, hc2, hc3⟩ := hr.blk b _ hH
            have hes := get_lt he
            have hz := hc2 e (List.mem_of_getElem? he)
            have hmul : i * sz + sz ≤ c.size := by
              have : (i + 1) * sz ≤ es.length * sz := Nat.mul_le_mul_right _ hes
              rw [Nat.add_mul] at this; omega
            refine load_at hty hB (by simp [hz]; omega) (by omega) fun k x v hx hv => ?_
            have hk := get_lt hx
            simp only [List.length_take, List.length_drop] at hk
            rw [List.getElem?_take_of_lt (by omega), List.getElem?_drop] at hx
            exact hc3 i (j + k) e x v he hx (by rw [← Nat.add_assoc]; exact hv)
          · simp at hev
        · simp at hev
      · simp at hev
    · simp at hev
  · rename_i cells j
    cases hx with
    | iptr _ _ B o c T fr hI hB hs h =>
    split at hev
    · rename_i hle
      simp only [Option.some.injEq] at hev
      subst hev
      refine load_at hty hB (by simp; omega) (by omega) fun k x v hx hv => ?_
      have hk := get_lt hx
      simp only [List.length_take, List.length_drop] at hk
      rw [List.getElem?_take_of_lt (by omega), List.getElem?_drop] at hx
      exact h (j + k) x v hx (by rw [← Nat.add_assoc]; exact hv)
    · simp at hev
  · simp at hev

end Abs
