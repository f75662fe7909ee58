/- Maps: finding a key, writing one. -/
import Derived.Test.YtbilmalnlkileaaAbs3
set_option linter.all false

namespace Abs
open Go

section
variable {P : Program} {φ : Nat → Nat} {N : Nat} {I : Nat → Prop} {w : World} {t : TypeId} {ag : Bool} {ks : List SK} {k : EV}

theorem eq_key (hk : flatK P 16 t = some ks) {a b : EV} (ha : keyFit ag ks a = true) (hb : keyFit ag ks b = true) (w : World) :
    (Go.Op.equal t (keyV P t a) (keyV P t b)).run P w = .ok (eqL a.cells b.cells) w :=
  eqTy (P := P) 9984 16 t ks hk a.cells b.cells w (keyFit_cells ha) (keyFit_cells hb)

theorem eqL_eq : ∀ {ks : List SK} {a b : List EV}, fits ks a = true → fits ks b = true → eqL a b = true → a = b
  | [], [], [], _, _, _ => rfl
  | [], _ :: _, _, h, _, _ => by simp [fits] at h
  | [], [], _ :: _, _, h, _ => by simp [fits] at h
  | _ :: _, [], _, h, _, _ => by simp [fits] at h
  | _ :: _, _ :: _, [], _, h, _ => by simp [fits] at h
  | k :: ks, x :: a, y :: b, h1, h2, h3 => by
    simp only [fits, Bool.and_eq_true] at h1 h2
    simp only [eqL, Bool.and_eq_true] at h3
    rw [eqL_eq h1.2 h2.2 h3.2]
    have e1 := h1.1
    have e2 := h2.1
    have e3 := h3.1
    cases k <;> cases x <;> simp [fit] at e1 <;> cases y <;> simp [fit] at e2 <;> simp [sceq] at e3 <;> subst e3 <;> first | rfl | (rw [← e1, ← e2])

theorem asking (hk : flatK P 16 t = some ks) (ha : keyFit ag ks k = true) (w : World) : ∀ (l : List MapEntry) (es : List (EV × EV)) (i : Nat), l.length = es.length → fitsAll ag ks es = true →
    (∀ (j : Nat) (m : MapEntry) (e : EV × EV), l[j]? = some m → es[j]? = some e → m.key = keyV P t e.1) →
    (lookE k es = none ∧ (∀ v, putE k v es = es ++ [(k, v)]) ∧ (Instr.findAsking t (keyV P t k) l i).run P w = .ok none w) ∨
    (∃ j m e, l[j]? = some m ∧ es[j]? = some e ∧ eqL k.cells e.1.cells = true ∧ lookE k es = some e.2 ∧ (∀ v, putE k v es = es.set j (k, v)) ∧ (Instr.findAsking t (keyV P t k) l i).run P w = .ok (some (i + j, m.val)) w)
  | [], [], i, _, _, _ => .inl ⟨rfl, fun _ => rfl, by simp [Instr.findAsking]⟩
  | [], _ :: _, _, h, _, _ => by simp at h
  | _ :: _, [], _, h, _, _ => by simp at h
  | m :: l, e :: es, i, h, hf, hm => by
    simp only [fitsAll, List.all_cons, Bool.and_eq_true] at hf
    have h0 := hm 0 m e rfl rfl
    have he := eq_key hk ha hf.1 w
    rw [← h0] at he
    by_cases hq : eqL k.cells e.1.cells = true
    · refine .inr ⟨0, m, e, rfl, rfl, hq, by simp [lookE, hq], fun v => by simp [putE, hq], ?_⟩
      rw [hq] at he
      simp [Instr.findAsking, he]
    · have hq' : eqL k.cells e.1.cells = false := by simpa using hq
      rw [hq'] at he
      have run : (Instr.findAsking t (keyV P t k) (m :: l) i).run P w = (Instr.findAsking t (keyV P t k) l (i + 1)).run P w := by
        simp [Instr.findAsking, he]
      rcases asking hk ha w l es (i + 1) (by simpa using h) hf.2 (fun j m e h1 h2 => hm (j + 1) m e (by simpa using h1) (by simpa using h2)) with ⟨g1, g2, g3⟩ | ⟨j, m', e', g1, g2, g3, g4, g5, g6⟩
      · exact .inl ⟨by simp [lookE, hq', g1], fun v => by simp [putE, hq', g2], by rw [run, g3]⟩
      · refine .inr ⟨j + 1, m', e', by simpa using g1, by simpa using g2, g3, by simp [lookE, hq', g4], fun v => by simp [putE, hq', g5], ?_⟩
        rw [run, g6, Nat.add_assoc, Nat.add_comm 1 j]

theorem same_key {d : TypeDesc} (hd : P.underlying t = some d) (hk : flatK P 16 t = some ks) {a b : EV} (ha : keyFit ag ks a = true) (hb : keyFit ag ks b = true) :
    Instr.sameNow d (keyV P t a) (keyV P t b) = some (eqL a.cells b.cells) ∨ ∀ x y, Instr.sameNow d x y = none := by
  have fa := keyFit_cells ha
  have fb := keyFit_cells hb
  unfold flatK at hk
  rw [hd] at hk
  unfold keyV valT
  rw [hd]
  cases d <;> simp only [Option.some.injEq, reduceCtorEq] at hk <;> try (exact .inr fun x y => rfl)
  · subst hk
    generalize a.cells = ca at fa
    generalize b.cells = cb at fb
    match ca, cb, fa, fb with
    | [.bool x], [.bool y], _, _ => exact .inl (by simp [toVal, Instr.sameNow, eqL, sceq])
  · rename_i q
    subst hk
    have one : ∀ {xs : List EV}, fits [.i q] xs = true → ∃ a, xs = [.int q a] := by
      intro xs h
      cases xs with
      | nil => simp [fits] at h
      | cons x xs =>
        cases xs with
        | nil =>
          cases x <;> simp [fits, fit] at h
          subst h; exact ⟨_, rfl⟩
        | cons y ys => simp [fits] at h
    obtain ⟨x, hx⟩ := one fa
    obtain ⟨y, hy⟩ := one fb
    rw [hx, hy]
    exact .inl (by simp [toVal, Instr.sameNow, eqL, sceq])
  · subst hk
    generalize a.cells = ca at fa
    generalize b.cells = cb at fb
    match ca, cb, fa, fb with
    | [.str x], [.str y], _, _ => exact .inl (by simp [toVal, Instr.sameNow, eqL, sceq, sceq_bytes])

theorem now {d : TypeDesc} (hd : P.underlying t = some d) (hk : flatK P 16 t = some ks) (ha : keyFit ag ks k = true) : ∀ (l : List MapEntry) (es : List (EV × EV)) (i : Nat), l.length = es.length → fitsAll ag ks es = true →
    (∀ (j : Nat) (m : MapEntry) (e : EV × EV), l[j]? = some m → es[j]? = some e → m.key = keyV P t e.1) →
    Instr.findNow d (keyV P t k) l i = none ∨ (lookE k es = none ∧ Instr.findNow d (keyV P t k) l i = some none) ∨
    (∃ j m e, l[j]? = some m ∧ es[j]? = some e ∧ eqL k.cells e.1.cells = true ∧ lookE k es = some e.2 ∧ (∀ v, putE k v es = es.set j (k, v)) ∧ Instr.findNow d (keyV P t k) l i = some (some (i + j, m.val)))
  | [], [], i, _, _, _ => .inr (.inl ⟨rfl, rfl⟩)
  | [], _ :: _, _, h, _, _ => by simp at h
  | _ :: _, [], _, h, _, _ => by simp at h
  | m :: l, e :: es, i, h, hf, hm => by
    simp only [fitsAll, List.all_cons, Bool.and_eq_true] at hf
    have h0 := hm 0 m e rfl rfl
    rcases same_key hd hk ha hf.1 with he | he
    · rw [← h0] at he
      by_cases hq : eqL k.cells e.1.cells = true
      · refine .inr (.inr ⟨0, m, e, rfl, rfl, hq, by simp [lookE, hq], fun v => by simp [putE, hq], ?_⟩)
        rw [hq] at he
        simp [Instr.findNow, he]
      · have hq' : eqL k.cells e.1.cells = false := by simpa using hq
        rw [hq'] at he
        have run : Instr.findNow d (keyV P t k) (m :: l) i = Instr.findNow d (keyV P t k) l (i + 1) := by
          simp [Instr.findNow, he]
        rcases now hd hk ha l es (i + 1) (by simpa using h) hf.2 (fun j m e h1 h2 => hm (j + 1) m e (by simpa using h1) (by simpa using h2)) with g | ⟨g1, g3⟩ | ⟨j, m', e', g1, g2, gq, g4, g5, g6⟩
        · exact .inl (run.trans g)
        · exact .inr (.inl ⟨by simp [lookE, hq', g1], by rw [run, g3]⟩)
        · refine .inr (.inr ⟨j + 1, m', e', by simpa using g1, by simpa using g2, gq, by simp [lookE, hq', g4], fun v => by simp [putE, hq', g5], ?_⟩)
          rw [run, g6, Nat.add_assoc, Nat.add_comm 1 j]
    · left
      simp [Instr.findNow, he]

/-- Finding a key. -/
theorem find_key {d : TypeDesc} (hd : P.underlying t = some d) (hk : flatK P 16 t = some ks) (ha : keyFit ag ks k = true) (w : World) (l : List MapEntry) (es : List (EV × EV)) (hl : l.length = es.length) (hf : fitsAll ag ks es = true)
    (hm : ∀ (j : Nat) (m : MapEntry) (e : EV × EV), l[j]? = some m → es[j]? = some e → m.key = keyV P t e.1) :
    (lookE k es = none ∧ (∀ v, putE k v es = es ++ [(k, v)]) ∧ (Instr.findKey t (keyV P t k) l).run P w = .ok none w) ∨
    (∃ j m e, l[j]? = some m ∧ es[j]? = some e ∧ eqL k.cells e.1.cells = true ∧ lookE k es = some e.2 ∧ (∀ v, putE k v es = es.set j (k, v)) ∧ (Instr.findKey t (keyV P t k) l).run P w = .ok (some (j, m.val)) w) := by
  have hA := asking hk ha w l es 0 hl hf hm
  rcases now hd hk ha l es 0 hl hf hm with g | ⟨g1, g2⟩ | ⟨j, m, e, g1, g2, gq, g4, g5, g6⟩
  · have run : (Instr.findKey t (keyV P t k) l).run P w = (Instr.findAsking t (keyV P t k) l 0).run P w := by
      simp [Instr.findKey, run_underlying hd, g]
    rcases hA with ⟨a1, a2, a3⟩ | ⟨j, m, e, a1, a2, a3, a4, a5, a6⟩
    · exact .inl ⟨a1, a2, run.trans a3⟩
    · exact .inr ⟨j, m, e, a1, a2, a3, a4, a5, by rw [run, a6, Nat.zero_add]⟩
  · have run : (Instr.findKey t (keyV P t k) l).run P w = .ok none w := by
      simp [Instr.findKey, run_underlying hd, g2]
    rcases hA with ⟨a1, a2, a3⟩ | ⟨j, m, e, a1, a2, a3, a4, a5, a6⟩
    · exact .inl ⟨a1, a2, run⟩
    · rw [g1] at a4; simp at a4
  · have run : (Instr.findKey t (keyV P t k) l).run P w = .ok (some (j, m.val)) w := by
      simp [Instr.findKey, run_underlying hd, g6]
    exact .inr ⟨j, m, e, g1, g2, gq, g4, g5, run⟩

theorem look_put_self (v : EV) : ∀ (es : List (EV × EV)), eqL k.cells k.cells = true → lookE k (putE k v es) = some v
  | [], h => by simp [putE, lookE, h]
  | e :: es, h => by
    by_cases hq : eqL k.cells e.1.cells = true
    · simp [putE, lookE, hq, h]
    · simp only [putE, if_neg hq, lookE]
      exact look_put_self v es h

/-- A map's block, changed. -/
theorem setMap_other {w : World} {g B : Nat} {o : Obj} (h : B ≠ g) : ({ w with heap := w.heap.setIfInBounds g o } : World).heap[B]? = w.heap[B]? := by
  simp [Array.getElem?_setIfInBounds, Ne.symm h]

theorem setMap_self {w : World} {g : Nat} {o : Obj} (h : g < w.heap.size) : ({ w with heap := w.heap.setIfInBounds g o } : World).heap[g]? = some o := by
  simp [h]

theorem shape_setMap {w : World} {g B : Nat} {ms ms' : Array MapEntry} {c c' : Nat} (hg : w.heap[g]? = some (.map ms c)) :
    ({ w with heap := w.heap.setIfInBounds g (.map ms' c') } : World).shape? B = w.shape? B := by
  have hlt : g < w.heap.size := (Array.getElem?_eq_some_iff.1 hg).1
  by_cases e : B = g
  · subst e
    have h1 := setMap_self (w := w) (o := .map ms' c') hlt
    simp only [World.shape?]
    simp only at h1
    rw [h1, hg]
  · have h1 := setMap_other (w := w) (o := .map ms' c') e
    simp only [World.shape?]
    simp only at h1
    rw [h1]

theorem evo_setMap {φ : Nat → Nat} {I : Nat → Prop} {H : Heap} {w : World} {b : Nat} {x y : EB} {ms ms' : Array MapEntry} {c c' : Nat}
    (hb : H[b]? = some (some x)) (hg : w.heap[φ b]? = some (.map ms c)) : Evo φ I H w φ I (H.set b (some y)) { w with heap := w.heap.setIfInBounds (φ b) (.map ms' c') } where
  size := by simp
  shape B _ := shape_setMap hg
  keep B _ hn := setMap_other fun e => hn ⟨b, x, hb, e.symm⟩
  imm B h := h
  phi i _ := rfl
  len := by simp
  own B h := by
    obtain ⟨k, z, hk, e⟩ := h
    by_cases hkb : b = k
    · subst hkb; exact .inl ⟨b, x, hb, e⟩
    · rw [List.getElem?_set_ne hkb] at hk; exact .inl ⟨k, z, hk, e⟩
  immf B h := .inl h
  tape := rfl
  os := rfl
  out := rfl
  froz a _ := by
    unfold World.frozen?
    by_cases e : a.block = φ b
    · rw [e, setMap_self (Array.getElem?_eq_some_iff.1 hg).1, hg]
    · rw [setMap_other e]

theorem rh_setMap {γ : Nat → EV} {φ : Nat → Nat} {I : Nat → Prop} {H : Heap} {w : World} {b : Nat} {x y : EB} {ms ms' : Array MapEntry} {c c' : Nat}
    (h : RH γ φ I H w) (hb : H[b]? = some (some x)) (hg : w.heap[φ b]? = some (.map ms c))
    (hy : RB φ H.length I { w with heap := w.heap.setIfInBounds (φ b) (.map ms' c') } (φ b) y) : RH γ φ I (H.set b (some y)) { w with heap := w.heap.setIfInBounds (φ b) (.map ms' c') } where
  glob g := (h.glob g).mono (Nat.le_refl 0) (fun i hi => absurd hi (Nat.not_lt_zero i)) (fun _ h => h)
    (fun B hB => setMap_other (g := φ b) fun e => h.dis b x hb (e ▸ hB)) (fun b hb => absurd hb (Nat.not_lt_zero b))
  blk k z hk := by
    rw [List.length_set]
    by_cases hkb : b = k
    · subst hkb
      rw [List.getElem?_set_self (get_lt hb)] at hk
      simp only [Option.some.injEq] at hk
      exact hk ▸ hy
    · rw [List.getElem?_set_ne hkb] at hk
      exact (h.blk k z hk).mono (Nat.le_refl _) (fun _ _ => rfl) (fun _ h => h) (fun B hB => setMap_other (g := φ b) fun e => h.dis b x hb (e ▸ hB))
        (fun _ _ _ _ hs' => (shape_setMap hg).trans hs') (setMap_other fun e => hkb (h.inj b k x z hb hk e.symm))
  inj k k' z z' hk hk' e := by
    have f : ∀ {k : Nat} {z : EB}, (H.set b (some y))[k]? = some (some z) → ∃ z', H[k]? = some (some z') := fun {k z} hk => by
      by_cases hkb : b = k
      · subst hkb; exact ⟨x, hb⟩
      · rw [List.getElem?_set_ne hkb] at hk; exact ⟨z, hk⟩
    obtain ⟨u, hu⟩ := f hk
    obtain ⟨u', hu'⟩ := f hk'
    exact h.inj k k' u u' hu hu' e
  imm B hB := by have := h.imm B hB; simpa using this
  dis k z hk := by
    by_cases hkb : b = k
    · subst hkb; exact h.dis b x hb
    · rw [List.getElem?_set_ne hkb] at hk; exact h.dis k z hk
  lt k z hk := by
    by_cases hkb : b = k
    · subst hkb; simpa using h.lt b x hb
    · rw [List.getElem?_set_ne hkb] at hk; simpa using h.lt k z hk

theorem ok_sound {z : EV} {v : Value} {b ok : Bool} (h : RV φ N I w z v) : RV φ N I w (if ok then .tup [z, .bool b] else z) (if ok then .tuple #[v, .bool b] else v) := by
  cases ok
  · exact h
  · refine .tup _ _ rfl fun k x u hx hu => ?_
    match k, hx, hu with
    | 0, hx, hu => simp at hx hu; subst hx hu; exact h
    | 1, hx, hu => simp at hx hu; subst hx hu; exact .bool b
    | k + 2, hx, hu => simp at hx

theorem check_key (hk : flatK P 16 t = some ks) (ha : keyFit ag ks k = true) (em : Bool) (w : World) : (Instr.checkKey em 10000 t (keyV P t k)).run P w = .ok () w :=
  checkTy (P := P) em 9984 16 t ks hk k.cells w (keyFit_cells ha)

theorem sameBits_key (ha : keyFit ag ks k = true) (hd : ∃ d, P.underlying t = some d ∧ aggD d = ag) (hk : flatK P 16 t = some ks) : Instr.sameBits 10000 (keyV P t k) (keyV P t k) = true := by
  have hc := keyFit_cells ha
  have one : ∀ (n : Nat) (q : SK) (x : EV), fit q x = true → Instr.sameBits n (toVal x) (toVal x) = true := by
    intro n q x h
    cases q <;> cases x <;> simp [fit] at h <;> simp [toVal, Instr.sameBits, sceq_bytes]
  have all : ∀ (n : Nat) (ks : List SK) (xs : List EV), fits ks xs = true → ((xs.map toVal).zip (xs.map toVal)).all (fun (x, y) => Instr.sameBits n x y) = true := by
    intro n ks
    induction ks with
    | nil => intro xs h; cases xs <;> simp [fits] at h ⊢
    | cons q ks ih =>
      intro xs h
      cases xs with
      | nil => simp [fits] at h
      | cons x xs =>
        simp only [fits, Bool.and_eq_true] at h
        simp only [List.map_cons, List.zip_cons_cons, List.all_cons, Bool.and_eq_true]
        exact ⟨one n q x h.1, ih xs h.2⟩
  obtain ⟨d, hu, hag⟩ := hd
  unfold keyV
  by_cases hag' : aggD d = true
  · rw [valT_agg ⟨d, hu, hag'⟩]
    have := all 9999 ks k.cells hc
    show (_ && _) = true
    simpa using this
  · unfold valT
    rw [hu]
    have hl : ks.length = 1 := by
      obtain ⟨d', hu', h1⟩ := flatK_info hk
      rw [hu] at hu'
      simp only [Option.some.injEq] at hu'
      subst hu'
      exact h1 (by simpa using hag')
    have hl2 := fits_len hc
    rw [hl] at hl2
    generalize k.cells = cs at hc hl2
    match cs, ks, hc, hl2 with
    | [x], [q], hc, _ =>
      simp only [fits, Bool.and_eq_true] at hc
      have := one 10000 q x hc.1
      cases d <;> first | exact this | exact absurd rfl hag'

theorem lookup_sound {γ : Nat → EV} {H : Heap} (hr : RH γ φ I H w) {mt e : TypeId} (hm : P.underlying mt = some (.map t e)) (hd : ∃ d, P.underlying t = some d ∧ aggD d = ag) (hk : flatK P 16 t = some ks)
    {z x v : EV} {vz vx vk : Value} {ok : Bool} (hz : (zeroValue e).run P w = .ok vz w) (hzr : RV φ H.length I w z vz) (hx : RV φ H.length I w x vx) (hkr : RV φ H.length I w k vk) (hev : evLookup ag ks z ok x k H = some v) :
    ∃ val, (Instr.lookup mt vx vk ok).run P w = .ok val w ∧ RV φ H.length I w v val := by
  unfold evLookup at hev
  split at hev
  · cases hx
    split at hev
    · rename_i hf
      simp only [Option.some.injEq] at hev; subst hev
      have e1 := rv_key hd hf hkr
      subst e1
      obtain ⟨d, hd, _⟩ := hd
      rcases find_key hd hk hf w [] [] rfl rfl (by simp) with ⟨g1, g2, g3⟩ | ⟨j, m, e, g1, _⟩
      · refine ⟨if ok then .tuple #[vz, .bool false] else vz, ?_, ok_sound hzr⟩
        simp [Instr.lookup, run_underlying hm, check_key hk hf, g3, hz]
      · simp at g1
    · simp at hev
  · rename_i b
    cases hx
    split at hev
    · rename_i es hH
      split at hev
      · rename_i hf
        simp only [Bool.and_eq_true] at hf
        have e1 := rv_key hd hf.1 hkr
        subst e1
        obtain ⟨ms, clock, hB, hsz, hes⟩ := hr.blk b _ hH
        have hkeys : ∀ (j : Nat) (m : MapEntry) (e : EV × EV), ms.toList[j]? = some m → es[j]? = some e → m.key = keyV P t e.1 := fun j m e h1 h2 =>
          rv_key hd (List.all_eq_true.1 hf.2 e (List.mem_of_getElem? h2)) (hes j e m h2 (by simpa using h1)).1
        obtain ⟨d, hd, _⟩ := hd
        rcases find_key hd hk hf.1 w ms.toList es (by simpa using hsz) hf.2 hkeys with ⟨g1, g2, g3⟩ | ⟨j, m, e, g1, g2, g3, g4, g5, g6⟩
        · rw [g1] at hev
          simp only [Option.some.injEq] at hev; subst hev
          refine ⟨if ok then .tuple #[vz, .bool false] else vz, ?_, ok_sound hzr⟩
          simp [Instr.lookup, run_underlying hm, Go.MapKept.run_getObj_map hB, check_key hk hf.1, g3, hz]
        · rw [g4] at hev
          simp only [Option.some.injEq] at hev; subst hev
          refine ⟨if ok then .tuple #[m.val, .bool true] else m.val, ?_, ok_sound (hes j e m g2 (by simpa using g1)).2⟩
          simp [Instr.lookup, run_underlying hm, Go.MapKept.run_getObj_map hB, check_key hk hf.1, g6]
      · simp at hev
    · simp at hev
  · simp at hev

theorem mapset_sound {γ : Nat → EV} {H H' : Heap} (hr : RH γ φ I H w) {mt e : TypeId} (hm : P.underlying mt = some (.map t e)) (hd : ∃ d, P.underlying t = some d ∧ aggD d = ag) (hk : flatK P 16 t = some ks)
    {x v : EV} {vx vk vv : Value} (hx : RV φ H.length I w x vx) (hkr : RV φ H.length I w k vk) (hv : RV φ H.length I w v vv) (hev : evMapset ag ks x k v H = some H') :
    ∃ w', (Instr.mapUpdate mt vx vk vv).run P w = .ok () w' ∧ Evo φ I H w φ I H' w' ∧ RH γ φ I H' w' := by
  unfold evMapset at hev
  split at hev
  · rename_i b
    cases hx
    split at hev
    · rename_i es hH
      split at hev
      · rename_i hf
        simp only [Bool.and_eq_true] at hf
        simp only [Option.some.injEq] at hev; subst hev
        have e1 := rv_key hd hf.1 hkr
        obtain ⟨ms, clock, hB, hsz, hes⟩ := hr.blk b _ hH
        have hkeys : ∀ (j : Nat) (m : MapEntry) (e : EV × EV), ms.toList[j]? = some m → es[j]? = some e → m.key = keyV P t e.1 := fun j m e h1 h2 =>
          rv_key hd (List.all_eq_true.1 hf.2 e (List.mem_of_getElem? h2)) (hes j e m h2 (by simpa using h1)).1
        have hbits := sameBits_key (P := P) (t := t) hf.1 hd hk
        obtain ⟨d, hud, hdd⟩ := hd
        have hlt : φ b < w.heap.size := hr.lt b _ hH
        rcases find_key hud hk hf.1 w ms.toList es (by simpa using hsz) hf.2 hkeys with ⟨g1, g2, g3⟩ | ⟨j, m, e, g1, g2, g3, g4, g5, g6⟩
        · refine ⟨{ w with heap := w.heap.setIfInBounds (φ b) (.map (ms.push { key := vk, val := vv, born := clock }) (clock + 1)) }, ?_, evo_setMap hH hB, rh_setMap hr hH hB ?_⟩
          · subst e1
            simp [Instr.mapUpdate, run_underlying hm, Go.MapKept.run_getObj_map hB, check_key hk hf.1, g3, Go.MapKept.run_setObj_map _ hB]
          · have step : ∀ {x : EV} {u : Value}, RV φ H.length I w x u → RV φ H.length I { w with heap := w.heap.setIfInBounds (φ b) (.map (ms.push { key := vk, val := vv, born := clock }) (clock + 1)) } x u := fun {x u} h => by
              have := (evo_setMap (I := I) (y := EB.map es) (ms' := ms.push { key := vk, val := vv, born := clock }) (c' := clock + 1) hH hB).rv hr h
              simpa using this
            refine ⟨_, _, setMap_self hlt, by simp [g2, hsz], fun i e m he hm => ?_⟩
            rw [g2] at he
            by_cases hi : i < es.length
            · rw [List.getElem?_append_left hi] at he
              rw [Array.getElem?_push, if_neg (by omega)] at hm
              exact ⟨step (hes i e m he hm).1, step (hes i e m he hm).2⟩
            · have hi2 := get_lt he
              simp at hi2
              obtain rfl : i = es.length := by omega
              simp at he
              rw [Array.getElem?_push, if_pos (by omega)] at hm
              simp at hm
              subst he hm
              exact ⟨step hkr, step hv⟩
        · refine ⟨{ w with heap := w.heap.setIfInBounds (φ b) (.map (ms.modify j fun e => { e with key := vk, val := vv }) clock) }, ?_, evo_setMap hH hB, rh_setMap hr hH hB ?_⟩
          · have hmk : m.key = keyV P t e.1 := hkeys j m e g1 g2
            subst e1
            have hme : m.key = keyV P t k := by
              have hfe := List.all_eq_true.1 hf.2 e (List.mem_of_getElem? g2)
              rw [hmk, keyV, keyV, eqL_eq (keyFit_cells hf.1) (keyFit_cells hfe) g3]
            have g1' : ms[j]? = some m := by simpa using g1
            simp [Instr.mapUpdate, run_underlying hm, Go.MapKept.run_getObj_map hB, check_key hk hf.1, g6, g1', hme, Instr.keyThatStays, hbits, Go.MapKept.run_setObj_map _ hB]
          · have step : ∀ {x : EV} {u : Value}, RV φ H.length I w x u → RV φ H.length I { w with heap := w.heap.setIfInBounds (φ b) (.map (ms.modify j fun e => { e with key := vk, val := vv }) clock) } x u := fun {x u} h => by
              have := (evo_setMap (I := I) (y := EB.map es) (ms' := ms.modify j fun e => { e with key := vk, val := vv }) (c' := clock) hH hB).rv hr h
              simpa using this
            refine ⟨_, _, setMap_self hlt, by simp [g5, hsz], fun i e' m' he hm => ?_⟩
            rw [g5] at he
            rw [Array.getElem?_modify] at hm
            by_cases hi : j = i
            · subst hi
              rw [List.getElem?_set_self (get_lt g2)] at he
              simp only [Option.some.injEq] at he
              subst he
              simp only [if_true, Option.map_eq_some_iff] at hm
              obtain ⟨m0, _, rfl⟩ := hm
              exact ⟨step hkr, step hv⟩
            · rw [List.getElem?_set_ne hi] at he
              rw [if_neg hi] at hm
              exact ⟨step (hes i e' m' he hm).1, step (hes i e' m' he hm).2⟩
      · simp at hev
    · simp at hev
  · simp at hev

/-- A new map. -/
theorem makeMap_sound {γ : Nat → EV} {H : Heap} (hr : RH γ φ I H w) (mt : TypeId) :
    ∃ φ' w', (Instr.makeMap mt none).run P w = .ok (.map (some w.heap.size)) w' ∧ Evo φ I H w φ' I (H ++ [some (.map [])]) w' ∧ RH γ φ' I (H ++ [some (.map [])]) w' ∧
      RV φ' (H ++ [some (EB.map [])]).length I w' (.map H.length) (.map (some w.heap.size)) := by
  refine ⟨up φ H.length w.heap.size, w.alloc (.map #[] 0), by simp [Instr.makeMap, run_newObj], evo_alloc .., rh_alloc hr ⟨#[], 0, alloc_new .., rfl, by simp⟩, ?_⟩
  have := RV.map (φ := up φ H.length w.heap.size) (N := (H ++ [some (EB.map [])]).length) (I := I) (w := w.alloc (.map #[] 0)) H.length (by simp)
  rwa [up_eq] at this

end
end Abs
