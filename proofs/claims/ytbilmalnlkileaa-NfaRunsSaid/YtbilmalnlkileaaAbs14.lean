/- Contracts out of bodies: what a function hands back. -/
import Derived.Test.YtbilmalnlkileaaAbs13
set_option linter.all false

namespace Abs
open Go

/-- What is handed back: rows of the call's own become immutable. -/
inductive FZ (L : Nat) (H : Heap) : EV → EV → Prop where
  | same (v : EV) (h : v.ok L = true) : FZ L H v v
  | own (b sz off len : Nat) (es l : List EV) (hb : L ≤ b) (hH : H[b]? = some (some (.row sz es))) (hl : off + len ≤ es.length) (hn : l.length = len)
      (hc : ∀ (k : Nat) (e e' : EV), es[off + k]? = some e → l[k]? = some e' → e.cells.length = e'.cells.length)
      (h : ∀ (k j : Nat) (e e' x x' : EV), es[off + k]? = some e → l[k]? = some e' → e.cells[j]? = some x → e'.cells[j]? = some x' → FZ L H x x') : FZ L H (.own b sz off len) (.imm sz l)
  | agg (cs cs' : List EV) (hl : cs.length = cs'.length) (h : ∀ (k : Nat) (x x' : EV), cs[k]? = some x → cs'[k]? = some x' → FZ L H x x') : FZ L H (.agg cs) (.agg cs')
  | tup (cs cs' : List EV) (hl : cs.length = cs'.length) (h : ∀ (k : Nat) (x x' : EV), cs[k]? = some x → cs'[k]? = some x' → FZ L H x x') : FZ L H (.tup cs) (.tup cs')
  | iface (t : TypeId) (x x' : EV) (h : FZ L H x x') : FZ L H (.iface t x) (.iface t x')
  | ptr (b sz i j : Nat) (es : List EV) (e : EV) (cs' : List EV) (hb : L ≤ b) (hH : H[b]? = some (some (.row sz es))) (he : es[i]? = some e) (hl : e.cells.length = cs'.length)
      (h : ∀ (k : Nat) (x x' : EV), e.cells[k]? = some x → cs'[k]? = some x' → FZ L H x x') : FZ L H (.ptr b sz i j) (.iptr cs' j)
  | func (f : Fn) (cs cs' : List EV) (hl : cs.length = cs'.length) (h : ∀ (k : Nat) (x x' : EV), cs[k]? = some x → cs'[k]? = some x' → FZ L H x x') : FZ L H (.func f [] cs) (.func f [] cs')

theorem FZ.row {L : Nat} {H : Heap} {b sz off len : Nat} {es : List EV} (hb : L ≤ b) (hH : H[b]? = some (some (.row sz es))) (hl : off + len ≤ es.length) (ho : ∀ e ∈ es, e.ok L = true) :
    FZ L H (.own b sz off len) (.imm sz ((es.drop off).take len)) := by
  have key : ∀ (k : Nat) (e e' : EV), es[off + k]? = some e → ((es.drop off).take len)[k]? = some e' → e = e' := by
    intro k e e' h1 h2
    have hk := get_lt h2
    simp only [List.length_take, List.length_drop] at hk
    rw [List.getElem?_take_of_lt (by omega), List.getElem?_drop, h1] at h2
    exact Option.some.inj h2
  refine .own b sz off len es _ hb hH hl (by simp; omega) (fun k e e' h1 h2 => by rw [key k e e' h1 h2]) fun k j e e' x x' h1 h2 h3 h4 => ?_
  obtain rfl := key k e e' h1 h2
  rw [h3] at h4
  obtain rfl := Option.some.inj h4
  exact .same x (ok_cells (ho e (List.mem_of_getElem? h1)) x (List.mem_of_getElem? h3))

theorem FZ.whole {L : Nat} {H : Heap} {b sz len : Nat} {es : List EV} (hb : L ≤ b) (hH : H[b]? = some (some (.row sz es))) (hl : len = es.length) (ho : ∀ e ∈ es, e.ok L = true) :
    FZ L H (.own b sz 0 len) (.imm sz es) := by
  have := FZ.row (off := 0) (len := len) hb hH (by omega) ho
  rwa [List.drop_zero, List.take_of_length_le (by omega)] at this

/-- The immutable blocks behind the call. -/
def frz (φ : Nat → Nat) (I : Nat → Prop) (L : Nat) (H : Heap) (B : Nat) : Prop := I B ∨ ∃ (b : Nat) (x : EB), L ≤ b ∧ H[b]? = some (some x) ∧ φ b = B

section
variable {P : Program} {γ : Nat → EV} {n : Nat} {nb : NB} {φ φ0 : Nat → Nat} {I I0 : Nat → Prop} {s : Slots} {H H0 : Heap} {a : Act} {w w0 : World}

theorem FZ.sound {L : Nat} (hr : RH γ φ I H w) {x x' : EV} (h : FZ L H x x') : ∀ {v : Value}, RV φ H.length I w x v → RV φ L (frz φ I L H) w x' v := by
  induction h with
  | same v ho => intro u hv; exact (hv.trunc ho).mono (Nat.le_refl _) (fun _ _ => rfl) (fun _ h => .inl h) (fun _ _ => rfl) (fun _ _ _ _ h => h)
  | own b sz off len es l hb hH hl hn hc _ ih =>
    intro v hv
    cases hv with
    | own0 _ _ _ a _ =>
      have : l = [] := by simpa using hn
      subst this
      exact .imm0 sz a
    | own _ _ _ _ cap m T hbN hs hm hcap =>
      obtain ⟨c, T', h1, h2, h3, h4⟩ := hr.blk b _ hH
      have := RV.imm (φ := φ) (N := L) (I := frz φ I L H) (w := w) sz l (φ b) (off * sz) cap c T' (0, 0) (.inr ⟨b, _, hb, hH, rfl⟩) h1
        (by rw [hn, ← Nat.add_mul]; exact Nat.le_trans (Nat.mul_le_mul_right _ hl) h2) (by omega)
        (fun e he => by
          obtain ⟨k, hk, rfl⟩ := List.mem_iff_getElem.1 he
          have hk2 : off + k < es.length := by omega
          have := hc k es[off + k] l[k] (by simp [hk2]) (by simp [hk])
          rw [← this]
          exact h3 _ (List.getElem_mem hk2))
        (fun i j e x v he hx hv => by
          have hi := get_lt he
          have hi2 : off + i < es.length := by omega
          have hlen := hc i es[off + i] e (by simp [hi2]) he
          have hj := get_lt hx
          have hj2 : j < es[off + i].cells.length := by omega
          refine ih i j es[off + i] e es[off + i].cells[j] x (by simp [hi2]) he (by simp [hj2]) hx ?_
          exact h4 (off + i) j es[off + i] _ v (by simp [hi2]) (by simp [hj2]) (by rw [Nat.add_mul]; exact hv))
      rwa [hn] at this
  | agg cs cs' hl _ ih =>
    intro v hv
    cases hv with
    | agg _ vs hvl hvs =>
      refine .agg cs' vs (by omega) fun k x u hx hu => ?_
      have hk := get_lt hx
      have hk2 : k < cs.length := by omega
      exact ih k cs[k] x (by simp [hk2]) hx (hvs k _ u (by simp [hk2]) hu)
  | tup cs cs' hl _ ih =>
    intro v hv
    cases hv with
    | tup _ vs hvl hvs =>
      refine .tup cs' vs (by omega) fun k x u hx hu => ?_
      have hk := get_lt hx
      have hk2 : k < cs.length := by omega
      exact ih k cs[k] x (by simp [hk2]) hx (hvs k _ u (by simp [hk2]) hu)
  | iface t x x' _ ih =>
    intro v hv
    cases hv with
    | iface _ _ u hu => exact .iface t x' u (ih hu)
  | ptr b sz i j es e cs' hb hH he hl _ ih =>
    intro v hv
    cases hv with
    | ptr _ _ _ _ hbN =>
      obtain ⟨c, T, h1, h2, h3, h4⟩ := hr.blk b _ hH
      have hi := get_lt he
      have hs := h3 e (List.mem_of_getElem? he)
      have hle : (i + 1) * sz ≤ es.length * sz := Nat.mul_le_mul_right _ hi
      rw [Nat.add_mul, Nat.one_mul] at hle
      refine .iptr cs' j (φ b) (i * sz) c T (0, 0) (.inr ⟨b, _, hb, hH, rfl⟩) h1 (by omega) fun k x' v hx' hv => ?_
      have hk := get_lt hx'
      have hk2 : k < e.cells.length := by omega
      exact ih k e.cells[k] x' (by simp [hk2]) hx' (h4 i k e e.cells[k] v he (by simp [hk2]) hv)
  | func f cs cs' hl _ ih =>
    intro v hv
    cases hv with
    | func _ _ _ vf vc l1 l2 l3 l4 =>
      refine .func f [] cs' vf vc l1 (by omega) (by simp) fun k x v hx hv => ?_
      have hk := get_lt hx
      have hk2 : k < cs.length := by omega
      exact ih k cs[k] x (by simp [hk2]) hx (l4 k _ v (by simp [hk2]) hv)

theorem Evo.close (h : Evo φ0 I0 H0 w0 φ I H w) : Evo φ0 I0 H0 w0 φ (frz φ I H0.length H) (H.take H0.length) w where
  size := h.size
  shape := h.shape
  keep := h.keep
  imm B hB := .inl (h.imm B hB)
  phi := h.phi
  len := by have := h.len; simp; omega
  own B hB := by
    obtain ⟨b, x, hb, e⟩ := hB
    exact h.own B ⟨b, x, (take_get hb).2, e⟩
  immf B hB := by
    rcases hB with hB | ⟨b, x, _, hb, e⟩
    · exact h.immf B hB
    · rcases h.own B ⟨b, x, hb, e⟩ with h1 | h1
      · exact .inr (.inl h1)
      · exact .inr (.inr h1)
  tape := h.tape
  os := h.os
  out := h.out
  froz := h.froz

theorem RH.close (hr : RH γ φ I H w) {L : Nat} (hL : L ≤ H.length) (ho : ∀ (b : Nat) (x : EB), b < L → H[b]? = some (some x) → x.ok L = true) : RH γ φ (frz φ I L H) (H.take L) w where
  glob g := (hr.glob g).mono (Nat.le_refl _) (fun _ _ => rfl) (fun _ h => .inl h) (fun _ _ => rfl) (fun _ _ _ _ h => h)
  blk b x hb := by
    obtain ⟨h1, h2⟩ := take_get hb
    rw [List.length_take, Nat.min_eq_left hL]
    exact ((hr.blk b x h2).trunc (ho b x h1 h2)).mono (Nat.le_refl _) (fun _ _ => rfl) (fun _ h => .inl h) (fun _ _ => rfl) (fun _ _ _ _ h => h) rfl
  inj b b' x x' hb hb' e := hr.inj b b' x x' (take_get hb).2 (take_get hb').2 e
  imm B hB := by
    rcases hB with hB | ⟨b, x, _, hb, e⟩
    · exact hr.imm B hB
    · exact e ▸ hr.lt b x hb
  dis b x hb hB := by
    obtain ⟨h1, h2⟩ := take_get hb
    rcases hB with hB | ⟨b', x', hb1, hb2, e⟩
    · exact hr.dis b x h2 hB
    · have := hr.inj b' b x' x hb2 h2 e
      omega
  lt b x hb := hr.lt b x (take_get hb).2

/-- Where a result stands. -/
inductive ERes where
  | tmp (t : Nat)
  | cell (t : Nat) (ag : Bool) (n : Nat)
  deriving Inhabited

def resRes (P : Program) : ResultVar → Option ERes
  | .tmp t => some (.tmp t)
  | .cell t ty => (tyOf P ty).map fun p => .cell t p.1 p.2

def evRes (s : Slots) (H : Heap) : ERes → Option EV
  | .tmp t => some (s t)
  | .cell t ag n => evLoad ag n (s t) H

def evResL (s : Slots) (H : Heap) : List ERes → Option (List EV)
  | [] => some []
  | r :: rs =>
    match evRes s H r, evResL s H rs with
    | some v, some vs => some (v :: vs)
    | _, _ => none

def evResults (s : Slots) (H : Heap) (rs : List ERes) : Option EV :=
  match evResL s H rs with
  | some [v] => some v
  | some vs => some (.tup vs)
  | none => none

def resSem (tmps : Array Value) : ResultVar → Sem Value
  | .tmp t => pure (tmps.getD t Go.undef)
  | .cell t ty => do loadVar ty (← asAddr (tmps.getD t Go.undef))

theorem results_eq (fn : Func) (tmps : Array Value) : results fn tmps = (do
    let vs ← fn.results.mapM (resSem tmps)
    pure (if h : vs.size = 1 then vs[0] else .tuple vs)) := by
  unfold results
  congr 1

theorem res_one (hR : Rel γ n nb φ I s H a w) {r : ResultVar} {e : ERes} (h : resRes P r = some e) {v : EV} (hv : evRes s H e = some v) :
    ∃ val, (resSem a.tmps r).run P w = .ok val w ∧ RV φ H.length I w v val := by
  cases r with
  | tmp t =>
    simp only [resRes, Option.some.injEq] at h; subst h
    simp only [evRes, Option.some.injEq] at hv; subst hv
    exact ⟨_, rfl, hR.slots t⟩
  | cell t ty =>
    simp only [resRes, Option.map_eq_some_iff] at h
    obtain ⟨p, hp, rfl⟩ := h
    simp only [evRes] at hv
    have hx := hR.slots t
    obtain ⟨val, h1, h2⟩ := load_sound hR.heap hp hx hv
    refine ⟨val, ?_, h2⟩
    generalize hva : a.tmps.getD t Go.undef = vt at hx h1
    have : ∃ ad, vt = .pointer (some ad) := by
      unfold evLoad at hv
      split at hv
      · rename_i hq; rw [hq] at hx; cases hx; exact ⟨_, rfl⟩
      · rename_i hq; rw [hq] at hx; cases hx; exact ⟨_, rfl⟩
      · simp at hv
    obtain ⟨ad, rfl⟩ := this
    simp only [resSem, Sem.run_bind, hva, asAddr, Sem.run_pure, Result.andThen_ok]
    simpa [Instr.loadAt, Instr.sureAddr] using h1

theorem res_all (hR : Rel γ n nb φ I s H a w) : ∀ {rs : List ResultVar} {es : List ERes}, rs.mapM (resRes P) = some es → ∀ {vs : List EV}, evResL s H es = some vs →
    ∃ vals : List Value, (rs.mapM (resSem a.tmps)).run P w = .ok vals w ∧
      RCs φ H.length I w vs vals
  | [], es, h, vs, hv => by
    simp at h; subst h
    simp only [evResL, Option.some.injEq] at hv; subst hv
    exact ⟨[], by simp, rfl, by simp⟩
  | r :: rs, es, h, vs, hv => by
    simp only [List.mapM_cons, Option.pure_def, Option.bind_eq_bind, Option.bind_eq_some_iff, Option.some.injEq] at h
    obtain ⟨e, he, es', hes, rfl⟩ := h
    simp only [evResL] at hv
    split at hv
    · rename_i v vs' h1 h2
      simp only [Option.some.injEq] at hv; subst hv
      obtain ⟨val, g1, g2⟩ := res_one hR he h1
      obtain ⟨vals, k1, k2, k3⟩ := res_all hR hes h2
      refine ⟨val :: vals, by simp only [List.mapM_cons, Sem.run_bind, g1, Result.andThen_ok, k1, Sem.run_pure], by simp [k2], fun k x u hx hu => ?_⟩
      cases k with
      | zero => simp at hx hu; subst hx hu; exact g2
      | succ k => exact k3 k x u (by simpa using hx) (by simpa using hu)
    · simp at hv

theorem results_sound (hR : Rel γ n nb φ I s H a w) {fn : Func} {es : List ERes} (h : fn.results.toList.mapM (resRes P) = some es) {v : EV} (hv : evResults s H es = some v) :
    ∃ val, (results fn a.tmps).run P w = .ok val w ∧ RV φ H.length I w v val := by
  have key : ∀ vs, evResL s H es = some vs → ∃ vals : List Value, (results fn a.tmps).run P w = .ok (if h : vals.toArray.size = 1 then vals.toArray[0] else .tuple vals.toArray) w ∧ RCs φ H.length I w vs vals := by
    intro vs hvs
    obtain ⟨vals, h1, h2⟩ := res_all hR h hvs
    refine ⟨vals, ?_, h2⟩
    rw [results_eq, Array.mapM_eq_mapM_toList]
    simp only [Sem.run_bind, Sem.run_map, h1, Result.andThen_ok, Sem.run_pure]
  unfold evResults at hv
  split at hv
  · rename_i v' hvs
    simp only [Option.some.injEq] at hv; subst hv
    obtain ⟨vals, h1, h2, h3⟩ := key _ hvs
    match vals, h2 with
    | [val], _ => exact ⟨val, by simpa using h1, h3 0 _ _ rfl rfl⟩
  · rename_i vs hne hvs
    simp only [Option.some.injEq] at hv; subst hv
    obtain ⟨vals, h1, h2, h3⟩ := key _ hvs
    have hlen : vals.length ≠ 1 := by
      intro hl
      rw [← h2] at hl
      match vs, hl with
      | [x], _ => exact hne x rfl
    refine ⟨.tuple vals.toArray, by simpa [hlen] using h1, .tup vs _ (by simpa using h2) fun k x u hx hu => h3 k x u hx (by simpa using hu)⟩
  · simp at hv

/-- What a body must come to: what it made is frozen or let go of, or all stays as it is. -/
def bodyA (n0 : Nat) (rs : List ERes) (R : ER → Heap → Prop) : AX → Slots → Heap → Prop
  | .normal, s, H | .ret, s, H => (∃ r r', evResults s H rs = some r ∧ FZ n0 H r r' ∧ (∀ (b : Nat) (x : EB), b < n0 → H[b]? = some (some x) → x.ok n0 = true) ∧ R (.ret r') (H.take n0)) ∨ ∃ r, evResults s H rs = some r ∧ R (.ret r) H
  | .panic v, _, H => (∃ v', FZ n0 H v v' ∧ (∀ (b : Nat) (x : EB), b < n0 → H[b]? = some (some x) → x.ok n0 = true) ∧ R (.pan v') (H.take n0)) ∨ R (.pan v) H
  | _, _, _ => False

def slots0 (args : List EV) (t : Nat) : EV := args[t]?.getD .undef

theorem leave_marks {F : Fence} {m : Nat} {fn : Func} {tmps : Array Value} {R : Ending → World → Prop} {u : FrameMode} (hu : u ≠ .run) : ∀ (Ds : List Nat) (w : World), Ds.Nodup → (∀ D ∈ Ds, w.heap[D]? = some (.deferred (some []))) →
    (∀ w', w'.heap.size = w.heap.size → (∀ B, B ∉ Ds → w'.heap[B]? = w.heap[B]?) → w'.tape = w.tape → w'.os = w.os → w'.output = w.output → LeavesIn F m P fn tmps R [] u w') → LeavesInM F m P fn tmps R (Ds.map mark) u w
  | [], w, _, _, h => h w rfl (fun _ _ => rfl) rfl rfl rfl
  | D :: Ds, w, hnd, hD, h => by
    have hd := hD D (by simp)
    have hlt : D < w.heap.size := (Array.getElem?_eq_some_iff.1 hd).1
    rw [List.nodup_cons] at hnd
    refine ⟨hu, .inl ⟨D, w.putObj D (.deferred none), rfl, ?_, leave_marks hu Ds _ hnd.2 (fun E hE => ?_) fun w' k1 k2 k3 k4 k5 => h w' (by rw [k1]; simp) (fun B hB => ?_) k3 k4 k5⟩⟩
    · exact run_takeDeferred hd
    · rw [World.putObj_heap_other (by rintro rfl; exact hnd.1 hE)]
      exact hD E (by simp [hE])
    · rw [k2 B (fun h => hB (by simp [h])), World.putObj_heap_other (by rintro rfl; exact hB (by simp))]

/-- Blocks that are no part of the state are turned. -/
theorem shut {φ' : Nat → Nat} {I' : Nat → Prop} {H' : Heap} {w' w'' : World} {Ds : List Nat} (h1 : Evo φ I H w φ' I' H' w') (h2 : RH γ φ' I' H' w')
    (hD : ∀ D ∈ Ds, w.heap.size ≤ D ∧ w'.heap[D]? = some (.deferred (some [])) ∧ ¬ Own φ' H' D ∧ ¬ I' D) (k1 : w''.heap.size = w'.heap.size) (k2 : ∀ B, B ∉ Ds → w''.heap[B]? = w'.heap[B]?) (k3 : w''.tape = w'.tape) (k4 : w''.os = w'.os) (k5 : w''.output = w'.output) :
    Evo φ I H w φ' I' H' w'' ∧ RH γ φ' I' H' w'' ∧ ∀ (N : Nat) (x : EV) (v : Value), RV φ' N I' w' x v → RV φ' N I' w'' x v := by
  have old : ∀ B, B < w.heap.size → w''.heap[B]? = w'.heap[B]? := fun B hB => k2 B fun hm => by have := (hD B hm).1; omega
  have imm : ∀ B, I' B → w''.heap[B]? = w'.heap[B]? := fun B hB => k2 B fun hm => (hD B hm).2.2.2 hB
  have shp : ∀ B T n, w'.shape? B = some (T, n) → w''.shape? B = some (T, n) := fun B T n hs => by
    have : w''.heap[B]? = w'.heap[B]? := k2 B fun hm => by
      unfold World.shape? at hs
      rw [(hD B hm).2.1] at hs
      simp at hs
    rw [← hs]
    unfold World.shape?
    rw [this]
  have mono : ∀ (N : Nat) (x : EV) (v : Value), RV φ' N I' w' x v → RV φ' N I' w'' x v := fun N x v h =>
    h.mono (Nat.le_refl _) (fun _ _ => rfl) (fun _ h => h) imm (fun b _ T n hs => shp _ T n hs)
  refine ⟨⟨by rw [k1]; exact h1.size, fun B hB => ?_, fun B hB hn => (old B hB).trans (h1.keep B hB hn), h1.imm, h1.phi, h1.len, h1.own, h1.immf, k3.trans h1.tape, k4.trans h1.os, k5.trans h1.out, fun a ha => ?_⟩,
    ⟨fun g => mono _ _ _ (h2.glob g), fun b x hb => (h2.blk b x hb).mono (Nat.le_refl _) (fun _ _ => rfl) (fun _ h => h) imm (fun b _ T n hs => shp _ T n hs) (k2 _ fun hm => (hD _ hm).2.2.1 ⟨b, x, hb, rfl⟩), h2.inj,
      fun B hB => by rw [k1]; exact h2.imm B hB, h2.dis, fun b x hb => by rw [k1]; exact h2.lt b x hb⟩, mono⟩
  · rw [← h1.shape B hB]
    unfold World.shape?
    rw [old B hB]
  · rw [← h1.froz a ha]
    unfold World.frozen?
    rw [old _ ha]

theorem callsA_of_body {f : FuncId} {fn : Func} {c : Code} {own : List Nat} {ec : EC} {rs : List ERes} {args : List EV} {R : ER → Heap → Prop} (hf : P.funcs[f]? = some fn) (hb : fn.body = some c)
    (hn : (fn.name == "runtime.NumGoroutine") = false) (hc : resC P fn.ntmps own c = some ec) (hrs : fn.results.toList.mapM (resRes P) = some rs) (ha : args.length ≤ fn.ntmps)
    (h : OkH H → wpc P γ ec (bodyA H.length rs R) (slots0 args) H) : CallsA P γ f args H R := by
  refine ⟨⟨fn, c, hf, hb, hn⟩, fun φ I w vs hr hv => (callsIn_wide (n := 3)).1 (callsIn_of_wp_marks (F := FR none) hf hb trivial ?_)⟩
  have hvs : vs.size = args.length := by simpa using hv.1.symm
  have hR : Rel γ fn.ntmps w.heap.size φ I (slots0 args) H { tmps := vs ++ Array.replicate (fn.ntmps - vs.size) Go.undef, defers := [] } w := by
    refine ⟨by simp; omega, fun t => ?_, hr, .none (Nat.le_refl _)⟩
    simp only [slots0]
    by_cases ht : t < args.length
    · have ht2 : t < vs.size := by omega
      have : (vs ++ Array.replicate (fn.ntmps - vs.size) Go.undef).getD t Go.undef = vs[t] := by simp [Array.getElem?_append, ht2]
      rw [this]
      have := hv.2 t args[t] vs[t] (by simp [ht]) (by simp [ht2])
      simpa [ht] using this
    · have : args[t]? = none := by simp; omega
      rw [this]
      exact .undef _
  refine wpIn_mono (wpc_sound c ec hc none 3 w.heap.size (.inl ⟨⟨rfl, by omega⟩, rfl⟩) _ φ I _ H _ w hR (h hr.isOk)) fun e a' w' hp => ?_
  obtain ⟨φ', I', s', H', x, h1, h2, h3, h4⟩ := hp
  obtain ⟨_, Ds, hds, hnd, hD⟩ := h2.defers
  replace hds : a'.defers = Ds.map mark := by rw [hds]; exact List.append_nil _
  have fin : ((∃ r r', evResults s' H' rs = some r ∧ FZ H.length H' r r' ∧ (∀ (b : Nat) (x : EB), b < H.length → H'[b]? = some (some x) → x.ok H.length = true) ∧ R (.ret r') (H'.take H.length)) ∨ ∃ r, evResults s' H' rs = some r ∧ R (.ret r) H') →
      LeavesInM (FR none) 3 P fn a'.tmps (fun e w' => ∃ φ' I' H' er, Evo φ I H w φ' I' H' w' ∧ RH γ φ' I' H' w' ∧ RE φ' H'.length I' w' er e ∧ R er H') a'.defers .returning w' := by
    intro hfin
    rw [hds]
    refine leave_marks (by simp) Ds w' hnd (fun D hm => (hD D hm).2.1) fun w'' k1 k2 k3 k4 k5 => ?_
    obtain ⟨m1, m2, m3⟩ := shut h1 h2.heap (fun D hm => ⟨(hD D hm).1.1, (hD D hm).2⟩) k1 k2 k3 k4 k5
    have hR'' : Rel γ fn.ntmps 0 φ' I' s' H' { a' with defers := [] } w'' := ⟨h2.sz, fun t => m3 _ _ _ (h2.slots t), m2, .none (Nat.zero_le _)⟩
    rcases hfin with ⟨r, r', g1, g2, g3, g4⟩ | ⟨r, g1, g4⟩
    · obtain ⟨val, n1, n2⟩ := results_sound hR'' hrs g1
      refine ⟨val, n1, φ', _, H'.take H.length, .ret r', m1.close, m2.close m1.len g3, ?_, g4⟩
      rw [List.length_take, Nat.min_eq_left h1.len]
      exact .ret r' val (g2.sound m2 n2)
    · obtain ⟨val, n1, n2⟩ := results_sound hR'' hrs g1
      exact ⟨val, n1, φ', I', H', .ret r, m1, m2, .ret r val n2, g4⟩
  cases h3 with
  | normal => exact fin h4
  | ret => exact fin h4
  | exit id => exact h4.elim
  | goto l => exact h4.elim
  | panic x v hv =>
    show LeavesInM (FR none) 3 P fn a'.tmps _ a'.defers (.panicking [{ v, recovered := false }]) w'
    rw [hds]
    refine leave_marks (by simp) Ds w' hnd (fun D hm => (hD D hm).2.1) fun w'' k1 k2 k3 k4 k5 => ?_
    obtain ⟨m1, m2, m3⟩ := shut h1 h2.heap (fun D hm => ⟨(hD D hm).1.1, (hD D hm).2⟩) k1 k2 k3 k4 k5
    rcases h4 with ⟨v', g2, g3, g4⟩ | g4
    · refine ⟨φ', _, H'.take H.length, .pan v', m1.close, m2.close m1.len g3, ?_, g4⟩
      rw [List.length_take, Nat.min_eq_left h1.len]
      exact .pan v' v (g2.sound m2 (m3 _ _ _ hv))
    · exact ⟨φ', I', H', .pan x, m1, m2, .pan x v (m3 _ _ _ hv), g4⟩


/-- A call that neither is handed blocks nor hands back any: whatever the heap. -/
theorem CallsA.pure {f : FuncId} {args : List EV} {R : ER → Prop} (h : CallsA P γ f args [] fun er H' => R er ∧ H' = []) (ha : okL 0 args = true) (hk : ∀ er, R er → match er with | .ret v => v.ok 0 = true | .pan v => v.ok 0 = true) :
    CallsA P γ f args H fun er H' => R er ∧ H' = H := by
  refine ⟨h.1, fun φ I w vs hr hv => (h.2 φ I w vs ?_ ?_).mono fun e w' he => ?_⟩
  · exact ⟨hr.glob, by simp, by simp, hr.imm, by simp, by simp⟩
  · exact ⟨hv.1, fun k x v hx hu => (hv.2 k x v hx hu).trunc (okL_iff.1 ha x (List.mem_of_getElem? hx))⟩
  · obtain ⟨φ', I', H', er, h1, h2, h3, h4, rfl⟩ := he
    have hall : ∀ B, B < w.heap.size → w'.heap[B]? = w.heap[B]? := fun B hB => h1.keep B hB fun ⟨b, x, hb, _⟩ => by simp at hb
    have himm : ∀ B, I' B → I B ∨ w.heap.size ≤ B := fun B hB => by
      rcases h1.immf B hB with h | ⟨b, x, hb, _⟩ | h
      · exact .inl h
      · simp at hb
      · exact .inr h
    have hres : RE φ H.length I' w' er e := by
      have hkk := hk er h4
      cases h3 with
      | ret x v hv' => exact .ret x v ((hv'.mono (φ' := φ) (Nat.le_refl 0) (fun i hi => absurd hi (Nat.not_lt_zero i)) (fun _ h => h) (fun _ _ => rfl) (fun b hb => absurd hb (Nat.not_lt_zero b))).grow (Nat.zero_le _))
      | pan x v hv' => exact .pan x v ((hv'.mono (φ' := φ) (Nat.le_refl 0) (fun i hi => absurd hi (Nat.not_lt_zero i)) (fun _ h => h) (fun _ _ => rfl) (fun b hb => absurd hb (Nat.not_lt_zero b))).grow (Nat.zero_le _))
    refine ⟨φ, I', H, er, ⟨h1.size, h1.shape, fun B hB _ => hall B hB, h1.imm, fun _ _ => rfl, Nat.le_refl _, fun B h => .inl h, fun B hB => (himm B hB).elim .inl fun h => .inr (.inr h), h1.tape, h1.os, h1.out, h1.froz⟩,
      ⟨fun g => (h2.glob g).mono (Nat.le_refl 0) (fun i hi => absurd hi (Nat.not_lt_zero i)) (fun _ h => h) (fun _ _ => rfl) (fun b hb => absurd hb (Nat.not_lt_zero b)), fun b x hb => ?_, hr.inj, h2.imm, fun b x hb hB => ?_, fun b x hb => Nat.lt_of_lt_of_le (hr.lt b x hb) h1.size⟩, hres, h4, rfl⟩
    · exact (hr.blk b x hb).mono (Nat.le_refl _) (fun _ _ => rfl) h1.imm (fun B hB => hall B (hr.imm B hB)) (fun _ _ _ _ hs => (h1.shape _ (shape_lt hs)).trans hs) (hall _ (hr.lt b x hb))
    · rcases himm _ hB with h | h
      · exact hr.dis b x hb h
      · have := hr.lt b x hb; omega

end
end Abs

namespace Abs
open Go

section
variable {P : Program} {γ : Nat → EV} {Q : AX → Slots → Heap → Prop} {s : Slots} {H H' : Heap} {v : EV} {rest : List EOper} {op : EOp}

/-- Slots that are told; all others are let go of. -/
def mkS : List (Nat × EV) → Slots
  | [], _ => .undef
  | (d, v) :: l, t => if t = d then v else mkS l t

def EOp.quiet : EOp → Bool
  | .call _ _ => false
  | .panic _ => false
  | _ => true

theorem wops_step {d : Nat} (hev : evOp (ev γ s) H op = some (v, H')) (h : wops P γ Q rest (upd s d v) H') : wops P γ Q ({ dst := some d, op := op } :: rest) s H :=
  wop_of hev h

theorem wops_do (hev : evOp (ev γ s) H op = some (v, H')) (h : wops P γ Q rest s H') : wops P γ Q ({ dst := none, op := op } :: rest) s H :=
  wop_of hev h

theorem wops_call {d : Nat} {f : EOpd} {args : List EOpd} {g : FuncId} {first cap as : List EV} (hf : ev γ s f = .func (.func g) first cap) (ha : args.map (ev γ s) = as) {R : ER → Heap → Prop}
    (hc : CallsA P γ g (first ++ as ++ cap) H R) (h : ∀ er H', R er H' → match er with | .ret r => wops P γ Q rest (upd s d r) H' | .pan v => Q (.panic v) s H') :
    wops P γ Q ({ dst := some d, op := .call f args } :: rest) s H := by
  subst ha
  show wop P γ _ _ H (.call f args) _
  unfold wop
  simp only [hf]
  exact ⟨R, hc, h⟩

/-- .. with one answer. -/
theorem wops_call1 {d : Nat} {f : EOpd} {args : List EOpd} {g : FuncId} {first cap as : List EV} (hf : ev γ s f = .func (.func g) first cap) (ha : args.map (ev γ s) = as)
    (hc : CallsA P γ g (first ++ as ++ cap) H fun er H1 => er = .ret v ∧ H1 = H') (h : wops P γ Q rest (upd s d v) H') :
    wops P γ Q ({ dst := some d, op := .call f args } :: rest) s H :=
  wops_call hf ha hc fun er H1 he => by obtain ⟨rfl, rfl⟩ := he; exact h

theorem wops_nil (h : Q .normal s H) : wops P γ Q [] s H := h

theorem wpc_ops {l : List EOper} (h : wops P γ Q l s H) : wpc P γ (.ops l) Q s H := h
theorem wpc_skip (h : Q .normal s H) : wpc P γ .skip Q s H := h
theorem wpc_seq {a b : EC} (h : wpc P γ a (thenA (fun s' H' => wpc P γ b Q s' H') Q) s H) : wpc P γ (.seq a b) Q s H := h
theorem wpc_block {id : Nat} {c : EC} (h : wpc P γ c (inBlockA id Q) s H) : wpc P γ (.block id c) Q s H := h
theorem wpc_exit {id : Nat} (h : Q (.exit id) s H) : wpc P γ (.exit id) Q s H := h
theorem wpc_ret (h : Q .ret s H) : wpc P γ .ret Q s H := h
theorem wpc_cond {c : EOpd} {a b : EC} {t : Bool} (hc : ev γ s c = .bool t) (h1 : t = true → wpc P γ a Q s H) (h2 : t = false → wpc P γ b Q s H) : wpc P γ (.cond c a b) Q s H := by
  simp only [wpc, hc]
  cases t
  · simpa using h2 rfl
  · simpa using h1 rfl

theorem mkS_or (s : Slots) : ∀ (l : List (Nat × EV)), (∀ p ∈ l, s p.1 = p.2) → ∀ t, mkS l t = .undef ∨ mkS l t = s t
  | [], _, _ => .inl rfl
  | p :: l, h, t => by
    simp only [mkS]
    split
    · rename_i e; subst e; exact .inr (h p (by simp)).symm
    · exact mkS_or s l (fun q hq => h q (by simp [hq])) t

/-- A weaker goal behind. -/
theorem wops_mono {Q Q' : AX → Slots → Heap → Prop} (hq : ∀ x s H, Q x s H → Q' x s H) : ∀ {l : List EOper} {s : Slots} {H : Heap}, wops P γ Q l s H → wops P γ Q' l s H
  | [], s, H, h => hq _ _ _ h
  | o :: l, s, H, h => by
    have step : ∀ {K K' : EV → Heap → Prop} (_ : ∀ v H, K v H → K' v H) {op : EOp}, wop P γ (fun v H' => Q (.panic v) s H') (ev γ s) H op K → wop P γ (fun v H' => Q' (.panic v) s H') (ev γ s) H op K' := by
      intro K K' hk op h
      unfold wop at h ⊢
      split
      · simp only at h
        split
        · rename_i g first cap hf
          rw [hf] at h
          obtain ⟨R, h1, h2⟩ := h
          refine ⟨R, h1, fun er H' hr => ?_⟩
          have := h2 er H' hr
          cases er with
          | ret r => exact hk _ _ this
          | pan v => exact hq _ _ _ this
        · rename_i hne
          split at h
          · rename_i g first cap hf; exact absurd hf (hne g first cap)
          · exact h.elim
      · simp only at h
        split
        · rename_i t v hx
          rw [hx] at h
          exact hq _ _ _ h
        · rename_i hne
          split at h
          · rename_i t v hx; exact absurd hx (hne t v)
          · exact h.elim
      · rename_i h1 h2
        split
        · rename_i v H' hev
          cases op <;> first | exact absurd rfl (h1 _ _) | exact absurd rfl (h2 _) | (simp only [hev] at h; exact hk _ _ h)
        · rename_i hev
          cases op <;> first | exact absurd rfl (h1 _ _) | exact absurd rfl (h2 _) | (simp only [hev] at h)
    simp only [wops] at h ⊢
    split
    · rename_i hg
      rw [hg] at h
      exact step (fun v H h => wops_mono hq h) h
    · rename_i d b hg
      rw [hg] at h
      simp only at h
      split
      · rename_i t ht
        rw [ht] at h
        simp only at h
        split
        · rename_i e; rw [if_pos e] at h; exact step (fun v H h => wops_mono hq h) h
        · rename_i e; rw [if_neg e] at h; exact wops_mono hq h
      · rename_i ht
        rw [ht] at h
        exact wops_mono hq h
      · rename_i hne hng
        split at h
        · rename_i t ht; exact absurd ht (hne t)
        · rename_i ht; exact absurd ht hng
        · exact h.elim

theorem wdr_mono {Q Q' : AX → Slots → Heap → Prop} (hq : ∀ x s H, Q x s H → Q' x s H) : ∀ {l : List (EOper × Bool)} {s : Slots} {H : Heap}, wdr P γ Q l s H → wdr P γ Q' l s H
  | [], _, _, h => hq _ _ _ h
  | _ :: _, _, _, ⟨v, H', h1, h2, h3⟩ => ⟨v, H', h1, h2, wdr_mono hq h3⟩

theorem wdG_mono {ds : List Nat} {Q Q' : AX → Slots → Heap → Prop} (hq : ∀ x s H, Q x s H → Q' x s H) : ∀ {l : List GO} {s : Slots} {H : Heap}, wdG P γ ds Q l s H → wdG P γ ds Q' l s H
  | [], _, _, h => hq _ _ _ h
  | _ :: _, _, _, .inl ⟨v, H', h1, h2, h3, h4⟩ => .inl ⟨v, H', h1, h2, h3, wdG_mono hq h4⟩
  | _ :: _, _, _, .inr ⟨h1, h2, pv, H', h3, h4, h5⟩ => .inr ⟨h1, h2, pv, H', h3, h4, hq _ _ _ h5⟩

theorem thenA_mono {next next' : Slots → Heap → Prop} {Q Q' : AX → Slots → Heap → Prop} (hn : ∀ s H, next s H → next' s H) (hq : ∀ x s H, Q x s H → Q' x s H) : ∀ x s H, thenA next Q x s H → thenA next' Q' x s H := by
  intro x s H h
  cases x <;> first | exact hn _ _ h | exact hq _ _ _ h

theorem wpc_mono : ∀ {c : EC} {Q Q' : AX → Slots → Heap → Prop} {s : Slots} {H : Heap}, (∀ x s H, Q x s H → Q' x s H) → wpc P γ c Q s H → wpc P γ c Q' s H
  | .skip, _, _, _, _, hq, h => hq _ _ _ h
  | .ops _, _, _, _, _, hq, h => wops_mono hq h
  | .draw _, _, _, _, _, hq, h => wdr_mono hq h
  | .drawG _ _, _, _, _, _, hq, h => wdG_mono hq h
  | .seq a b, _, _, _, _, hq, h => wpc_mono (c := a) (thenA_mono (fun _ _ h => wpc_mono (c := b) hq h) hq) h
  | .cond c a b, _, _, s, H, hq, h => by
    simp only [wpc] at h ⊢
    split
    · rename_i t ht
      rw [ht] at h
      simp only at h
      split
      · rename_i e; rw [if_pos e] at h; exact wpc_mono (c := a) hq h
      · rename_i e; rw [if_neg e] at h; exact wpc_mono (c := b) hq h
    · rename_i hne
      split at h
      · rename_i t ht; exact absurd ht (hne t)
      · exact h.elim
  | .block id c, _, _, _, _, hq, h => wpc_mono (c := c) (fun x s H h => by
      cases x <;> first
        | exact hq _ _ _ h
        | (simp only [inBlockA] at h ⊢
           split
           · rename_i e; rw [if_pos e] at h; exact hq _ _ _ h
           · rename_i e; rw [if_neg e] at h; exact hq _ _ _ h)) h
  | .loop c, _, _, _, _, hq, ⟨Inv, m0, s0, h1, h2, h3⟩ => ⟨Inv, m0, s0, h1, h2, fun m s' H' hi => wpc_mono (c := c) (thenA_mono (fun _ _ h => h) hq) (h3 m s' H' hi)⟩
  | .rangeFunc f p d c, Q, Q', s, _, hq, h => by
    simp only [wpc] at h ⊢
    obtain ⟨α, enc, g, cap, xs, Hs, J, h1, h2, h3, h4, h5, h6, h7, h8, h9⟩ := h
    refine ⟨α, enc, g, cap, xs, Hs, J, h1, h2, h3, h4, h5, h6, h7, fun pre x hl hj => wpc_mono (c := c) (fun X s' H' h => ?_) (h8 pre x hl hj), fun hj => hq _ _ _ (h9 hj)⟩
    cases X with
    | normal => exact h
    | ret => exact ⟨fun hw => hq _ _ _ (h.1 hw), h.2⟩
    | exit id => exact ⟨fun hw => hq _ _ _ (h.1 hw), h.2⟩
    | goto l => exact h
    | panic v => exact h
  | .exit _, _, _, _, _, hq, h => hq _ _ _ h
  | .ret, _, _, _, _, hq, h => hq _ _ _ h

/-- What a loop's round hands on. -/
def Hands (Inv : Nat → Slots → Heap → Prop) (m n0 : Nat) (s1 : Slots) (H1 : Heap) : Prop := ∃ m1 s2 L, m1 < m ∧ n0 ≤ L ∧ Forgets L s1 H1 s2 ∧ Inv m1 s2 (H1.take L)

/-- A loop: 'l' are the slots that are told at its head; the round's end and what stands behind the loop are behind names. -/
theorem wpc_loop {c : EC} (Inv : Nat → Slots → Heap → Prop) (m0 : Nat) (l : List (Nat × EV)) (hl : ∀ p ∈ l, s p.1 = p.2) (h0 : Inv m0 (mkS l) H)
    (h : ∀ m s' H', Inv m s' H' → ∀ (K : Slots → Heap → Prop) (Q' : AX → Slots → Heap → Prop), (∀ s1 H1, Hands Inv m H.length s1 H1 → K s1 H1) → (∀ x s1 H1, Q x s1 H1 → Q' x s1 H1) → wpc P γ c (thenA K Q') s' H') :
    wpc P γ (.loop c) Q s H :=
  ⟨Inv, m0, mkS l, mkS_or s l hl, h0, fun m s' H' hi => h m s' H' hi _ _ (fun _ _ h => h) (fun _ _ _ h => h)⟩

/-- One piece of code, then what stands behind it, behind a name. -/
theorem wpc_seq' {a b : EC} (h : ∀ (K : Slots → Heap → Prop), (∀ s1 H1, wpc P γ b Q s1 H1 → K s1 H1) → wpc P γ a (thenA K Q) s H) : wpc P γ (.seq a b) Q s H := h _ fun _ _ h => h

theorem then_normal {next : Slots → Heap → Prop} (h : next s H) : thenA next Q .normal s H := h
theorem then_exit {next : Slots → Heap → Prop} {id : Nat} (h : Q (.exit id) s H) : thenA next Q (.exit id) s H := h
theorem then_ret {next : Slots → Heap → Prop} (h : Q .ret s H) : thenA next Q .ret s H := h
theorem block_normal {id : Nat} (h : Q .normal s H) : inBlockA id Q .normal s H := h
theorem block_ret {id : Nat} (h : Q .ret s H) : inBlockA id Q .ret s H := h
theorem block_exit_same {id : Nat} (h : Q .normal s H) : inBlockA id Q (.exit id) s H := by simpa [inBlockA] using h
theorem block_exit_other {id id' : Nat} (hne : id' ≠ id) (h : Q (.exit id') s H) : inBlockA id Q (.exit id') s H := by simpa [inBlockA, hne] using h

theorem putA_some {d : Nat} : putA s (some d) v = upd s d v := rfl
theorem putA_none : putA s none v = s := rfl

theorem wpc_draw {l : List (EOper × Bool)} (h : wdr P γ Q l s H) : wpc P γ (.draw l) Q s H := h
theorem wdr_nil (h : Q .normal s H) : wdr P γ Q [] s H := h

theorem acts_of (hev : evOp (ev γ s) H op = some (v, H')) : Acts P γ s H op v H' := by
  unfold Acts
  split
  · simp [evOp] at hev
  · exact hev

theorem wdr_step {d : Option Nat} {c : Bool} {l : List (EOper × Bool)} (hev : evOp (ev γ s) H op = some (v, H')) (hc : c = false → H' = H) (h : wdr P γ Q l (putA s d v) H') : wdr P γ Q (({ dst := d, op := op }, c) :: l) s H :=
  ⟨v, H', acts_of hev, hc, h⟩

theorem wdr_call {d : Option Nat} {c : Bool} {f : EOpd} {args : List EOpd} {g : FuncId} {first cap as : List EV} {l : List (EOper × Bool)} (hf : ev γ s f = .func (.func g) first cap) (ha : args.map (ev γ s) = as)
    (hcall : CallsA P γ g (first ++ as ++ cap) H fun er H1 => er = .ret v ∧ H1 = H') (hc : c = false → H' = H) (h : wdr P γ Q l (putA s d v) H') :
    wdr P γ Q (({ dst := d, op := .call f args }, c) :: l) s H := by
  subst ha
  refine ⟨v, H', ?_, hc, h⟩
  show Acts P γ s H (.call f args) v H'
  unfold Acts
  simp only [hf]
  exact hcall

/-- What is handed on to a loop's head. -/
theorem forgets_mk {L : Nat} {s : Slots} {H : Heap} (l : List (Nat × EV)) (h1 : ∀ p ∈ l, s p.1 = p.2 ∧ p.2.ok L = true) (h2 : ∀ (b : Nat) (x : EB), b < L → H[b]? = some (some x) → x.ok L = true) :
    Forgets L s H (mkS l) := by
  refine ⟨fun t => ?_, h2⟩
  induction l with
  | nil => exact .inl rfl
  | cons p l ih =>
    simp only [mkS]
    split
    · rename_i e
      subst e
      have := h1 p (by simp)
      exact .inr ⟨this.1.symm, by rw [this.1]; exact this.2⟩
    · exact ih fun q hq => h1 q (by simp [hq])

/-- A function's body, resolved. -/
def Body (P : Program) (f : FuncId) (ec : EC) (rs : List ERes) (nt : Nat) : Prop :=
  ∃ (fn : Func) (c : Code) (own : List Nat), P.funcs[f]? = some fn ∧ fn.body = some c ∧ (fn.name == "runtime.NumGoroutine") = false ∧ resC P nt own c = some ec ∧ fn.results.toList.mapM (resRes P) = some rs ∧ fn.ntmps = nt

theorem Body.calls {f : FuncId} {ec : EC} {rs : List ERes} {nt : Nat} (hb : Body P f ec rs nt) {args : List EV} {R : ER → Heap → Prop} (ha : args.length ≤ nt)
    (h : OkH H → wpc P γ ec (bodyA H.length rs R) (slots0 args) H) : CallsA P γ f args H R := by
  obtain ⟨fn, c, own, h1, h2, h3, h4, h5, rfl⟩ := hb
  exact callsA_of_body h1 h2 h3 h4 h5 ha h


/-- The end of a round that keeps the heap's length. -/
theorem round_end {Inv : Nat → Slots → Heap → Prop} {m n0 : Nat} (m1 : Nat) (l : List (Nat × EV)) (L : Nat) (hm : m1 < m) (hL : n0 ≤ L) (h1 : ∀ p ∈ l, s p.1 = p.2 ∧ p.2.ok L = true)
    (h2 : ∀ (b : Nat) (x : EB), b < L → H[b]? = some (some x) → x.ok L = true) (h : Inv m1 (mkS l) (H.take L)) : Hands Inv m n0 s H :=
  ⟨m1, mkS l, L, hm, hL, forgets_mk l h1 h2, h⟩

/-- The end of a call that leaves the heap as it was. -/
theorem end_same {rs : List ERes} {r : EV} {R : ER → Heap → Prop} (hok : OkH H) (hr : evResults s H rs = some r) (ho : r.ok H.length = true) (h : R (.ret r) H) : bodyA H.length rs R .ret s H :=
  .inl ⟨r, r, hr, .same _ ho, fun b x _ hx => hok b x hx, by rwa [List.take_of_length_le (Nat.le_refl _)]⟩

/-- .. that has made blocks. -/
theorem end_drop {G : Heap} {rs : List ERes} {r : EV} {R : ER → Heap → Prop} (hok : OkH H) (hr : evResults s (H ++ G) rs = some r) (ho : r.ok H.length = true) (h : R (.ret r) H) : bodyA H.length rs R .ret s (H ++ G) :=
  .inl ⟨r, r, hr, .same _ ho, fun b x hb hx => hok b x (by rwa [List.getElem?_append_left hb] at hx), by rwa [List.take_left]⟩

/-- .. that was handed no blocks. -/
theorem end_pure {rs : List ERes} {r r' : EV} {R : ER → Heap → Prop} (hr : evResults s H rs = some r) (ho : FZ 0 H r r') (h : R (.ret r') []) : bodyA 0 rs R .ret s H :=
  .inl ⟨r, r', hr, ho, fun b x hb _ => absurd hb (Nat.not_lt_zero b), by rwa [List.take_zero]⟩

end
end Abs
