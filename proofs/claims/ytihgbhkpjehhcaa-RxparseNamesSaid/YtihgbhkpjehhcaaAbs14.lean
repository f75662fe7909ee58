/- Contracts out of bodies: what a function hands back. -/
import Derived.Test.YtihgbhkpjehhcaaAbs13
namespace Abs
open Go

/-- What is handed back: rows of the call's own become immutable. -/
inductive FZ (L : Nat) (H : Heap) : EV → EV → Prop where
  | same (v : EV) (h : v.ok L = true) : FZ L H v v
  | own (b sz off len : Nat) (es l : List EV) (hb : L ≤ b) (hH : H[b]? = some (some (.row sz es))) (hl : off + len ≤ es.length) (hn : l.length = len)
      (hc : ∀ (k : Nat) (e e' : EV), es[off + k]? = some e → l[k]? = some e' → e.cells.length = e'.cells.length)
      (h : ∀ (k j : Nat) (e e' x x' : EV), es[off + k]? = some e → l[k]? = some e' → e.cells[j]? = some x → e'.cells[j]? = some x' → FZ L H x x') : FZ L H (.own b sz off len) (.imm sz l)
  | agg (cs cs' : List EV) (hl : cs.length = cs'.length) (h : ∀ (k : Nat) (x x' : EV), cs[k]? = some x → cs'[k]? = some x' → FZ L H x x') : FZ L H (.agg cs) (.agg cs')
  | tup (cs cs' : List EV) (hl : cs.length = cs'.length) (h : ∀ (k : Nat) (x x' : EV), cs[k]? = some x → cs'[k]? = some x' → FZ L H x x') : FZ L H (.tup cs) (.tup cs')
  | iface (t : TypeId) (x x' : EV) (h : FZ L H x x') : FZ L H (.iface t x) (.iface t x')
  | ptr (b sz i j : Nat) (es : List EV) (e : EV) (cs' : List EV) (hb : L ≤ b) (hH : H[b]? = some (some (.row sz es))) (he : es[i]? = some e) (hl : e.cells.length = cs'.length)
      (h : ∀ (k : Nat) (x x' : EV), e.cells[k]? = some x → cs'[k]? = some x' → FZ L H x x') : FZ L H (.ptr b sz i j) (.iptr cs' j)
  | func (f : Fn) (cs cs' : List EV) (hl : cs.length = cs'.length) (h : ∀ (k : Nat) (x x' : EV), cs[k]? = some x → cs'[k]? = some x' → FZ L H x x') : FZ L H (.func f [] cs) (.func f [] cs')

theorem FZ.row {L : Nat} {H : Heap} {b sz off len : Nat} {es : List EV} (hb : L ≤ b) (hH : H[b]? = some (some (.row sz es))) (hl : off + len ≤ es.length) (ho : ∀ e ∈ es, e.ok L = true) :
    FZ L H (.own b sz off len) (.imm sz ((es.drop off).take len)) := by
  have key : ∀ (k : Nat) (e e' : EV), es[off + k]? = some e → ((es.drop off).take len)[k]? = some e' → e = e' := by
    intro k e e' h1 h2
    have hk := get_lt h2
    simp only [List.length_take, List.length_drop] at hk
    rw [List.getElem?_take_of_lt (by omega), List.getElem?_drop, h1] at h2
    exact Option.some.inj h2
  refine .own b sz off len es _ hb hH hl (by simp; omega) (fun k e e' h1 h2 => by rw [key k e e' h1 h2]) fun k j e e' x x' h1 h2 h3 h4 => ?_
  obtain rfl := key k e e' h1 h2
  rw [h3] at h4
  obtain rfl := Option.some.inj h4
  exact .same x (ok_cells (ho e (List.mem_of_getElem? h1)) x (List.mem_of_getElem? h3))

theorem FZ.whole {L : Nat} {H : Heap} {b sz len : Nat} {es : List EV} (hb : L ≤ b) (hH : H[b]? = some (some (.row sz es))) (hl : len = es.length) (ho : ∀ e ∈ es, e.ok L = true) :
    FZ L H (.own b sz 0 len) (.imm sz es) := by
  have := FZ.row (off := 0) (len := len) hb hH (by omega) ho
  rwa [List.drop_zero, List.take_of_length_le (by omega)] at this

/-- The immutable blocks behind the call. -/
def frz (φ : Nat → Nat) (I : Nat → Prop) (L : Nat) (H : Heap) (B : Nat) : Prop := I B ∨ ∃ (b : Nat) (x : EB), L ≤ b ∧ H[b]? = some (some x) ∧ φ b = B

section
variable {P : Program} {γ : Nat → EV} {n : Nat} {nb : NB} {φ φ0 : Nat → Nat} {I I0 : Nat → Prop} {s : Slots} {H H0 : Heap} {a : Act} {w w0 : World}

theorem FZ.sound {L : Nat} (hr : RH γ φ I H w) {x x' : EV} (h : FZ L H x x') : ∀ {v : Value}, RV φ H.length I w x v → RV φ L (frz φ I L H) w x' v := by
  induction h with
  | same v ho => intro u hv; exact (hv.trunc ho).mono (Nat.le_refl _) (fun _ _ => rfl) (fun _ h => .inl h) (fun _ _ => rfl) (fun _ _ _ _ h => h)
  | own b sz off len es l hb hH hl hn hc _ ih =>
    intro v hv
    cases hv with
    | own0 _ _ _ a _ =>
      have : l = [] := by simpa using hn
      subst this
      exact .imm0 sz a
    | own _ _ _ _ cap m T hbN hs hm hcap =>
      obtain ⟨c, T', h1, h2, h3, h4⟩ := hr.blk b _ hH
      have := RV.imm (φ := φ) (N := L) (I := frz φ I L H) (w := w) sz l (φ b) (off * sz) cap c T' (0, 0) (.inr ⟨b, _, hb, hH, rfl⟩) h1
        (by rw [hn, ← Nat.add_mul]; exact Nat.le_trans (Nat.mul_le_mul_right _ hl) h2) (by omega)
        (fun e he => by
          obtain ⟨k, hk, rfl⟩ := List.mem_iff_getElem.1 he
          have hk2 : off + k < es.length := by omega
          have := hc k es[off + k] l[k] (by simp [hk2]) (by simp [hk])
          rw [← this]
          exact h3 _ (List.getElem_mem hk2))
        (fun i j e x v he hx hv => by
          have hi := get_lt he
          have hi2 : off + i < es.length := by omega
          have hlen := hc i es[off + i] e (by simp [hi2]) he
          have hj := get_lt hx
          have hj2 : j < es[off + i].cells.length := by omega
          refine ih i j es[off + i] e es[off + i].cells[j] x (by simp [hi2]) he (by simp [hj2]) hx ?_
          exact h4 (off + i) j es[off + i] _ v (by simp [hi2]) (by simp [hj2]) (by rw [Nat.add_mul]; exact hv))
      rwa [hn] at this
  | agg cs cs' hl _ ih =>
    intro v hv
    cases hv with
    | agg _ vs hvl hvs =>
      refine .agg cs' vs (by omega) fun k x u hx hu => ?_
      have hk := get_lt hx
      have hk2 : k < cs.length := by omega
      exact ih k cs[k] x (by simp [hk2]) hx (hvs k _ u (by simp [hk2]) hu)
  | tup cs cs' hl _ ih =>
    intro v hv
    cases hv with
    | tup _ vs hvl hvs =>
      refine .tup cs' vs (by omega) fun k x u hx hu => ?_
      have hk := get_lt hx
      have hk2 : k < cs.length := by omega
      exact ih k cs[k] x (by simp [hk2]) hx (hvs k _ u (by simp [hk2]) hu)
  | iface t x x' _ ih =>
    intro v hv
    cases hv with
    | iface _ _ u hu => exact .iface t x' u (ih hu)
  | ptr b sz i j es e cs' hb hH he hl _ ih =>
    intro v hv
    cases hv with
    | ptr _ _ _ _ hbN =>
      obtain ⟨c, T, h1, h2, h3, h4⟩ := hr.blk b _ hH
      have hi := get_lt he
      have hs := h3 e (List.mem_of_getElem? he)
      have hle : (i + 1) * sz ≤ es.length * sz := Nat.mul_le_mul_right _ hi
      rw [Nat.add_mul, Nat.one_mul] at hle
      refine .iptr cs' j (φ b) (i * sz) c T (0, 0) (.inr ⟨b, _, hb, hH, rfl⟩) h1 (by omega) fun k x' v hx' hv => ?_
      have hk := get_lt hx'
      have hk2 : k < e.cells.length := by omega
      exact ih k e.cells[k] x' (by simp [hk2]) hx' (h4 i k e e.cells[k] v he (by simp [hk2]) hv)
  | func f cs cs' hl _ ih =>
    intro v hv
    cases hv with
    | func _ _ _ vf vc l1 l2 l3 l4 =>
      refine .func f [] cs' vf vc l1 (by omega) (by simp) fun k x v hx hv => ?_
      have hk := get_lt hx
      have hk2 : k < cs.length := by omega
      exact ih k cs[k] x (by simp [hk2]) hx (l4 k _ v (by simp [hk2]) hv)

theorem Evo.close (h : Evo φ0 I0 H0 w0 φ I H w) : Evo φ0 I0 H0 w0 φ (frz φ I H0.length H) (H.take H0.length) w where
  size := h.size
  shape := h.shape
  keep := h.keep
  imm B hB := .inl (h.imm B hB)
  phi := h.phi
  len := by have := h.len; simp; omega
  own B hB := by
    obtain ⟨b, x, hb, e⟩ := hB
    exact h.own B ⟨b, x, (take_get hb).2, e⟩
  immf B hB := by
    rcases hB with hB | ⟨b, x, _, hb, e⟩
    · exact h.immf B hB
    · rcases h.own B ⟨b, x, hb, e⟩ with h1 | h1
      · exact .inr (.inl h1)
      · exact .inr (.inr h1)
  tape := h.tape
  os := h.os
  out := h.out
  froz := h.froz

theorem RH.close (hr : RH γ φ I H w) {L : Nat} (hL : L ≤ H.length) (ho : ∀ (b : Nat) (x : EB), b < L → H[b]? = some (some x) → x.ok L = true) : RH γ φ (frz φ I L H) (H.take L) w where
  glob g := (hr.glob g).mono (Nat.le_refl _) (fun _ _ => rfl) (fun _ h => .inl h) (fun _ _ => rfl) (fun _ _ _ _ h => h)
  blk b x hb := by
    obtain ⟨h1, h2⟩ := take_get hb
    rw [List.length_take, Nat.min_eq_left hL]
    exact ((hr.blk b x h2).trunc (ho b x h1 h2)).mono (Nat.le_refl _) (fun _ _ => rfl) (fun _ h => .inl h) (fun _ _ => rfl) (fun _ _ _ _ h => h) rfl
  inj b b' x x' hb hb' e := hr.inj b b' x x' (take_get hb).2 (take_get hb').2 e
  imm B hB := by
    rcases hB with hB | ⟨b, x, _, hb, e⟩
    · exact hr.imm B hB
    · exact e ▸ hr.lt b x hb
  dis b x hb hB := by
    obtain ⟨h1, h2⟩ := take_get hb
    rcases hB with hB | ⟨b', x', hb1, hb2, e⟩
    · exact hr.dis b x h2 hB
    · have := hr.inj b' b x' x hb2 h2 e
      omega
  lt b x hb := hr.lt b x (take_get hb).2

/-- Where a result stands. -/
inductive ERes where
  | tmp (t : Nat)
  | cell (t : Nat) (ag : Bool) (n : Nat)
  deriving Inhabited

def resRes (P : Program) : ResultVar → Option ERes
  | .tmp t => some (.tmp t)
  | .cell t ty => (tyOf P ty).map fun p => .cell t p.1 p.2

def evRes (s : Slots) (H : Heap) : ERes → Option EV
  | .tmp t => some (s t)
  | .cell t ag n => evLoad ag n (s t) H

def evResL (s : Slots) (H : Heap) : List ERes → Option (List EV)
  | [] => some []
  | r :: rs =>
    match evRes s H r, evResL s H rs with
    | some v, some vs => some (v :: vs)
    | _, _ => none

def evResults (s : Slots) (H : Heap) (rs : List ERes) : Option EV :=
  match evResL s H rs with
  | some [v] => some v
  | some vs => some (.tup vs)
  | none => none

def resSem (tmps : Array Value) : ResultVar → Sem Value
  | .tmp t => pure (tmps.getD t Go.undef)
  | .cell t ty => do loadVar ty (← asAddr (tmps.getD t Go.undef))

theorem results_eq (fn : Func) (tmps : Array Value) : results fn tmps = (do
    let vs ← fn.results.mapM (resSem tmps)
    pure (if h : vs.size = 1 then vs[0] else .tuple vs)) := by
  unfold results
  congr 1

theorem res_one (hR : Rel γ n nb φ I s H a w) {r : ResultVar} {e : ERes} (h : resRes P r = some e) {v : EV} (hv : evRes s H e = some v) :
    ∃ val, (resSem a.tmps r).run P w = .ok val w ∧ RV φ H.length I w v val := by
  cases r with
  | tmp t =>
    simp only [resRes, Option.some.injEq] at h; subst h
    simp only [evRes, Option.some.injEq] at hv; subst hv
    exact ⟨_, rfl, hR.slots t⟩
  | cell t ty =>
    simp only [resRes, Option.map_eq_some_iff] at h
    obtain ⟨p, hp, rfl⟩ := h
    simp only [evRes] at hv
    have hx := hR.slots t
    obtain ⟨val, h1, h2⟩ := load_sound hR.heap hp hx hv
    refine ⟨val, ?_, h2⟩
    generalize hva : a.tmps.getD t Go.undef = vt at hx h1
    have : ∃ ad, vt = .pointer (some ad) := by
      unfold evLoad at hv
      split at hv
      · rename_i hq; rw [hq] at hx; cases hx; exact ⟨_, rfl⟩
      · rename_i hq; rw [hq] at hx; cases hx; exact ⟨_, rfl⟩
      · simp at hv
    obtain ⟨ad, rfl⟩ := this
    simp only [resSem, Sem.run_bind, hva, asAddr, Sem.run_pure, Result.andThen_ok]
    simpa [Instr.loadAt, Instr.sureAddr] using h1

theorem res_all (hR : Rel γ n nb φ I s H a w) : ∀ {rs : List ResultVar} {es : List ERes}, rs.mapM (resRes P) = some es → ∀ {vs : List EV}, evResL s H es = some vs →
    ∃ vals : List Value, (rs.mapM (resSem a.tmps)).run P w = .ok vals w ∧
      RCs φ H.length I w vs vals
  | [], es, h, vs, hv => by
    simp at h; subst h
    simp only [evResL, Option.some.injEq] at hv; subst hv
    exact ⟨[], by simp, rfl, by simp⟩
  | r :: rs, es, h, vs, hv => by
    simp only [List.mapM_cons, Option.pure_def, Option.bind_eq_bind, Option.bind_eq_some_iff, Option.some.injEq] at h
    obtain ⟨e, he, es', hes, rfl⟩ := h
    simp only [evResL] at hv
    split at hv
    · rename_i v vs' h1 h2
      simp only [Option.some.injEq] at hv; subst hv
      obtain ⟨val, g1, g2⟩ := res_one hR he h1
      obtain ⟨vals, k1, k2, k3⟩ := res_all hR hes h2
      refine ⟨val :: vals, by simp only [List.mapM_cons, Sem.run_bind, g1, Result.andThen_ok, k1, Sem.run_pure], by simp [k2], fun k x u hx hu => ?_⟩
      cases k with
      | zero => simp at hx hu; subst hx hu; exact g2
      | succ k => exact k3 k x u (by simpa using hx) (by simpa using hu)
    · simp at hv

theorem results_sound (hR : Rel γ n nb φ I s H a w) {fn : Func} {es : List ERes} (h : fn.results.toList.mapM (resRes P) = some es) {v : EV} (hv : evResults s H es = some v) :
    ∃ val, (results fn a.tmps).run P w = .ok val w ∧ RV φ H.length I w v val := by
  have key : ∀ vs, evResL s H es = some vs → ∃ vals : List Value, (results fn a.tmps).run P w = .ok (if h : vals.toArray.size = 1 then vals.toArray[0] else .tuple vals.toArray) w ∧ RCs φ H.length I w vs vals := by
    intro vs hvs
    obtain ⟨vals, h1, h2⟩ := res_all hR h hvs
    refine ⟨vals, ?_, h2⟩
    rw [results_eq, Array.mapM_eq_mapM_toList]
    simp only [Sem.run_bind, Sem.run_map, h1, Result.andThen_ok, Sem.run_pure]
  unfold evResults at hv
  split at hv
  · rename_i v' hvs
    simp only [Option.some.injEq] at hv; subst hv
    obtain ⟨vals, h1, h2, h3⟩ := key _ hvs
    match vals, h2 with
    | [val], _ => exact ⟨val, by simpa using h1, h3 0 _ _ rfl rfl⟩
  · rename_i vs hne hvs
    simp only [Option.some.injEq] at hv; subst hv
    obtain ⟨vals, h1, h2, h3⟩ := key _ hvs
    have hlen : vals.length ≠ 1 := by
      intro hl
      rw [← h2] at hl
      match vs, hl with
      | [x], _ => exact hne x rfl
    refine ⟨.tuple vals.toArray, by simpa [hlen] using h1, .tup vs _ (by simpa using h2) fun k x u hx hu => h3 k x u hx (by simpa using hu)⟩
  · simp at hv

/-- What a body must come to. -/
def bodyA (n0 : Nat) (rs : List ERes) (R : ER → Heap → Prop) : AX → Slots → Heap → Prop
  | .normal, s, H | .ret, s, H => ∃ r r', evResults s H rs = some r ∧ FZ n0 H r r' ∧ (∀ (b : Nat) (x : EB), b < n0 → H[b]? = some (some x) → x.ok n0 = true) ∧ R (.ret r') (H.take n0)
  | .panic v, _, H => ∃ v', FZ n0 H v v' ∧ (∀ (b : Nat) (x : EB), b < n0 → H[b]? = some (some x) → x.ok n0 = true) ∧ R (.pan v') (H.take n0)
  | _, _, _ => False

def slots0 (args : List EV) (t : Nat) : EV := args[t]?.getD .undef

theorem leave_marks {F : Fence} {m : Nat} {fn : Func} {tmps : Array Value} {R : Ending → World → Prop} {u : FrameMode} (hu : u ≠ .run) : ∀ (Ds : List Nat) (w : World), Ds.Nodup → (∀ D ∈ Ds, w.heap[D]? = some (.deferred (some []))) →
    (∀ w', w'.heap.size = w.heap.size → (∀ B, B ∉ Ds → w'.heap[B]? = w.heap[B]?) → w'.tape = w.tape → w'.os = w.os → w'.output = w.output → LeavesIn F m P fn tmps R [] u w') → LeavesInM F m P fn tmps R (Ds.map mark) u w
  | [], w, _, _, h => h w rfl (fun _ _ => rfl) rfl rfl rfl
  | D :: Ds, w, hnd, hD, h => by
    have hd := hD D (by simp)
    have hlt : D < w.heap.size := (Array.getElem?_eq_some_iff.1 hd).1
    rw [List.nodup_cons] at hnd
    refine ⟨hu, .inl ⟨D, w.putObj D (.deferred none), rfl, ?_, leave_marks hu Ds _ hnd.2 (fun E hE => ?_) fun w' k1 k2 k3 k4 k5 => h w' (by rw [k1]; simp) (fun B hB => ?_) k3 k4 k5⟩⟩
    · exact run_takeDeferred hd
    · rw [World.putObj_heap_other (by rintro rfl; exact hnd.1 hE)]
      exact hD E (by simp [hE])
    · rw [k2 B (fun h => hB (by simp [h])), World.putObj_heap_other (by rintro rfl; exact hB (by simp))]

/-- Blocks that are no part of the state are turned. -/
theorem shut {φ' : Nat → Nat} {I' : Nat → Prop} {H' : Heap} {w' w'' : World} {Ds : List Nat} (h1 : Evo φ I H w φ' I' H' w') (h2 : RH γ φ' I' H' w')
    (hD : ∀ D ∈ Ds, w.heap.size ≤ D ∧ w'.heap[D]? = some (.deferred (some [])) ∧ ¬ Own φ' H' D ∧ ¬ I' D) (k1 : w''.heap.size = w'.heap.size) (k2 : ∀ B, B ∉ Ds → w''.heap[B]? = w'.heap[B]?) (k3 : w''.tape = w'.tape) (k4 : w''.os = w'.os) (k5 : w''.output = w'.output) :
    Evo φ I H w φ' I' H' w'' ∧ RH γ φ' I' H' w'' ∧ ∀ (N : Nat) (x : EV) (v : Value), RV φ' N I' w' x v → RV φ' N I' w'' x v := by
  have old : ∀ B, B < w.heap.size → w''.heap[B]? = w'.heap[B]? := fun B hB => k2 B fun hm => by have := (hD B hm).1; omega
  have imm : ∀ B, I' B → w''.heap[B]? = w'.heap[B]? := fun B hB => k2 B fun hm => (hD B hm).2.2.2 hB
  have shp : ∀ B T n, w'.shape? B = some (T, n) → w''.shape? B = some (T, n) := fun B T n hs => by
    have : w''.heap[B]? = w'.heap[B]? := k2 B fun hm => by
      unfold World.shape? at hs
      rw [(hD B hm).2.1] at hs
      simp at hs
    rw [← hs]
    unfold World.shape?
    rw [this]
  have mono : ∀ (N : Nat) (x : EV) (v : Value), RV φ' N I' w' x v → RV φ' N I' w'' x v := fun N x v h =>
    h.mono (Nat.le_refl _) (fun _ _ => rfl) (fun _ h => h) imm (fun b _ T n hs => shp _ T n hs)
  refine ⟨⟨by rw [k1]; exact h1.size, fun B hB => ?_, fun B hB hn => (old B hB).trans (h1.keep B hB hn), h1.imm, h1.phi, h1.len, h1.own, h1.immf, k3.trans h1.tape, k4.trans h1.os, k5.trans h1.out, fun a ha => ?_⟩,
    ⟨fun g => mono _ _ _ (h2.glob g), fun b x hb => (h2.blk b x hb).mono (Nat.le_refl _) (fun _ _ => rfl) (fun _ h => h) imm (fun b _ T n hs => shp _ T n hs) (k2 _ fun hm => (hD _ hm).2.2.1 ⟨b, x, hb, rfl⟩), h2.inj,
      fun B hB => by rw [k1]; exact h2.imm B hB, h2.dis, fun b x hb => by rw [k1]; exact h2.lt b x hb⟩, mono⟩
  · rw [← h1.shape B hB]
    unfold World.shape?
    rw [old B hB]
  · rw [← h1.froz a ha]
    unfold World.frozen?
    rw [old _ ha]

theorem callsA_of_body {f : FuncId} {fn : Func} {c : Code} {own : List Nat} {ec : EC} {rs : List ERes} {args : List EV} {R : ER → Heap → Prop} (hf : P.funcs[f]? = some fn) (hb : fn.body = some c)
    (hn : (fn.name == "runtime.NumGoroutine") = false) (hc : resC P fn.ntmps own c = some ec) (hrs : fn.results.toList.mapM (resRes P) = some rs) (ha : args.length ≤ fn.ntmps)
    (h : OkH H → wpc P γ ec (bodyA H.length rs R) (slots0 args) H) : CallsA P γ f args H R := by
  refine ⟨⟨fn, c, hf, hb, hn⟩, fun φ I w vs hr hv => (callsIn_wide (n := 3)).1 (callsIn_of_wp_marks (F := FR none) hf hb trivial ?_)⟩
  have hvs : vs.size = args.length := by simpa using hv.1.symm
  have hR : Rel γ fn.ntmps w.heap.size φ I (slots0 args) H { tmps := vs ++ Array.replicate (fn.ntmps - vs.size) Go.undef, defers := [] } w := by
    refine ⟨by simp; omega, fun t => ?_, hr, .none (Nat.le_refl _)⟩
    simp only [slots0]
    by_cases ht : t < args.length
    · have ht2 : t < vs.size := by omega
      have : (vs ++ Array.replicate (fn.ntmps - vs.size) Go.undef).getD t Go.undef = vs[t] := by simp [Array.getElem?_append, ht2]
      rw [this]
      have := hv.2 t args[t] vs[t] (by simp [ht]) (by simp [ht2])
      simpa [ht] using this
    · have : args[t]? = none := by simp; omega
      rw [this]
      exact .undef _
  refine wpIn_mono (wpc_sound c ec hc none 3 w.heap.size (.inl ⟨⟨rfl, by omega⟩, rfl⟩) _ φ I _ H _ w hR (h hr.isOk)) fun e a' w' hp => ?_
  obtain ⟨φ', I', s', H', x, h1, h2, h3, h4⟩ := hp
  obtain ⟨_, Ds, hds, hnd, hD⟩ := h2.defers
  replace hds : a'.defers = Ds.map mark := by rw [hds]; exact List.append_nil _
  have fin : (∃ r r', evResults s' H' rs = some r ∧ FZ H.length H' r r' ∧ (∀ (b : Nat) (x : EB), b < H.length → H'[b]? = some (some x) → x.ok H.length = true) ∧ R (.ret r') (H'.take H.length)) →
      LeavesInM (FR none) 3 P fn a'.tmps (fun e w' => ∃ φ' I' H' er, Evo φ I H w φ' I' H' w' ∧ RH γ φ' I' H' w' ∧ RE φ' H'.length I' w' er e ∧ R er H') a'.defers .returning w' := by
    rintro ⟨r, r', g1, g2, g3, g4⟩
    rw [hds]
    refine leave_marks (by simp) Ds w' hnd (fun D hm => (hD D hm).2.1) fun w'' k1 k2 k3 k4 k5 => ?_
    obtain ⟨m1, m2, m3⟩ := shut h1 h2.heap (fun D hm => ⟨(hD D hm).1.1, (hD D hm).2⟩) k1 k2 k3 k4 k5
    have hR'' : Rel γ fn.ntmps 0 φ' I' s' H' { a' with defers := [] } w'' := ⟨h2.sz, fun t => m3 _ _ _ (h2.slots t), m2, .none (Nat.zero_le _)⟩
    obtain ⟨val, n1, n2⟩ := results_sound hR'' hrs g1
    refine ⟨val, n1, φ', _, H'.take H.length, .ret r', m1.close, m2.close m1.len g3, ?_, g4⟩
    rw [List.length_take, Nat.min_eq_left h1.len]
    exact .ret r' val (g2.sound m2 n2)
  cases h3 with
  | normal => exact fin h4
  | ret => exact fin h4
  | exit id => exact h4.elim
  | goto l => exact h4.elim
  | panic x v hv =>
    obtain ⟨v', g2, g3, g4⟩ := h4
    show LeavesInM (FR none) 3 P fn a'.tmps _ a'.defers (.panicking [{ v, recovered := false }]) w'
    rw [hds]
    refine leave_marks (by simp) Ds w' hnd (fun D hm => (hD D hm).2.1) fun w'' k1 k2 k3 k4 k5 => ?_
    obtain ⟨m1, m2, m3⟩ := shut h1 h2.heap (fun D hm => ⟨(hD D hm).1.1, (hD D hm).2⟩) k1 k2 k3 k4 k5
    refine ⟨φ', _, H'.take H.length, .pan v', m1.close, m2.close m1.len g3, ?_, g4⟩
    rw [List.length_take, Nat.min_eq_left h1.len]
    exact .pan v' v (g2.sound m2 (m3 _ _ _ hv))


/-- A call that neither is handed blocks nor hands back any: whatever the heap. -/
theorem CallsA.pure {f : FuncId} {args : List EV} {R : ER → Prop} (h : CallsA P γ f args [] fun er H' => R er ∧ H' = []) (ha : okL 0 args = true) (hk : ∀ er, R er → match er with | .ret v => v.ok 0 = true | .pan v => v.ok 0 = true) :
    CallsA P γ f args H fun er H' => R er ∧ H' = H := by
  refine ⟨h.1, fun φ I w vs hr hv => (h.2 φ I w vs ?_ ?_).mono fun e w' he => ?_⟩
  · exact ⟨hr.glob, by simp, by simp, hr.imm, by simp, by simp⟩
  · exact ⟨hv.1, fun k x v hx hu => (hv.2 k x v hx hu).trunc (okL_iff.1 ha x (List.mem_of_getElem? hx))⟩
  · obtain ⟨φ', I', H', er, h1, h2, h3, h4, rfl⟩ := he
    have hall : ∀ B, B < w.heap.size → w'.heap[B]? = w.heap[B]? := fun B hB => h1.keep B hB fun ⟨b, x, hb, _⟩ => by simp at hb
    have himm : ∀ B, I' B → I B ∨ w.heap.size ≤ B := fun B hB => by
      rcases h1.immf B hB with h | ⟨b, x, hb, _⟩ | h
      · exact .inl h
      · simp at hb
      · exact .inr h
    have hres : RE φ H.length I' w' er e := by
      have hkk := hk er h4
      cases h3 with
      | ret x v hv' => exact .ret x v ((hv'.mono (φ' := φ) (Nat.le_refl 0) (fun i hi => absurd hi (Nat.not_lt_zero i)) (fun _ h => h) (fun _ _ => rfl) (fun b hb => absurd hb (Nat.not_lt_zero b))).grow (Nat.zero_le _))
      | pan x v hv' => exact .pan x v ((hv'.mono (φ' := φ) (Nat.le_refl 0) (fun i hi => absurd hi (Nat.not_lt_zero i)) (fun _ h => h) (fun _ _ => rfl) (fun b hb => absurd hb (Nat.not_lt_zero b))).grow (Nat.zero_le _))
    refine ⟨φ, I', H, er, ⟨h1.size, h1.shape, fun B hB _ => hall B hB, h1.imm, fun _ _ => rfl, Nat.le_refl _, fun B h => .inl h, fun B hB => (himm B hB).elim .inl fun h => .inr (.inr h), h1.tape, h1.os, h1.out, h1.froz⟩,
      ⟨fun g => (h2.glob g).mono (Nat.le_refl 0) (fun i hi => absurd hi (Nat.not_lt_zero i)) (fun _ h => h) (fun _ _ => rfl) (fun b hb => absurd hb (Nat.not_lt_zero b)), fun b x hb => ?_, hr.inj, h2.imm, fun b x hb hB => ?_, fun b x hb => Nat.lt_of_lt_of_le (hr.lt b x hb) h1.size⟩, hres, h4, rfl⟩
    · exact (hr.blk b x hb).mono (Nat.le_refl _) (fun _ _ => rfl) h1.imm (fun B hB => hall B (hr.imm B hB)) (fun _ _ _ _ hs => (h1.shape _ (shape_lt hs)).trans hs) (hall _ (hr.lt b x hb))
    · rcases himm _ hB with h | h
      · exact hr.dis b x hb h
      · have := hr.lt b x hb; omega

end
end Abs
