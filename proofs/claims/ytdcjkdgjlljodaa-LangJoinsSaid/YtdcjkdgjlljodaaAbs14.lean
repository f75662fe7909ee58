/- A part. -/
import Derived.Test.YtdcjkdgjlljodaaAbs13
set_option linter.all false
namespace Abs
open Go
inductive FZ (L : Nat) (H : Heap) : EV → EV → Prop where
 | same (v : EV) (h : v.ok L = true) : FZ L H v v
 | own (b sz off len : Nat) (es l : List EV) (hb : L ≤ b) (hH : H[b]? = some (some (.row sz es))) (hl : off + len ≤ es.length) (hn : l.length = len)
   (hc : ∀ (k : Nat) (e e' : EV), es[off + k]? = some e → l[k]? = some e' → e.cells.length = e'.cells.length)
   (h : ∀ (k j : Nat) (e e' x x' : EV), es[off + k]? = some e → l[k]? = some e' → e.cells[j]? = some x → e'.cells[j]? = some x' → FZ L H x x') : FZ L H (.own b sz off len) (.imm sz l)
 | agg (cs cs' : List EV) (hl : cs.length = cs'.length) (h : ∀ (k : Nat) (x x' : EV), cs[k]? = some x → cs'[k]? = some x' → FZ L H x x') : FZ L H (.agg cs) (.agg cs')
 | tup (cs cs' : List EV) (hl : cs.length = cs'.length) (h : ∀ (k : Nat) (x x' : EV), cs[k]? = some x → cs'[k]? = some x' → FZ L H x x') : FZ L H (.tup cs) (.tup cs')
 | iface (t : TypeId) (x x' : EV) (h : FZ L H x x') : FZ L H (.iface t x) (.iface t x')
 | ptr (b sz i j : Nat) (es : List EV) (e : EV) (cs' : List EV) (hb : L ≤ b) (hH : H[b]? = some (some (.row sz es))) (he : es[i]? = some e) (hl : e.cells.length = cs'.length)
   (h : ∀ (k : Nat) (x x' : EV), e.cells[k]? = some x → cs'[k]? = some x' → FZ L H x x') : FZ L H (.ptr b sz i j) (.iptr cs' j)
 | func (f : Fn) (cs cs' : List EV) (hl : cs.length = cs'.length) (h : ∀ (k : Nat) (x x' : EV), cs[k]? = some x → cs'[k]? = some x' → FZ L H x x') : FZ L H (.func f [] cs) (.func f [] cs')
theorem FZ.row {L : Nat} {H : Heap} {b sz off len : Nat} {es : List EV} (hb : L ≤ b) (hH : H[b]? = some (some (.row sz es))) (hl : off + len ≤ es.length) (ho : ∀ e ∈ es, e.ok L = true) :
  FZ L H (.own b sz off len) (.imm sz ((es.drop off).take len)) := by
 have key : ∀ (k : Nat) (e e' : EV), es[off + k]? = some e → ((es.drop off).take len)[k]? = some e' → e = e' := by
  intro k e e' h1 h2
  have hk := aa3 h2
  simp only [List.length_take, List.length_drop] at hk
  rw [List.getElem?_take_of_lt (by omega), List.getElem?_drop, h1] at h2
  exact Option.some.inj h2
 refine .own b sz off len es _ hb hH hl (by simp; omega) (fun k e e' h1 h2 => by rw [key k e e' h1 h2]) fun k j e e' x x' h1 h2 h3 h4 => ?_
 obtain rfl := key k e e' h1 h2
 rw [h3] at h4
 obtain rfl := Option.some.inj h4
 exact .same x (bw6 (ho e (List.mem_of_getElem? h1)) x (List.mem_of_getElem? h3))
def frz (φ : Nat → Nat) (I : Nat → Prop) (L : Nat) (H : Heap) (B : Nat) : Prop := I B ∨ ∃ (b : Nat) (x : EB), L ≤ b ∧ H[b]? = some (some x) ∧ φ b = B
section
variable {P : Program} {γ : Nat → EV} {n : Nat} {nb : NB} {φ φ0 : Nat → Nat} {I I0 : Nat → Prop} {s : aa2} {H H0 : Heap} {a : Act} {w w0 : World}
theorem FZ.sound {L : Nat} (hr : RH γ φ I H w) {x x' : EV} (h : FZ L H x x') : ∀ {v : Value}, RV φ H.length I w x v → RV φ L (frz φ I L H) w x' v := by
 induction h with
 | same v ho => intro u hv; exact (hv.trunc ho).mono (Nat.le_refl _) (fun _ _ => rfl) (fun _ h => .inl h) (fun _ _ => rfl) (fun _ _ _ _ h => h)
 | own b sz off len es l hb hH hl hn hc _ ih =>
  intro v hv
  cases hv with
  | own0 _ _ _ a _ =>
   have : l = [] := by simpa using hn
   subst this
   exact .imm0 sz a
  | own _ _ _ _ cap m T hbN hs hm hcap =>
   obtain ⟨c, T', h1, h2, h3, h4⟩ := hr.blk b _ hH
   have := RV.imm (φ := φ) (N := L) (I := frz φ I L H) (w := w) sz l (φ b) (off * sz) cap c T' (0, 0) (.inr ⟨b, _, hb, hH, rfl⟩) h1
    (by rw [hn, ← Nat.add_mul]; exact Nat.le_trans (Nat.mul_le_mul_right _ hl) h2) (by omega)
    (fun e he => by
     obtain ⟨k, hk, rfl⟩ := List.mem_iff_getElem.1 he
     have hk2 : off + k < es.length := by omega
     have := hc k es[off + k] l[k] (by simp [hk2]) (by simp [hk])
     rw [← this]
     exact h3 _ (List.getElem_mem hk2))
    (fun i j e x v he hx hv => by
     have hi := aa3 he
     have hi2 : off + i < es.length := by omega
     have hlen := hc i es[off + i] e (by simp [hi2]) he
     have hj := aa3 hx
     have hj2 : j < es[off + i].cells.length := by omega
     refine ih i j es[off + i] e es[off + i].cells[j] x (by simp [hi2]) he (by simp [hj2]) hx ?_
     exact h4 (off + i) j es[off + i] _ v (by simp [hi2]) (by simp [hj2]) (by rw [Nat.add_mul]; exact hv))
   rwa [hn] at this
 | agg cs cs' hl _ ih =>
  intro v hv
  cases hv with
  | agg _ vs hvl hvs =>
   refine .agg cs' vs (by omega) fun k x u hx hu => ?_
   have hk := aa3 hx
   have hk2 : k < cs.length := by omega
   exact ih k cs[k] x (by simp [hk2]) hx (hvs k _ u (by simp [hk2]) hu)
 | tup cs cs' hl _ ih =>
  intro v hv
  cases hv with
  | tup _ vs hvl hvs =>
   refine .tup cs' vs (by omega) fun k x u hx hu => ?_
   have hk := aa3 hx
   have hk2 : k < cs.length := by omega
   exact ih k cs[k] x (by simp [hk2]) hx (hvs k _ u (by simp [hk2]) hu)
 | iface t x x' _ ih =>
  intro v hv
  cases hv with
  | iface _ _ u hu => exact .iface t x' u (ih hu)
 | ptr b sz i j es e cs' hb hH he hl _ ih =>
  intro v hv
  cases hv with
  | ptr _ _ _ _ hbN =>
   obtain ⟨c, T, h1, h2, h3, h4⟩ := hr.blk b _ hH
   have hi := aa3 he
   have hs := h3 e (List.mem_of_getElem? he)
   have hle : (i + 1) * sz ≤ es.length * sz := Nat.mul_le_mul_right _ hi
   rw [Nat.add_mul, Nat.one_mul] at hle
   refine .iptr cs' j (φ b) (i * sz) c T (0, 0) (.inr ⟨b, _, hb, hH, rfl⟩) h1 (by omega) fun k x' v hx' hv => ?_
   have hk := aa3 hx'
   have hk2 : k < e.cells.length := by omega
   exact ih k e.cells[k] x' (by simp [hk2]) hx' (h4 i k e e.cells[k] v he (by simp [hk2]) hv)
 | func f cs cs' hl _ ih =>
  intro v hv
  cases hv with
  | func _ _ _ vf vc l1 l2 l3 l4 =>
   refine .func f [] cs' vf vc l1 (by omega) (by simp) fun k x v hx hv => ?_
   have hk := aa3 hx
   have hk2 : k < cs.length := by omega
   exact ih k cs[k] x (by simp [hk2]) hx (l4 k _ v (by simp [hk2]) hv)
theorem Evo.close (h : Evo φ0 I0 H0 w0 φ I H w) : Evo φ0 I0 H0 w0 φ (frz φ I H0.length H) (H.take H0.length) w where
 size := h.size
 shape := h.shape
 keep := h.keep
 imm B hB := .inl (h.imm B hB)
 phi := h.phi
 len := by have := h.len; simp; omega
 own B hB := by
  obtain ⟨b, x, hb, e⟩ := hB
  exact h.own B ⟨b, x, (ak1 hb).2, e⟩
 immf B hB := by
  rcases hB with hB | ⟨b, x, _, hb, e⟩
  ·exact h.immf B hB
  ·rcases h.own B ⟨b, x, hb, e⟩ with h1 | h1
   ·exact .inr (.inl h1)
   ·exact .inr (.inr h1)
 tape := h.tape
 os := h.os
 out := h.out
 froz := h.froz
theorem RH.close (hr : RH γ φ I H w) {L : Nat} (hL : L ≤ H.length) (ho : ∀ (b : Nat) (x : EB), b < L → H[b]? = some (some x) → x.ok L = true) : RH γ φ (frz φ I L H) (H.take L) w where
 glob g := (hr.glob g).mono (Nat.le_refl _) (fun _ _ => rfl) (fun _ h => .inl h) (fun _ _ => rfl) (fun _ _ _ _ h => h)
 blk b x hb := by
  obtain ⟨h1, h2⟩ := ak1 hb
  rw [List.length_take, Nat.min_eq_left hL]
  exact ((hr.blk b x h2).trunc (ho b x h1 h2)).mono (Nat.le_refl _) (fun _ _ => rfl) (fun _ h => .inl h) (fun _ _ => rfl) (fun _ _ _ _ h => h) rfl
 inj b b' x x' hb hb' e := hr.inj b b' x x' (ak1 hb).2 (ak1 hb').2 e
 imm B hB := by
  rcases hB with hB | ⟨b, x, _, hb, e⟩
  ·exact hr.imm B hB
  ·exact e ▸ hr.lt b x hb
 dis b x hb hB := by
  obtain ⟨h1, h2⟩ := ak1 hb
  rcases hB with hB | ⟨b', x', hb1, hb2, e⟩
  ·exact hr.dis b x h2 hB
  ·have := hr.inj b' b x' x hb2 h2 e
   omega
 lt b x hb := hr.lt b x (ak1 hb).2
inductive ERes where
 | tmp (t : Nat)
 | cell (t : Nat) (ag : Bool) (n : Nat)
 deriving Inhabited
def bj5 (P : Program) : ResultVar → Option ERes
 | .tmp t => some (.tmp t)
 | .cell t ty => (tyOf P ty).map fun p => .cell t p.1 p.2
def bo4 (s : aa2) (H : Heap) : ERes → Option EV
 | .tmp t => some (s t)
 | .cell t ag n => az6 ag n (s t) H
def az5 (s : aa2) (H : Heap) : List ERes → Option (List EV)
 | [] => some []
 | r :: rs =>
  match bo4 s H r, az5 s H rs with
  | some v, some vs => some (v :: vs)
  | _, _ => none
def ab0 (s : aa2) (H : Heap) (rs : List ERes) : Option EV :=
 match az5 s H rs with
 | some [v] => some v
 | some vs => some (.tup vs)
 | none => none
def cz8 (tmps : Array Value) : ResultVar → Sem Value
 | .tmp t => pure (tmps.getD t Go.undef)
 | .cell t ty => do loadVar ty (← asAddr (tmps.getD t Go.undef))
theorem dd8 (fn : Func) (tmps : Array Value) : results fn tmps = (do
  let vs ← fn.results.mapM (cz8 tmps)
  pure (if h : vs.size = 1 then vs[0] else .tuple vs)) := by
 unfold results
 congr 1
theorem el5 (hR : Rel γ n nb φ I s H a w) {r : ResultVar} {e : ERes} (h : bj5 P r = some e) {v : EV} (hv : bo4 s H e = some v) :
  ∃ val, (cz8 a.tmps r).run P w = .ok val w ∧ RV φ H.length I w v val := by
 cases r with
 | tmp t =>
  simp only [bj5, Option.some.injEq] at h; subst h
  simp only [bo4, Option.some.injEq] at hv; subst hv
  exact ⟨_, rfl, hR.slots t⟩
 | cell t ty =>
  simp only [bj5, Option.map_eq_some_iff] at h
  obtain ⟨p, hp, rfl⟩ := h
  simp only [bo4] at hv
  have hx := hR.slots t
  obtain ⟨val, h1, h2⟩ := cf1 hR.heap hp hx hv
  refine ⟨val, ?_, h2⟩
  generalize hva : a.tmps.getD t Go.undef = vt at hx h1
  have : ∃ ad, vt = .pointer (some ad) := by
   unfold az6 at hv
   split at hv
   ·rename_i hq; rw [hq] at hx; cases hx; exact ⟨_, rfl⟩
   ·rename_i hq; rw [hq] at hx; cases hx; exact ⟨_, rfl⟩
   ·simp at hv
  obtain ⟨ad, rfl⟩ := this
  simp only [cz8, Sem.run_bind, hva, asAddr, Sem.run_pure, Result.andThen_ok]
  simpa [Instr.loadAt, Instr.sureAddr] using h1
theorem dn1 (hR : Rel γ n nb φ I s H a w) : ∀ {rs : List ResultVar} {es : List ERes}, rs.mapM (bj5 P) = some es → ∀ {vs : List EV}, az5 s H es = some vs →
  ∃ vals : List Value, (rs.mapM (cz8 a.tmps)).run P w = .ok vals w ∧
   RCs φ H.length I w vs vals
 | [], es, h, vs, hv => by
  simp at h; subst h
  simp only [az5, Option.some.injEq] at hv; subst hv
  exact ⟨[], by simp, rfl, by simp⟩
 | r :: rs, es, h, vs, hv => by
  simp only [List.mapM_cons, Option.pure_def, Option.bind_eq_bind, Option.bind_eq_some_iff, Option.some.injEq] at h
  obtain ⟨e, he, es', hes, rfl⟩ := h
  simp only [az5] at hv
  split at hv
  ·rename_i v vs' h1 h2
   simp only [Option.some.injEq] at hv; subst hv
   obtain ⟨val, g1, g2⟩ := el5 hR he h1
   obtain ⟨vals, k1, k2, k3⟩ := dn1 hR hes h2
   refine ⟨val :: vals, by simp only [List.mapM_cons, Sem.run_bind, g1, Result.andThen_ok, k1, Sem.run_pure], by simp [k2], fun k x u hx hu => ?_⟩
   cases k with
   | zero => simp at hx hu; subst hx hu; exact g2
   | succ k => exact k3 k x u (by simpa using hx) (by simpa using hu)
  ·simp at hv
theorem aq8 (hR : Rel γ n nb φ I s H a w) {fn : Func} {es : List ERes} (h : fn.results.toList.mapM (bj5 P) = some es) {v : EV} (hv : ab0 s H es = some v) :
  ∃ val, (results fn a.tmps).run P w = .ok val w ∧ RV φ H.length I w v val := by
 have key : ∀ vs, az5 s H es = some vs → ∃ vals : List Value, (results fn a.tmps).run P w = .ok (if h : vals.toArray.size = 1 then vals.toArray[0] else .tuple vals.toArray) w ∧ RCs φ H.length I w vs vals := by
  intro vs hvs
  obtain ⟨vals, h1, h2⟩ := dn1 hR h hvs
  refine ⟨vals, ?_, h2⟩
  rw [dd8, Array.mapM_eq_mapM_toList]
  simp only [Sem.run_bind, Sem.run_map, h1, Result.andThen_ok, Sem.run_pure]
 unfold ab0 at hv
 split at hv
 ·rename_i v' hvs
  simp only [Option.some.injEq] at hv; subst hv
  obtain ⟨vals, h1, h2, h3⟩ := key _ hvs
  match vals, h2 with
  | [val], _ => exact ⟨val, by simpa using h1, h3 0 _ _ rfl rfl⟩
 ·rename_i vs hne hvs
  simp only [Option.some.injEq] at hv; subst hv
  obtain ⟨vals, h1, h2, h3⟩ := key _ hvs
  have hlen : vals.length ≠ 1 := by
   intro hl
   rw [← h2] at hl
   match vs, hl with
   | [x], _ => exact hne x rfl
  refine ⟨.tuple vals.toArray, by simpa [hlen] using h1, .tup vs _ (by simpa using h2) fun k x u hx hu => h3 k x u hx (by simpa using hu)⟩
 ·simp at hv
def dx5 (n0 : Nat) (rs : List ERes) (R : ER → Heap → Prop) : AX → aa2 → Heap → Prop
 | .normal, s, H | .ret, s, H => (∃ r r', ab0 s H rs = some r ∧ FZ n0 H r r' ∧ (∀ (b : Nat) (x : EB), b < n0 → H[b]? = some (some x) → x.ok n0 = true) ∧ R (.ret r') (H.take n0)) ∨ ∃ r, ab0 s H rs = some r ∧ R (.ret r) H
 | .panic v, _, H => (∃ v', FZ n0 H v v' ∧ (∀ (b : Nat) (x : EB), b < n0 → H[b]? = some (some x) → x.ok n0 = true) ∧ R (.pan v') (H.take n0)) ∨ R (.pan v) H
 | _, _, _ => False
def am4 (args : List EV) (t : Nat) : EV := args[t]?.getD .undef
theorem bc5 {F : Fence} {m : Nat} {fn : Func} {tmps : Array Value} {R : Ending → World → Prop} {u : FrameMode} (hu : u ≠ .run) : ∀ (Ds : List Nat) (w : World), Ds.Nodup → (∀ D ∈ Ds, w.heap[D]? = some (.deferred (some []))) →
  (∀ w', w'.heap.size = w.heap.size → (∀ B, B ∉ Ds → w'.heap[B]? = w.heap[B]?) → w'.tape = w.tape → w'.os = w.os → w'.output = w.output → LeavesIn F m P fn tmps R [] u w') → LeavesInM F m P fn tmps R (Ds.map mark) u w
 | [], w, _, _, h => h w rfl (fun _ _ => rfl) rfl rfl rfl
 | D :: Ds, w, hnd, hD, h => by
  have hd := hD D (by simp)
  have hlt : D < w.heap.size := (Array.getElem?_eq_some_iff.1 hd).1
  rw [List.nodup_cons] at hnd
  refine ⟨hu, .inl ⟨D, w.putObj D (.deferred none), rfl, ?_, bc5 hu Ds _ hnd.2 (fun E hE => ?_) fun w' k1 k2 k3 k4 k5 => h w' (by rw [k1]; simp) (fun B hB => ?_) k3 k4 k5⟩⟩
  ·exact run_takeDeferred hd
  ·rw [World.putObj_heap_other (by rintro rfl; exact hnd.1 hE)]
   exact hD E (by simp [hE])
  ·rw [k2 B (fun h => hB (by simp [h])), World.putObj_heap_other (by rintro rfl; exact hB (by simp))]
theorem shut {φ' : Nat → Nat} {I' : Nat → Prop} {H' : Heap} {w' w'' : World} {Ds : List Nat} (h1 : Evo φ I H w φ' I' H' w') (h2 : RH γ φ' I' H' w')
  (hD : ∀ D ∈ Ds, w.heap.size ≤ D ∧ w'.heap[D]? = some (.deferred (some [])) ∧ ¬ Own φ' H' D ∧ ¬ I' D) (k1 : w''.heap.size = w'.heap.size) (k2 : ∀ B, B ∉ Ds → w''.heap[B]? = w'.heap[B]?) (k3 : w''.tape = w'.tape) (k4 : w''.os = w'.os) (k5 : w''.output = w'.output) :
  Evo φ I H w φ' I' H' w'' ∧ RH γ φ' I' H' w'' ∧ ∀ (N : Nat) (x : EV) (v : Value), RV φ' N I' w' x v → RV φ' N I' w'' x v := by
 have old : ∀ B, B < w.heap.size → w''.heap[B]? = w'.heap[B]? := fun B hB => k2 B fun hm => by have := (hD B hm).1; omega
 have imm : ∀ B, I' B → w''.heap[B]? = w'.heap[B]? := fun B hB => k2 B fun hm => (hD B hm).2.2.2 hB
 have shp : ∀ B T n, w'.shape? B = some (T, n) → w''.shape? B = some (T, n) := fun B T n hs => by
  have : w''.heap[B]? = w'.heap[B]? := k2 B fun hm => by
   unfold World.shape? at hs
   rw [(hD B hm).2.1] at hs
   simp at hs
  rw [← hs]
  unfold World.shape?
  rw [this]
 have mono : ∀ (N : Nat) (x : EV) (v : Value), RV φ' N I' w' x v → RV φ' N I' w'' x v := fun N x v h =>
  h.mono (Nat.le_refl _) (fun _ _ => rfl) (fun _ h => h) imm (fun b _ T n hs => shp _ T n hs)
 refine ⟨⟨by rw [k1]; exact h1.size, fun B hB => ?_, fun B hB hn => (old B hB).trans (h1.keep B hB hn), h1.imm, h1.phi, h1.len, h1.own, h1.immf, k3.trans h1.tape, k4.trans h1.os, k5.trans h1.out, fun a ha => ?_⟩,
  ⟨fun g => mono _ _ _ (h2.glob g), fun b x hb => (h2.blk b x hb).mono (Nat.le_refl _) (fun _ _ => rfl) (fun _ h => h) imm (fun b _ T n hs => shp _ T n hs) (k2 _ fun hm => (hD _ hm).2.2.1 ⟨b, x, hb, rfl⟩), h2.inj,
   fun B hB => by rw [k1]; exact h2.imm B hB, h2.dis, fun b x hb => by rw [k1]; exact h2.lt b x hb⟩, mono⟩
 ·rw [← h1.shape B hB]
  unfold World.shape?
  rw [old B hB]
 ·rw [← h1.froz a ha]
  unfold World.frozen?
  rw [old _ ha]
theorem cc4 {f : FuncId} {fn : Func} {c : Code} {own : List Nat} {ec : EC} {rs : List ERes} {args : List EV} {R : ER → Heap → Prop} (hf : P.funcs[f]? = some fn) (hb : fn.body = some c)
  (hn : (fn.name == "runtime.NumGoroutine") = false) (hc : resC P fn.ntmps own c = some ec) (hrs : fn.results.toList.mapM (bj5 P) = some rs) (ha : args.length ≤ fn.ntmps)
  (h : OkH H → wpc P γ ec (dx5 H.length rs R) (am4 args) H) : CallsA P γ f args H R := by
 refine ⟨⟨fn, c, hf, hb, hn⟩, fun φ I w vs hr hv => (callsIn_wide (n := 3)).1 (callsIn_of_wp_marks (F := FR none) hf hb trivial ?_)⟩
 have hvs : vs.size = args.length := by simpa using hv.1.symm
 have hR : Rel γ fn.ntmps w.heap.size φ I (am4 args) H { tmps := vs ++ Array.replicate (fn.ntmps - vs.size) Go.undef, defers := [] } w := by
  refine ⟨by simp; omega, fun t => ?_, hr, .none (Nat.le_refl _)⟩
  simp only [am4]
  by_cases ht : t < args.length
  ·have ht2 : t < vs.size := by omega
   have : (vs ++ Array.replicate (fn.ntmps - vs.size) Go.undef).getD t Go.undef = vs[t] := by simp [Array.getElem?_append, ht2]
   rw [this]
   have := hv.2 t args[t] vs[t] (by simp [ht]) (by simp [ht2])
   simpa [ht] using this
  ·have : args[t]? = none := by simp; omega
   rw [this]
   exact .undef _
 refine wpIn_mono (ck0 c ec hc none 3 w.heap.size (.inl ⟨⟨rfl, by omega⟩, rfl⟩) _ φ I _ H _ w hR (h hr.isOk)) fun e a' w' hp => ?_
 obtain ⟨φ', I', s', H', x, h1, h2, h3, h4⟩ := hp
 obtain ⟨_, Ds, hds, hnd, hD⟩ := h2.defers
 replace hds : a'.defers = Ds.map mark := by rw [hds]; exact List.append_nil _
 have fin : ((∃ r r', ab0 s' H' rs = some r ∧ FZ H.length H' r r' ∧ (∀ (b : Nat) (x : EB), b < H.length → H'[b]? = some (some x) → x.ok H.length = true) ∧ R (.ret r') (H'.take H.length)) ∨ ∃ r, ab0 s' H' rs = some r ∧ R (.ret r) H') →
   LeavesInM (FR none) 3 P fn a'.tmps (fun e w' => ∃ φ' I' H' er, Evo φ I H w φ' I' H' w' ∧ RH γ φ' I' H' w' ∧ RE φ' H'.length I' w' er e ∧ R er H') a'.defers .returning w' := by
  intro hfin
  rw [hds]
  refine bc5 (by simp) Ds w' hnd (fun D hm => (hD D hm).2.1) fun w'' k1 k2 k3 k4 k5 => ?_
  obtain ⟨m1, m2, m3⟩ := shut h1 h2.heap (fun D hm => ⟨(hD D hm).1.1, (hD D hm).2⟩) k1 k2 k3 k4 k5
  have hR'' : Rel γ fn.ntmps 0 φ' I' s' H' { a' with defers := [] } w'' := ⟨h2.sz, fun t => m3 _ _ _ (h2.slots t), m2, .none (Nat.zero_le _)⟩
  rcases hfin with ⟨r, r', g1, g2, g3, g4⟩ | ⟨r, g1, g4⟩
  ·obtain ⟨val, n1, n2⟩ := aq8 hR'' hrs g1
   refine ⟨val, n1, φ', _, H'.take H.length, .ret r', m1.close, m2.close m1.len g3, ?_, g4⟩
   rw [List.length_take, Nat.min_eq_left h1.len]
   exact .ret r' val (g2.sound m2 n2)
  ·obtain ⟨val, n1, n2⟩ := aq8 hR'' hrs g1
   exact ⟨val, n1, φ', I', H', .ret r, m1, m2, .ret r val n2, g4⟩
 cases h3 with
 | normal => exact fin h4
 | ret => exact fin h4
 | exit id => exact h4.elim
 | panic x v hv =>
  show LeavesInM (FR none) 3 P fn a'.tmps _ a'.defers (.panicking [{ v, recovered := false }]) w'
  rw [hds]
  refine bc5 (by simp) Ds w' hnd (fun D hm => (hD D hm).2.1) fun w'' k1 k2 k3 k4 k5 => ?_
  obtain ⟨m1, m2, m3⟩ := shut h1 h2.heap (fun D hm => ⟨(hD D hm).1.1, (hD D hm).2⟩) k1 k2 k3 k4 k5
  rcases h4 with ⟨v', g2, g3, g4⟩ | g4
  ·refine ⟨φ', _, H'.take H.length, .pan v', m1.close, m2.close m1.len g3, ?_, g4⟩
   rw [List.length_take, Nat.min_eq_left h1.len]
   exact .pan v' v (g2.sound m2 (m3 _ _ _ hv))
  ·exact ⟨φ', I', H', .pan x, m1, m2, .pan x v (m3 _ _ _ hv), g4⟩
theorem CallsA.pure {f : FuncId} {args : List EV} {R : ER → Prop} (h : CallsA P γ f args [] fun er H' => R er ∧ H' = []) (ha : okL 0 args = true) (hk : ∀ er, R er → match er with | .ret v => v.ok 0 = true | .pan v => v.ok 0 = true) :
  CallsA P γ f args H fun er H' => R er ∧ H' = H := by
 refine ⟨h.1, fun φ I w vs hr hv => (h.2 φ I w vs ?_ ?_).mono fun e w' he => ?_⟩
 ·exact ⟨hr.glob, by simp, by simp, hr.imm, by simp, by simp⟩
 ·exact ⟨hv.1, fun k x v hx hu => (hv.2 k x v hx hu).trunc (ah6.1 ha x (List.mem_of_getElem? hx))⟩
 ·obtain ⟨φ', I', H', er, h1, h2, h3, h4, rfl⟩ := he
  have hall : ∀ B, B < w.heap.size → w'.heap[B]? = w.heap[B]? := fun B hB => h1.keep B hB fun ⟨b, x, hb, _⟩ => by simp at hb
  have himm : ∀ B, I' B → I B ∨ w.heap.size ≤ B := fun B hB => by
   rcases h1.immf B hB with h | ⟨b, x, hb, _⟩ | h
   ·exact .inl h
   ·simp at hb
   ·exact .inr h
  have hres : RE φ H.length I' w' er e := by
   have hkk := hk er h4
   cases h3 with
   | ret x v hv' => exact .ret x v ((hv'.mono (φ' := φ) (Nat.le_refl 0) (fun i hi => absurd hi (Nat.not_lt_zero i)) (fun _ h => h) (fun _ _ => rfl) (fun b hb => absurd hb (Nat.not_lt_zero b))).grow (Nat.zero_le _))
   | pan x v hv' => exact .pan x v ((hv'.mono (φ' := φ) (Nat.le_refl 0) (fun i hi => absurd hi (Nat.not_lt_zero i)) (fun _ h => h) (fun _ _ => rfl) (fun b hb => absurd hb (Nat.not_lt_zero b))).grow (Nat.zero_le _))
  refine ⟨φ, I', H, er, ⟨h1.size, h1.shape, fun B hB _ => hall B hB, h1.imm, fun _ _ => rfl, Nat.le_refl _, fun B h => .inl h, fun B hB => (himm B hB).elim .inl fun h => .inr (.inr h), h1.tape, h1.os, h1.out, h1.froz⟩,
   ⟨fun g => (h2.glob g).mono (Nat.le_refl 0) (fun i hi => absurd hi (Nat.not_lt_zero i)) (fun _ h => h) (fun _ _ => rfl) (fun b hb => absurd hb (Nat.not_lt_zero b)), fun b x hb => ?_, hr.inj, h2.imm, fun b x hb hB => ?_, fun b x hb => Nat.lt_of_lt_of_le (hr.lt b x hb) h1.size⟩, hres, h4, rfl⟩
  ·exact (hr.blk b x hb).mono (Nat.le_refl _) (fun _ _ => rfl) h1.imm (fun B hB => hall B (hr.imm B hB)) (fun _ _ _ _ hs => (h1.shape _ (au9 hs)).trans hs) (hall _ (hr.lt b x hb))
  ·rcases himm _ hB with h | h
   ·exact hr.dis b x hb h
   ·have := hr.lt b x hb; omega
end
section
variable {P : Program} {γ : Nat → EV} {Q : AX → aa2 → Heap → Prop} {s : aa2} {H H' : Heap} {v : EV} {rest : List EOper} {op : EOp}
def mkS : List (Nat × EV) → aa2
 | [], _ => .undef
 | (d, v) :: l, t => if t = d then v else mkS l t
theorem dk0 {d : Nat} (hev : evOp (ev γ s) H op = some (v, H')) (h : wops P γ Q rest (upd s d v) H') : wops P γ Q ({ dst := some d, op := op } :: rest) s H :=
 cc9 hev h
theorem ek1 (hev : evOp (ev γ s) H op = some (v, H')) (h : wops P γ Q rest s H') : wops P γ Q ({ dst := none, op := op } :: rest) s H :=
 cc9 hev h
theorem dk2 {d : Nat} {f : EOpd} {args : List EOpd} {g : FuncId} {first cap as : List EV} (hf : ev γ s f = .func (.func g) first cap) (ha : args.map (ev γ s) = as) {R : ER → Heap → Prop}
  (hc : CallsA P γ g (first ++ as ++ cap) H R) (h : ∀ er H', R er H' → match er with | .ret r => wops P γ Q rest (upd s d r) H' | .pan v => Q (.panic v) s H') :
  wops P γ Q ({ dst := some d, op := .call f args } :: rest) s H := by
 subst ha
 show wop P γ _ _ H (.call f args) _
 unfold wop
 simp only [hf]
 exact ⟨R, hc, h⟩
theorem dc3 {d : Nat} {f : EOpd} {args : List EOpd} {g : FuncId} {first cap as : List EV} (hf : ev γ s f = .func (.func g) first cap) (ha : args.map (ev γ s) = as)
  (hc : CallsA P γ g (first ++ as ++ cap) H fun er H1 => er = .ret v ∧ H1 = H') (h : wops P γ Q rest (upd s d v) H') :
  wops P γ Q ({ dst := some d, op := .call f args } :: rest) s H :=
 dk2 hf ha hc fun er H1 he => by obtain ⟨rfl, rfl⟩ := he; exact h
theorem dz3 (h : Q .normal s H) : wops P γ Q [] s H := h
theorem ek0 {l : List EOper} (h : wops P γ Q l s H) : wpc P γ (.ops l) Q s H := h
theorem dy9 (h : Q .normal s H) : wpc P γ .skip Q s H := h
theorem ej8 {a b : EC} (h : wpc P γ a (ba5 (fun s' H' => wpc P γ b Q s' H') Q) s H) : wpc P γ (.seq a b) Q s H := h
theorem dj9 {id : Nat} {c : EC} (h : wpc P γ c (am6 id Q) s H) : wpc P γ (.block id c) Q s H := h
theorem dz1 {id : Nat} (h : Q (.exit id) s H) : wpc P γ (.exit id) Q s H := h
theorem ej9 (h : Q .ret s H) : wpc P γ .ret Q s H := h
theorem bw0 {c : EOpd} {a b : EC} {t : Bool} (hc : ev γ s c = .bool t) (h1 : t = true → wpc P γ a Q s H) (h2 : t = false → wpc P γ b Q s H) : wpc P γ (.cond c a b) Q s H := by
 simp only [wpc, hc]
 cases t
 ·simpa using h2 rfl
 ·simpa using h1 rfl
theorem ej2 (s : aa2) : ∀ (l : List (Nat × EV)), (∀ p ∈ l, s p.1 = p.2) → ∀ t, mkS l t = .undef ∨ mkS l t = s t
 | [], _, _ => .inl rfl
 | p :: l, h, t => by
  simp only [mkS]
  split
  ·rename_i e; subst e; exact .inr (h p (by simp)).symm
  ·exact ej2 s l (fun q hq => h q (by simp [hq])) t
theorem cg7 {Q Q' : AX → aa2 → Heap → Prop} (hq : ∀ x s H, Q x s H → Q' x s H) : ∀ {l : List (EOper × Bool)} {s : aa2} {H : Heap}, wdr P γ Q l s H → wdr P γ Q' l s H
 | [], _, _, h => hq _ _ _ h
 | _ :: _, _, _, ⟨v, H', h1, h2, h3⟩ => ⟨v, H', h1, h2, cg7 hq h3⟩
theorem cg9 {ds : List Nat} {Q Q' : AX → aa2 → Heap → Prop} (hq : ∀ x s H, Q x s H → Q' x s H) : ∀ {l : List GO} {s : aa2} {H : Heap}, wdG P γ ds Q l s H → wdG P γ ds Q' l s H
 | [], _, _, h => hq _ _ _ h
 | _ :: _, _, _, .inl ⟨v, H', h1, h2, h3, h4⟩ => .inl ⟨v, H', h1, h2, h3, cg9 hq h4⟩
 | _ :: _, _, _, .inr ⟨h1, h2, pv, H', h3, h4, h5⟩ => .inr ⟨h1, h2, pv, H', h3, h4, hq _ _ _ h5⟩
def eh8 (Inv : Nat → aa2 → Heap → Prop) (m n0 : Nat) (s1 : aa2) (H1 : Heap) : Prop := ∃ m1 s2 L, m1 < m ∧ n0 ≤ L ∧ cj9 L s1 H1 s2 ∧ Inv m1 s2 (H1.take L)
theorem dz0 {c : EC} (Inv : Nat → aa2 → Heap → Prop) (m0 : Nat) (l : List (Nat × EV)) (hl : ∀ p ∈ l, s p.1 = p.2) (h0 : Inv m0 (mkS l) H)
  (h : ∀ m s' H', Inv m s' H' → ∀ (K : aa2 → Heap → Prop) (Q' : AX → aa2 → Heap → Prop), (∀ s1 H1, eh8 Inv m H.length s1 H1 → K s1 H1) → (∀ x s1 H1, Q x s1 H1 → Q' x s1 H1) → wpc P γ c (ba5 K Q') s' H') :
  wpc P γ (.loop c) Q s H :=
 ⟨Inv, m0, mkS l, ej2 s l hl, h0, fun m s' H' hi => h m s' H' hi _ _ (fun _ _ h => h) (fun _ _ _ h => h)⟩
theorem cs2 {next : aa2 → Heap → Prop} (h : next s H) : ba5 next Q .normal s H := h
theorem dk7 {next : aa2 → Heap → Prop} {id : Nat} (h : Q (.exit id) s H) : ba5 next Q (.exit id) s H := h
theorem dz9 {next : aa2 → Heap → Prop} (h : Q .ret s H) : ba5 next Q .ret s H := h
theorem cr2 {id : Nat} (h : Q .normal s H) : am6 id Q .normal s H := h
theorem dx6 {id : Nat} (h : Q .ret s H) : am6 id Q .ret s H := h
theorem cb6 {id : Nat} (h : Q .normal s H) : am6 id Q (.exit id) s H := by simpa [am6] using h
theorem aa5 {id id' : Nat} (hne : id' ≠ id) (h : Q (.exit id') s H) : am6 id Q (.exit id') s H := by simpa [am6, hne] using h
theorem dn7 {d : Nat} : putA s (some d) v = upd s d v := rfl
theorem dn8 : putA s none v = s := rfl
theorem dz2 {l : List (EOper × Bool)} (h : wdr P γ Q l s H) : wpc P γ (.draw l) Q s H := h
theorem ek3 (h : Q .normal s H) : wdr P γ Q [] s H := h
theorem eo9 (hev : evOp (ev γ s) H op = some (v, H')) : Acts P γ s H op v H' := by
 unfold Acts
 split
 ·simp [evOp] at hev
 ·exact hev
theorem dz4 {d : Option Nat} {c : Bool} {l : List (EOper × Bool)} (hev : evOp (ev γ s) H op = some (v, H')) (hc : c = false → H' = H) (h : wdr P γ Q l (putA s d v) H') : wdr P γ Q (({ dst := d, op := op }, c) :: l) s H :=
 ⟨v, H', eo9 hev, hc, h⟩
theorem cg8 {d : Option Nat} {c : Bool} {f : EOpd} {args : List EOpd} {g : FuncId} {first cap as : List EV} {l : List (EOper × Bool)} (hf : ev γ s f = .func (.func g) first cap) (ha : args.map (ev γ s) = as)
  (hcall : CallsA P γ g (first ++ as ++ cap) H fun er H1 => er = .ret v ∧ H1 = H') (hc : c = false → H' = H) (h : wdr P γ Q l (putA s d v) H') :
  wdr P γ Q (({ dst := d, op := .call f args }, c) :: l) s H := by
 subst ha
 refine ⟨v, H', ?_, hc, h⟩
 show Acts P γ s H (.call f args) v H'
 unfold Acts
 simp only [hf]
 exact hcall
theorem dh2 {L : Nat} {s : aa2} {H : Heap} (l : List (Nat × EV)) (h1 : ∀ p ∈ l, s p.1 = p.2 ∧ p.2.ok L = true) (h2 : ∀ (b : Nat) (x : EB), b < L → H[b]? = some (some x) → x.ok L = true) :
  cj9 L s H (mkS l) := by
 refine ⟨fun t => ?_, h2⟩
 induction l with
 | nil => exact .inl rfl
 | cons p l ih =>
  simp only [mkS]
  split
  ·rename_i e
   subst e
   have := h1 p (by simp)
   exact .inr ⟨this.1.symm, by rw [this.1]; exact this.2⟩
  ·exact ih fun q hq => h1 q (by simp [hq])
def Body (P : Program) (f : FuncId) (ec : EC) (rs : List ERes) (nt : Nat) : Prop :=
 ∃ (fn : Func) (c : Code) (own : List Nat), P.funcs[f]? = some fn ∧ fn.body = some c ∧ (fn.name == "runtime.NumGoroutine") = false ∧ resC P nt own c = some ec ∧ fn.results.toList.mapM (bj5 P) = some rs ∧ fn.ntmps = nt
theorem Body.calls {f : FuncId} {ec : EC} {rs : List ERes} {nt : Nat} (hb : Body P f ec rs nt) {args : List EV} {R : ER → Heap → Prop} (ha : args.length ≤ nt)
  (h : OkH H → wpc P γ ec (dx5 H.length rs R) (am4 args) H) : CallsA P γ f args H R := by
 obtain ⟨fn, c, own, h1, h2, h3, h4, h5, rfl⟩ := hb
 exact cc4 h1 h2 h3 h4 h5 ha h
theorem dm7 {Inv : Nat → aa2 → Heap → Prop} {m n0 : Nat} (m1 : Nat) (l : List (Nat × EV)) (L : Nat) (hm : m1 < m) (hL : n0 ≤ L) (h1 : ∀ p ∈ l, s p.1 = p.2 ∧ p.2.ok L = true)
  (h2 : ∀ (b : Nat) (x : EB), b < L → H[b]? = some (some x) → x.ok L = true) (h : Inv m1 (mkS l) (H.take L)) : eh8 Inv m n0 s H :=
 ⟨m1, mkS l, L, hm, hL, dh2 l h1 h2, h⟩
theorem eg0 {rs : List ERes} {r : EV} {R : ER → Heap → Prop} (hok : OkH H) (hr : ab0 s H rs = some r) (ho : r.ok H.length = true) (h : R (.ret r) H) : dx5 H.length rs R .ret s H :=
 .inl ⟨r, r, hr, .same _ ho, fun b x _ hx => hok b x hx, by rwa [List.take_of_length_le (Nat.le_refl _)]⟩
theorem br7 {G : Heap} {rs : List ERes} {r : EV} {R : ER → Heap → Prop} (hok : OkH H) (hr : ab0 s (H ++ G) rs = some r) (ho : r.ok H.length = true) (h : R (.ret r) H) : dx5 H.length rs R .ret s (H ++ G) :=
 .inl ⟨r, r, hr, .same _ ho, fun b x hb hx => hok b x (by rwa [List.getElem?_append_left hb] at hx), by rwa [List.take_left]⟩
end
theorem bv9 {x : Int} (h1 : -9223372036854775808 ≤ x) (h2 : x ≤ 9223372036854775807) : IntKind.i64.wrap x = x := by
 unfold IntKind.wrap
 simp only [IntKind.bits, IntKind.signed, Bool.true_and, Nat.reduceSub, Int.reducePow]
 split
 ·rename_i h; have := of_decide_eq_true h; omega
 ·rename_i h
  have : ¬ (x % 18446744073709551616 ≥ 9223372036854775808) := fun g => h (decide_eq_true g)
  omega
theorem bv8 {x : Int} (h1 : 0 ≤ x) (h2 : x < 18446744073709551616) : IntKind.u64.wrap x = x := by
 unfold IntKind.wrap
 simp only [IntKind.bits, IntKind.signed, Bool.false_and, Bool.false_eq_true, if_false, Int.reducePow]
 omega
theorem ej7 {x : Int} (h1 : 0 ≤ x) (h2 : x < 256) : IntKind.u8.wrap x = x := by
 unfold IntKind.wrap
 simp only [IntKind.bits, IntKind.signed, Bool.false_and, Bool.false_eq_true, if_false, Int.reducePow]
 omega
theorem bq5 {a : Nat} : BitVec.ofInt 64 (a : Int) = BitVec.ofNat 64 a := by
 apply BitVec.eq_of_toInt_eq
 simp
theorem eh0 {a b : Nat} (ha : a < 18446744073709551616) (hb : b < 18446744073709551616) : cb8 .and .u64 a b = ((a &&& b : Nat) : Int) := by
 have h := Nat.and_lt_two_pow a (n := 64) hb
 have e : (BitVec.ofInt 64 (a : Int) &&& BitVec.ofInt 64 (b : Int)).toNat = a &&& b := by
  rw [bq5, bq5, BitVec.toNat_and, BitVec.toNat_ofNat, BitVec.toNat_ofNat, Nat.mod_eq_of_lt ha, Nat.mod_eq_of_lt hb]
 show IntKind.u64.wrap (((BitVec.ofInt 64 (a : Int) &&& BitVec.ofInt 64 (b : Int)).toNat : Nat) : Int) = _
 rw [e, bv8 (by omega) (by omega)]
theorem cj5 {a b : Nat} (ha : a < 18446744073709551616) (hb : b < 18446744073709551616) : cb8 .or .u64 a b = ((a ||| b : Nat) : Int) := by
 have h := Nat.or_lt_two_pow (n := 64) ha hb
 have e : (BitVec.ofInt 64 (a : Int) ||| BitVec.ofInt 64 (b : Int)).toNat = a ||| b := by
  rw [bq5, bq5, BitVec.toNat_or, BitVec.toNat_ofNat, BitVec.toNat_ofNat, Nat.mod_eq_of_lt ha, Nat.mod_eq_of_lt hb]
 show IntKind.u64.wrap (((BitVec.ofInt 64 (a : Int) ||| BitVec.ofInt 64 (b : Int)).toNat : Nat) : Int) = _
 rw [e, bv8 (by omega) (by omega)]
theorem ee1 {p : Prop} [Decidable p] {a b : Nat} : (if p then ((a : Nat) : Int) else ((b : Nat) : Int)) = ((if p then a else b : Nat) : Int) := by split <;> rfl
theorem ea1 (b n : Nat) : ((b : Nat) : Int).tdiv (no_index (OfNat.ofNat n)) = ((b / (OfNat.ofNat n) : Nat) : Int) := rfl
theorem dz8 (b n : Nat) : ((b : Nat) : Int).tmod (no_index (OfNat.ofNat n)) = ((b % (OfNat.ofNat n) : Nat) : Int) := rfl
theorem dm0 {m : Nat} (h : m < 64) : IntKind.u64.wrap (1 * 2 ^ (min m IntKind.u64.bits)) = ((2 ^ m : Nat) : Int) := by
 have h1 : min m IntKind.u64.bits = m := by show min m 64 = m; omega
 have h2 : (2 : Nat) ^ m ≤ 2 ^ 63 := Nat.pow_le_pow_right (by decide) (by omega)
 have h3 : ((2 : Int) ^ m) = ((2 ^ m : Nat) : Int) := by simp
 rw [h1, Int.one_mul, h3]
 generalize 2 ^ m = z at *
 exact bv8 (by omega) (by omega)
def tab (n : Nat) (f : Nat → EV) : List EV := (List.range n).map f
def put (f : Nat → EV) (k : Nat) (v : EV) : Nat → EV := fun i => if i = k then v else f i
section
variable {n k : Nat} {κ : IntKind} {f g : Nat → EV} {v x : EV} {l : List EV}
theorem eb7 : put f k v k = v := by simp [put]
theorem cm6 {i : Nat} (h : i ≠ k) : put f k v i = f i := by simp [put, h]
theorem an7 : (tab n f).length = n := by simp [tab]
theorem ch1 (h : k < n) : (tab n f)[k]? = some (f k) := by simp [tab, h]
theorem dl0 (h : ∀ i, i < n → f i = g i) : tab n f = tab n g := List.map_congr_left fun i hi => h i (by simpa using hi)
theorem ea2 (h : k < n) : ((tab n f).drop k).take 1 = [f k] := by
 rw [List.drop_eq_getElem_cons (by rw [an7]; exact h)]
 simp [tab]
theorem ck7 (h : k < n) : ((tab n f ++ l).drop k).take 1 = [f k] := by
 rw [List.drop_append_of_le_length (by rw [an7]; omega), List.drop_eq_getElem_cons (by rw [an7]; exact h)]
 simp [tab]
theorem dk9 (h : k < n) : (tab n f).take k ++ (v :: (tab n f).drop (k + 1)) = tab n (put f k v) := by
 refine List.ext_getElem? fun i => ?_
 have e := ak4 (tab n f) [v] k (by simp [an7]; omega) i
 simp only [List.append_assoc, List.singleton_append, List.length_singleton] at e
 rw [e]
 by_cases hi : i < n
 ·rw [ch1 hi, ch1 hi]
  by_cases a : i < k
  ·rw [if_pos a, cm6 (by omega)]
  ·rw [if_neg a]
   by_cases b : i < k + 1
   ·obtain rfl : i = k := by omega
    rw [if_pos b, eb7]; simp
   ·rw [if_neg b, cm6 (by omega)]
 ·have a1 : (tab n f)[i]? = none := List.getElem?_eq_none (by rw [an7]; omega)
  have a2 : (tab n (put f k v))[i]? = none := List.getElem?_eq_none (by rw [an7]; omega)
  rw [if_neg (by omega), if_neg (by omega), a1, a2]
theorem cs3 (h : k < n) : (tab n f ++ l).take k ++ (v :: (tab n f ++ l).drop (k + 1)) = tab n (put f k v) ++ l := by
 rw [List.take_append_of_le_length (by rw [an7]; omega), List.drop_append_of_le_length (by rw [an7]; omega), ← List.cons_append, ← List.append_assoc, dk9 h]
theorem ch0 : (tab n f ++ l).take n = tab n f := by
 rw [List.take_append_of_le_length (by rw [an7]; omega), List.take_of_length_le (by rw [an7]; omega)]
theorem ck6 (h : n ≤ k) : (tab n f).take k = tab n f := List.take_of_length_le (by rw [an7]; exact h)
theorem ck5 (h : n + 1 ≤ k) : (tab n f ++ [x]).take k = tab n f ++ [x] := List.take_of_length_le (by simp [an7]; omega)
theorem ck9 (h : n ≤ k) : (tab n f ++ l).drop k = l.drop (k - n) := by
 rw [List.drop_append, List.drop_of_length_le (by rw [an7]; exact h), an7, List.nil_append]
theorem cl0 (h : n ≤ k) : (tab n f).drop k = [] := List.drop_of_length_le (by rw [an7]; exact h)
theorem cs4 {κ : IntKind} {w : Nat → Int} : (tab n fun i => .int κ (w i)).all EV.one = true := by
 rw [List.all_eq_true]
 intro x hx
 simp only [tab, List.mem_map] at hx
 obtain ⟨i, _, rfl⟩ := hx
 rfl
theorem ck8 {w : Nat → Bool} : (tab n fun i => .bool (w i)).all EV.one = true := by
 rw [List.all_eq_true]
 intro x hx
 simp only [tab, List.mem_map] at hx
 obtain ⟨i, _, rfl⟩ := hx
 rfl
theorem el7 {κ : IntKind} {w : Nat → Int} {a : Int} : put (fun i => .int κ (w i)) k (.int κ a) = fun i => .int κ (if i = k then a else w i) := by
 funext i
 unfold put
 split <;> rfl
theorem eb8 {w : Nat → Bool} {a : Bool} : put (fun i => .bool (w i)) k (.bool a) = fun i => .bool (if i = k then a else w i) := by
 funext i
 unfold put
 split <;> rfl
theorem bw3 : tab (n + 1) f = tab n f ++ [f n] := by simp [tab, List.range_succ]
theorem sweep {a b : Nat → Nat} {i : Nat} : (fun j => EV.int κ ((if j = i then a i else if j < i then a j else b j : Nat) : Int)) = fun j => EV.int κ ((if j < i + 1 then a j else b j : Nat) : Int) := by
 funext j
 by_cases h1 : j = i
 ·subst h1; simp
 ·rw [if_neg h1]
  by_cases h2 : j < i
  ·rw [if_pos h2, if_pos (by omega)]
  ·rw [if_neg h2, if_neg (by omega)]
theorem eq8 {a b : Nat → Nat} : (tab n fun i => EV.int κ ((if i < n then a i else b i : Nat) : Int)) = tab n fun i => EV.int κ ((a i : Nat) : Int) := dl0 fun i hi => by rw [if_pos hi]
theorem ee9 {q : SK} {ks : List SK} : ∀ {n : Nat} {f : Nat → EV}, (∀ i, i < n → fit q (f i) = true) → fits ks l = true → fits (List.replicate n q ++ ks) (tab n f ++ l) = true := by
 intro n
 induction n generalizing ks l with
 | zero => intro f _ h; simpa [tab] using h
 | succ n ih =>
  intro f hf h
  rw [bw3, List.replicate_succ', List.append_assoc, List.append_assoc]
  exact ih (fun i hi => hf i (by omega)) (by simp [fits, hf n (by omega), h])
theorem ee8 {q : SK} {f : Nat → EV} (h : ∀ i, i < n → fit q (f i) = true) : fits (List.replicate n q) (tab n f) = true := by
 have := ee9 (ks := []) (l := []) h rfl
 simpa using this
theorem dv7 {a b c d : List EV} (h : a.length = b.length) : eqL (a ++ c) (b ++ d) = (eqL a b && eqL c d) := by
 induction a generalizing b with
 | nil => cases b with
  | nil => simp [eqL]
  | cons y b => simp at h
 | cons x a ih => cases b with
  | nil => simp at h
  | cons y b => simp only [List.cons_append, eqL, ih (by simpa using h), Bool.and_assoc]
def cr5 (n : Nat) (u w : Nat → Int) : Bool := (List.range n).all fun i => u i == w i
theorem cr4 {u w : Nat → Int} : cr5 n u w = true ↔ ∀ i, i < n → u i = w i := by
 simp [cr5, List.all_eq_true]
theorem cw6 {κ κ' : IntKind} {u w : Nat → Int} : ∀ {n : Nat}, eqL (tab n fun i => .int κ (u i)) (tab n fun i => .int κ' (w i)) = cr5 n u w
 | 0 => by simp [tab, eqL, cr5]
 | n + 1 => by
  rw [bw3, bw3, dv7 (by simp [an7]), cw6]
  simp [eqL, sceq, cr5, List.range_succ, List.all_append]
theorem cw5 {κ κ' : IntKind} {u w : Nat → Int} {c d : List EV} : eqL ((tab n fun i => .int κ (u i)) ++ c) ((tab n fun i => .int κ' (w i)) ++ d) = (cr5 n u w && eqL c d) := by
 rw [dv7 (by simp [an7]), cw6]
theorem co4 {κ : IntKind} {w : Nat → Int} : fits (List.replicate n (.i κ)) (tab n fun i => .int κ (w i)) = true := ee8 fun _ _ => by simp [fit]
theorem ef0 {n : Nat} {q : SK} {ks : List SK} {f : Nat → EV} (hf : ∀ i, i < n → fit q (f i) = true) : fits (List.replicate n q ++ ks) (tab n f ++ l) = fits ks l := by
 induction n generalizing ks l with
 | zero => simp [tab]
 | succ n ih =>
  rw [bw3, List.replicate_succ', List.append_assoc, List.append_assoc, ih (fun i hi => hf i (by omega))]
  simp [fits, hf n (by omega)]
theorem bv5 {κ : IntKind} {w : Nat → Int} {ks : List SK} : fits (List.replicate n (.i κ) ++ ks) ((tab n fun i => .int κ (w i)) ++ l) = fits ks l := ef0 fun _ _ => by simp [fit]
end
theorem du7 {s : List UInt8} : bo5 true (.str s) = some s.length := rfl
theorem du9 : bo5 false .nilsl = some 0 := rfl
theorem dv0 {sz : Nat} {es : List EV} : bo5 false (.imm sz es) = some es.length := rfl
theorem du8 {b sz off len : Nat} : bo5 false (.own b sz off len) = some len := rfl
theorem di0 {sz b bs off len : Nat} {k : Int} : bc8 sz k (.own b bs off len) = if sz = bs ∧ 0 ≤ k ∧ k < len then some (.ptr b bs (off + k.toNat) 0) else none := rfl
theorem di1 {sz bs : Nat} {es : List EV} {k : Int} : bc8 sz k (.imm bs es) = if sz = bs ∧ 0 ≤ k then (match es[k.toNat]? with | some e => some (.iptr e.cells 0) | none => none) else none := rfl
section
variable {H G : Heap} {i b : Nat} {x : Option EB}
theorem dy0 : (H ++ G)[H.length + i]? = G[i]? := by rw [List.getElem?_append_right (by omega)]; congr 1; omega
theorem eh4 : (H ++ G)[H.length]? = G[0]? := dy0 (i := 0)
theorem dx9 : (H ++ G).set (H.length + i) x = H ++ G.set i x := by rw [List.set_append_right _ _ (by omega)]; congr 2; omega
theorem eh3 : (H ++ G).set H.length x = H ++ G.set 0 x := dx9 (i := 0)
end
mutual
theorem EV.ok_mono {n m : Nat} (h : n ≤ m) : ∀ (x : EV), x.ok n = true → x.ok m = true
 | .undef, _ => rfl
 | .bool _, _ => rfl
 | .int _ _, _ => rfl
 | .str _, _ => rfl
 | .nilptr, _ => rfl
 | .ptr _ _ _ _, g => by simp [EV.ok] at g ⊢; omega
 | .iptr cs _, g => by simp only [EV.ok] at g ⊢; exact be0 h cs g
 | .nilsl, _ => rfl
 | .zsl, _ => rfl
 | .imm _ es, g => by simp only [EV.ok] at g ⊢; exact be0 h es g
 | .own _ _ _ _, g => by simp [EV.ok] at g ⊢; omega
 | .nilfn, _ => rfl
 | .func _ a b, g => by simp only [EV.ok, Bool.and_eq_true] at g ⊢; exact ⟨be0 h a g.1, be0 h b g.2⟩
 | .nilif, _ => rfl
 | .iface _ v, g => by simp only [EV.ok] at g ⊢; exact EV.ok_mono h v g
 | .nilmap, _ => rfl
 | .map _, g => by simp [EV.ok] at g ⊢; omega
 | .agg cs, g => by simp only [EV.ok] at g ⊢; exact be0 h cs g
 | .tup cs, g => by simp only [EV.ok] at g ⊢; exact be0 h cs g
theorem be0 {n m : Nat} (h : n ≤ m) : ∀ (l : List EV), okL n l = true → okL m l = true
 | [], _ => rfl
 | x :: l, g => by simp only [okL, Bool.and_eq_true] at g ⊢; exact ⟨EV.ok_mono h x g.1, be0 h l g.2⟩
end
theorem EB.ok_mono {n m : Nat} (h : n ≤ m) (x : EB) (g : x.ok n = true) : x.ok m = true := by
 cases x with
 | row sz es => simp only [EB.ok] at g ⊢; exact be0 h es g
 | map es =>
  simp only [EB.ok, List.all_eq_true, Bool.and_eq_true] at g ⊢
  exact fun e he => ⟨EV.ok_mono h _ (g e he).1, EV.ok_mono h _ (g e he).2⟩
 | it s p => rfl
theorem aq4 {n : Nat} {a b : List EV} : okL n (a ++ b) = (okL n a && okL n b) := by
 induction a with
 | nil => simp [okL]
 | cons x a ih => simp [okL, ih, Bool.and_assoc]
theorem dp7 {n m : Nat} {f : Nat → EV} (h : ∀ i, i < n → (f i).ok m = true) : okL m (tab n f) = true := by
 rw [ah6]
 intro x hx
 simp only [tab, List.mem_map, List.mem_range] at hx
 obtain ⟨i, hi, rfl⟩ := hx
 exact h i hi
theorem ad1 {n m : Nat} {κ : IntKind} {w : Nat → Int} : okL m (tab n fun i => .int κ (w i)) = true := dp7 fun _ _ => rfl
theorem ad5 {n m : Nat} {w : Nat → Bool} : okL m (tab n fun i => .bool (w i)) = true := dp7 fun _ _ => rfl
def okG (n : Nat) : Heap → Bool
 | [] => true
 | none :: G => okG n G
 | some x :: G => x.ok n && okG n G
theorem cu4 {n : Nat} : ∀ {G : Heap}, okG n G = true → ∀ (b : Nat) (x : EB), G[b]? = some (some x) → x.ok n = true
 | [], _, b, x, h => by simp at h
 | none :: G, g, 0, x, h => by simp at h
 | none :: G, g, b + 1, x, h => cu4 (G := G) g b x (by simpa using h)
 | some y :: G, g, 0, x, h => by simp at h; subst h; simp only [okG, Bool.and_eq_true] at g; exact g.1
 | some y :: G, g, b + 1, x, h => by simp only [okG, Bool.and_eq_true] at g; exact cu4 (G := G) g.2 b x (by simpa using h)
theorem cu3 {H G : Heap} (h : OkH H) (g : okG (H.length + G.length) G = true) : OkH (H ++ G) := by
 intro b x hx
 by_cases hb : b < H.length
 ·rw [List.getElem?_append_left hb] at hx
  exact EB.ok_mono (by simp) x (h b x hx)
 ·rw [List.getElem?_append_right (by omega)] at hx
  rw [List.length_append]
  exact cu4 g _ x hx
section
variable {P : Program} {γ : Nat → EV} {Inv : Nat → aa2 → Heap → Prop} {m n0 : Nat} {s : aa2} {H : Heap}
def bm5 (s : aa2) (n : Nat) : List (Nat × EV) → Prop
 | [] => True
 | p :: l => (s p.1 = p.2 ∧ p.2.ok n = true) ∧ bm5 s n l
theorem bk5 {s : aa2} {n : Nat} : ∀ {l : List (Nat × EV)}, bm5 s n l → ∀ p ∈ l, s p.1 = p.2 ∧ p.2.ok n = true
 | [], _, p, h => by simp at h
 | q :: l, g, p, h => by
  rcases List.mem_cons.1 h with rfl | h
  ·exact g.1
  ·exact bk5 g.2 p h
theorem dd4 {G : Heap} (m1 : Nat) (l : List (Nat × EV)) (hm : m1 < m) (hn : n0 ≤ H.length) (hok : OkH H) (hs : bm5 s H.length l) (h : Inv m1 (mkS l) H) : eh8 Inv m n0 s (H ++ G) :=
 dm7 m1 l H.length hm hn (bk5 hs) (fun b x hb hx => hok b x (by rwa [List.getElem?_append_left hb] at hx)) (by rwa [List.take_left])
theorem dj8 {Q : AX → aa2 → Heap → Prop} {c : EC} (Inv : Nat → aa2 → Heap → Prop) (m0 : Nat) (l : List (Nat × EV)) (hl : bm5 s H.length l) (h0 : Inv m0 (mkS l) H)
  (h : ∀ m s' H', Inv m s' H' → ∀ (K : aa2 → Heap → Prop) (Q' : AX → aa2 → Heap → Prop), (∀ s1 H1, eh8 Inv m H.length s1 H1 → K s1 H1) → (∀ x s1 H1, Q x s1 H1 → Q' x s1 H1) → wpc P γ c (ba5 K Q') s' H') :
  wpc P γ (.loop c) Q s H :=
 dz0 Inv m0 l (fun p hp => (bk5 hl p hp).1) h0 h
end
end Abs
namespace Abs
open Go
section
variable {P : Program} {γ : Nat → EV} {s : aa2} {H : Heap} {Q : AX → aa2 → Heap → Prop} {c : EC}
theorem bu0 {g : Nat} {b : Bool} {d : Option Nat} {op : EOp} {rest : List EOper} (hg : s g = .bool b) (h : wops P γ Q ({ dst := d, op := op } :: rest) s H) : wops P γ Q ({ dst := d, op := op, guard := some (g, b) } :: rest) s H := by
 simp only [wops] at h ⊢
 rw [hg]
 simpa using h
theorem cc8 {g : Nat} {b t : Bool} {d : Option Nat} {op : EOp} {rest : List EOper} (hg : s g = .bool t) (ht : (t == b) = false) (h : wops P γ Q rest (putA s d (.tup [])) H) : wops P γ Q ({ dst := d, op := op, guard := some (g, b) } :: rest) s H := by
 simp only [wops]
 rw [hg]
 have : ¬ t = b := by simpa using ht
 simpa [this] using h
theorem bx3 {g : Nat} {b c : Bool} {d : Option Nat} {op : EOp} {rest : List (EOper × Bool)} (hg : s g = .bool b) (h : wdr P γ Q (({ dst := d, op := op }, c) :: rest) s H) : wdr P γ Q (({ dst := d, op := op, guard := some (g, b) }, c) :: rest) s H := by
 obtain ⟨v, H', h1, h2, h3⟩ := h
 refine ⟨v, H', ?_, h2, h3⟩
 exact .inl ⟨b, hg, fun _ => h1, fun e => absurd rfl e⟩
theorem ck1 {g : Nat} {b t c : Bool} {d : Option Nat} {op : EOp} {rest : List (EOper × Bool)} (hg : s g = .bool t) (ht : (t == b) = false) (h : wdr P γ Q rest (putA s d (.tup [])) H) : wdr P γ Q (({ dst := d, op := op, guard := some (g, b) }, c) :: rest) s H := by
 refine ⟨.tup [], H, .inl ⟨t, hg, fun e => ?_, fun _ => ⟨rfl, rfl⟩⟩, fun _ => rfl, h⟩
 subst e
 simp at ht
theorem dk1 {g : Nat} {b : Bool} {d : Option Nat} {op : EOp} {rest : List EOper} (hg : s g = .tup []) (h : wops P γ Q rest (putA s d (.tup [])) H) : wops P γ Q ({ dst := d, op := op, guard := some (g, b) } :: rest) s H := by
 simp only [wops]
 rw [hg]
 exact h
theorem dz5 {g : Nat} {b c : Bool} {d : Option Nat} {op : EOp} {rest : List (EOper × Bool)} (hg : s g = .tup []) (h : wdr P γ Q rest (putA s d (.tup [])) H) : wdr P γ Q (({ dst := d, op := op, guard := some (g, b) }, c) :: rest) s H :=
 ⟨.tup [], H, .inr ⟨hg, rfl, rfl⟩, fun _ => rfl, h⟩
def gate : Bool → Prop → Prop → Prop
 | true, a, _ => a
 | false, _, b => b
theorem en0 {a b : Prop} (h : a) : gate (true == true) a b := h
theorem en3 {a b : Prop} (h : a) : gate (false == false) a b := h
theorem en1 {a b : Prop} (h : b) : gate (true == false) a b := h
theorem en2 {a b : Prop} (h : b) : gate (false == true) a b := h
theorem es9 {a b : Prop} (h : a) : gate true a b := h
theorem et0 {a b : Prop} (h : b) : gate false a b := h
theorem bd7 : EV.bool true = EV.bool true := rfl
theorem bd8 : EV.bool false = EV.bool false := rfl
theorem ae9 {c : Bool} : c = false → H = H := fun _ => rfl
theorem ah1 {c : Bool} {A B : Heap} (h : A = B) : c = false → A = B := fun _ => h
theorem ae8 {p : Prop} : true = false → p := fun h => Bool.noConfusion h
theorem dy8 {c : EOpd} {a b : EC} {t : Bool} (hc : ev γ s c = .bool t) (h : gate t (wpc P γ a Q s H) (wpc P γ b Q s H)) : wpc P γ (.cond c a b) Q s H :=
 bw0 hc (fun e => by subst e; exact h) (fun e => by subst e; exact h)
theorem dc2 {g : Nat} {t b : Bool} {d : Option Nat} {op : EOp} {rest : List EOper} (hg : s g = .bool t) (h : gate (t == b) (wops P γ Q ({ dst := d, op := op } :: rest) s H) (wops P γ Q rest (putA s d (.tup [])) H)) :
  wops P γ Q ({ dst := d, op := op, guard := some (g, b) } :: rest) s H := by
 cases t <;> cases b
 ·exact bu0 hg h
 ·exact cc8 hg rfl h
 ·exact cc8 hg rfl h
 ·exact bu0 hg h
theorem dk3 {g : Nat} {t b c : Bool} {d : Option Nat} {op : EOp} {rest : List (EOper × Bool)} (hg : s g = .bool t) (h : gate (t == b) (wdr P γ Q (({ dst := d, op := op }, c) :: rest) s H) (wdr P γ Q rest (putA s d (.tup [])) H)) :
  wdr P γ Q (({ dst := d, op := op, guard := some (g, b) }, c) :: rest) s H := by
 cases t <;> cases b
 ·exact bx3 hg h
 ·exact ck1 hg rfl h
 ·exact ck1 hg rfl h
 ·exact bx3 hg h
theorem bx1 {ι : Type} (J : ι → Prop) (μ : ι → Nat) (S : ι → List (Nat × EV)) (Hp : ι → Heap) (i0 : ι) (hJ : J i0) (hl : bm5 s H.length (S i0)) (hH : H = Hp i0)
  (hok : ∀ i, J i → OkH (Hp i)) (hlen : ∀ j, J j → H.length ≤ (Hp j).length)
  (h : ∀ i, J i → ∀ (K : aa2 → Heap → Prop) (Q' : AX → aa2 → Heap → Prop), (∀ j s1 H1 G, J j → μ j < μ i → H1 = Hp j ++ G → bm5 s1 (Hp j).length (S j) → K s1 H1) → (∀ x s1 H1, Q x s1 H1 → Q' x s1 H1) →
   wpc P γ c (ba5 K Q') (mkS (S i)) (Hp i)) :
  wpc P γ (.loop c) Q s H := by
 refine dj8 (fun m s H => ∃ i, J i ∧ m = μ i ∧ s = mkS (S i) ∧ H = Hp i) (μ i0) (S i0) hl ⟨i0, hJ, rfl, rfl, hH⟩ ?_
 rintro m s' H' ⟨i, hi, rfl, rfl, rfl⟩ K Q' hK hQ'
 refine h i hi K Q' (fun j s1 H1 G hj hlt e hs => hK _ _ ?_) hQ'
 subst e
 exact dd4 (μ j) (S j) hlt (hlen j hj) (hok j hj) hs ⟨j, hj, rfl, rfl, rfl⟩
end
abbrev qa := @ej8
abbrev qb := @ek0
abbrev qc := @dz3
abbrev qd := @cs2
abbrev qe := @dj9
abbrev qf := @cr2
abbrev qg := @dy9
abbrev qh := @dz1
abbrev qi := @dk7
abbrev qj := @cb6
abbrev qk := @ej9
abbrev ql := @dz9
abbrev qm := @dx6
abbrev qn := @dz2
abbrev qo := @ek3
abbrev qp := @es9
abbrev qq := @et0
abbrev qr := @en0
abbrev qs := @en3
abbrev qt := @en1
abbrev qu := @en2
abbrev qv := @dc2
abbrev qw := @dk3
abbrev qx := @dy8
abbrev qy := @dk1
abbrev qz := @dz5
abbrev q26 := @dk0
abbrev q27 := @ek1
abbrev q28 := @dz4
theorem ea9 {m : Nat} (h : m < 64) : IntKind.u64.wrap (1 * 2 ^ (min m 64)) = ((2 ^ m : Nat) : Int) := dm0 h
attribute [go_sem ↓] List.all_cons List.all_nil List.map_cons List.map_nil co4 bv5 cw6 cw5 evOp ev upd dn7 dn8 am4 mkS
attribute [go_sem] EV.cells EV.one az6 bt5 ef9 evUn cw4 di0 di1 bv6 al7 bc9 du7 du9 dv0 du8 cp0 pack bf9 fits fit eqL sceq bh6 if_true if_false Nat.zero_ne_one Nat.one_ne_zero ne_eq not_true_eq_false not_false_eq_true Int.toNat_natCast Int.natCast_zero Int.ofNat_zero List.foldl_cons List.foldl_nil List.set_cons_zero List.set_cons_succ List.replicate_succ List.replicate_zero List.getElem?_cons_succ List.getElem?_cons_zero List.getElem?_nil Option.getD_some Option.getD_none Option.map_some Option.map_none List.length_cons List.length_nil List.length_append List.nil_append List.cons_append List.append_nil List.append_assoc List.take_succ_cons List.take_zero List.take_nil List.drop_succ_cons List.drop_zero List.drop_nil List.headD_cons Nat.zero_add Nat.add_zero Nat.zero_mul Nat.mul_zero Nat.mul_one Nat.one_mul Nat.zero_le Nat.lt_irrefl Nat.lt_add_one Bool.and_true Bool.true_and Bool.and_false Bool.false_and Bool.and_self Bool.or_true Bool.or_false Bool.true_or Bool.false_or Bool.not_true Bool.not_false Bool.false_eq_true Bool.and_eq_true decide_eq_true_eq decide_true decide_false and_self and_true true_and beq_self_eq_true beq_iff_eq List.length_set Nat.lt_add_left_iff_pos Nat.zero_lt_succ an7 ea2 ck7 dk9 cs3 ch0 ck6 ck5 ck9 cl0 cs4 ck8 el7 eb8 ee1 eq8 ea1 dz8 dm0 dy0 eh4 dx9 eh3 List.all_append bv9 bv8 ej7
attribute [go_sem] ea9
section
variable {P : Program} {γ : Nat → EV}
theorem er3 {φ : Nat → Nat} {I : Nat → Prop} {H : Heap} {w : World} (h : RH γ φ I H w) : RH γ φ I [] w where
 glob := h.glob
 blk b x hb := by simp at hb
 inj b b' x x' hb := by simp at hb
 imm := h.imm
 dis b x hb := by simp at hb
 lt b x hb := by simp at hb
theorem CallsA.frame {f : FuncId} {args : List EV} {r : ER} (h : CallsA P γ f args [] fun er H' => er = r ∧ H' = []) (ho : okL 0 args = true) (H : Heap) : CallsA P γ f args H fun er H' => er = r ∧ H' = H := by
 refine ⟨h.1, fun φ I w vs hr hv => ?_⟩
 have hv0 : RCs φ 0 I w args vs.toList := ⟨hv.1, fun k x v hx hvk => (hv.2 k x v hx hvk).trunc (ah6.1 ho x (List.mem_of_getElem? hx))⟩
 refine (h.2 φ I w vs (er3 hr) hv0).mono fun e w' ⟨φ', I', H', er, he, hr', hre, h1, h2⟩ => ?_
 subst h1 h2
 have no : ∀ B, ¬ Own φ [] B := fun B ⟨b, x, hb, _⟩ => by simp at hb
 have same : ∀ B, B < w.heap.size → w'.heap[B]? = w.heap[B]? := fun B hB => he.keep B hB (no B)
 have him : ∀ B, I' B → I B ∨ w.heap.size ≤ B := fun B hB => by
  rcases he.immf B hB with h | h | h
  ·exact .inl h
  ·exact absurd h (no B)
  ·exact .inr h
 have hmono : ∀ {N : Nat} {x : EV} {v : Value}, RV φ' 0 I' w' x v → RV φ N I' w' x v := fun h => h.mono (Nat.zero_le _) (fun i hi => absurd hi (Nat.not_lt_zero i)) (fun _ h => h) (fun _ _ => rfl) (fun b hb => absurd hb (Nat.not_lt_zero b))
 refine ⟨φ, I', H, er, ⟨he.size, he.shape, fun B hB _ => same B hB, he.imm, fun _ _ => rfl, Nat.le_refl _, fun B h => .inl h, fun B hB => ?_, he.tape, he.os, he.out, he.froz⟩, ⟨fun g => ?_, fun b x hb => ?_, hr.inj, hr'.imm, fun b x hb hI => ?_, fun b x hb => Nat.lt_of_lt_of_le (hr.lt b x hb) he.size⟩, ?_, rfl, rfl⟩
 ·rcases him B hB with h | h
  ·exact .inl h
  ·exact .inr (.inr h)
 ·exact hmono (hr'.glob g)
 ·exact (hr.blk b x hb).mono (Nat.le_refl _) (fun _ _ => rfl) he.imm (fun B hB => same B (hr.imm B hB)) (fun b' hb' T n hs => (he.shape (φ b') (au9 hs)).trans hs) (same _ (hr.lt b x hb))
 ·rcases him _ hI with h | h
  ·exact hr.dis b x hb h
  ·have := hr.lt b x hb; omega
 ·cases hre with
  | ret x v hx => exact .ret x v (hmono hx)
  | pan x v hx => exact .pan x v (hmono hx)
end
end Abs
