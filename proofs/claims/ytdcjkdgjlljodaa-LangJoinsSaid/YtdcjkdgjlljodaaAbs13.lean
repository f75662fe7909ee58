/- A part. -/
import Derived.Test.YtdcjkdgjlljodaaAbs29
set_option linter.all false
namespace Abs
open Go
inductive EC where
 | skip
 | ops (l : List EOper)
 | draw (l : List (EOper × Bool))
 | drawS (l : List EOper) (us : List (Nat × Nat))
 | drawG (gs : List GO) (ds : List Nat)
 | seq (a b : EC)
 | cond (c : EOpd) (a b : EC)
 | block (id : Nat) (c : EC)
 | loop (c : EC)
 | rangeFunc (f : EOpd) (p d : Nat) (c : EC)
 | exit (id : Nat)
 | ret
 deriving Inhabited
def di9 (own : List Nat) (o : EOper) : Bool :=
 match o.op with
 | .call _ _ => (match o.dst with | some d => own.contains d | none => true)
 | op => op.eff
def ct3 (P : Program) (n : Nat) (own : List Nat) (ops : Array Oper) : Option (List (EOper × Bool)) :=
 match ops.toList.mapM (ai5 P n own ops) with
 | some l => if P.follows .mixedOrders && cp4 l (ae0 ops) (ct7 (ae0 ops)) (l.map (di9 own)) then some (l.zip (l.map (di9 own))) else none
 | none => none
def bq2 (P : Program) (n : Nat) (own : List Nat) (ops : Array Oper) : Option (List EOper × List (Nat × Nat)) :=
 match ops.toList.mapM (ai5 P n own ops) with
 | some l => if P.follows .mixedOrders && okS l (ae0 ops) (ct7 (ae0 ops)) then some (l, usOf l (ct7 (ae0 ops))) else none
 | none => none
def mkG (own : List Nat) (pre : List EOper) (pr : List (List Nat)) : List GO :=
 pre.mapIdx fun i o =>
  { o, chg := di9 own o
    us := if di9 own o then (List.range i).filterMap fun j =>
      if (pr.getD i []).contains j then none
      else match (pre.getD j default).op, (pre.getD j default).guard, (pre.getD j default).dst with
       | .load ag m (.t k), none, some d => some ⟨ag, m, k, d⟩
       | _, _, _ => none
     else []
    beh := if di9 own o then (List.range (pre.length - i - 1)).map fun k => (pr.getD (i + 1 + k) []).contains i else [] }
theorem mkG_o {own : List Nat} {pre : List EOper} {pr : List (List Nat)} : (mkG own pre pr).map GO.o = pre := by
 refine List.ext_getElem? fun i => ?_
 unfold mkG
 rw [List.getElem?_map, List.getElem?_mapIdx]
 cases pre[i]? <;> rfl
def cz9 (P : Program) (n : Nat) (own : List Nat) (ops : Array Oper) : Option (List GO × List Nat × List EOper) :=
 match ops.toList.mapM (ai5 P n own ops) with
 | some l =>
  if P.follows .mixedOrders && okDG (mkG own (bn5 l).1 (ct7 (ae0 ops))) (bn5 l).2.1 (bn5 l).2.2 (ae0 ops) (ct7 (ae0 ops)) (af2 l) then
   some (mkG own (bn5 l).1 (ct7 (ae0 ops)), af2 l, (bn5 l).2.1 ++ (bn5 l).2.2) else none
 | none => none
def bq3 (P : Program) (n : Nat) (own : List Nat) (ops : Array Oper) : Option (List GO × List Nat × List EOper) :=
 if (ops.toList.any fun o => match o.op, o.dst with | .call _, some d => own.contains d | _, _ => false) = true then cz9 P n own ops else none
def az0 : Code → Bool
 | .rangeFunc _ _ _ _ => false
 | .seq a b => az0 a && az0 b
 | .cond _ a b => az0 a && az0 b
 | .block _ c => az0 c
 | .loop c => az0 c
 | .scope c => az0 c
 | _ => true
def eh2 (n : Nat) : Code → Option (Nat × Nat)
 | .region _ ops false =>
  match ops.toList with
  | [o] =>
   match o.op, o.dst, o.guard with
   | .assign (.tmp p), some d, none => if p < n ∧ d < n then some (p, d) else none
   | _, _, _ => none
  | _ => none
 | _ => none
def resC (P : Program) (n : Nat) (own : List Nat) : Code → Option EC
 | .skip => some .skip
 | .region _ ops false => (ops.toList.mapM (ai5 P n own ops)).map .ops
 | .region _ ops true =>
  match bq3 P n own ops with
  | some p => some (.seq (.drawG p.1 p.2.1) (.ops p.2.2))
  | none =>
   match ct3 P n own ops with
   | some l => some (.draw l)
   | none =>
    match bq2 P n own ops with
    | some p => some (.drawS p.1 p.2)
    | none =>
     (da0 P n own ops).map fun p => .seq (.draw p.1) (.ops p.2)
 | .seq a b =>
  match resC P n own a, resC P n own b with
  | some x, some y => some (.seq x y)
  | _, _ => none
 | .cond c a b =>
  match aa8 c, resC P n own a, resC P n own b with
  | some z, some x, some y => some (.cond z x y)
  | _, _, _ => none
 | .block id c => (resC P n own c).map (.block id)
 | .loop c => (resC P n own c).map .loop
 | .rangeFunc f ps asg c =>
  match aa8 f, ps.toList, eh2 n asg, resC P n own c with
  | some z, [p], some (p', d), some x => if p = p' ∧ az0 c = true then some (.rangeFunc z p d x) else none
  | _, _, _, _ => none
 | .exit id => some (.exit id)
 | .ret => some .ret
 | .scope c => resC P n own c
 | .label _ => some .skip
 | _ => none
def dr7 : EV → Bool
 | .int _ _ | .bool _ | .str _ => true
 | _ => false
def scal : EV → Value
 | .int k n => .int k n
 | .bool b => .bool b
 | .str s => .string ⟨s.toArray⟩
 | _ => Go.undef
theorem dm2 {φ : Nat → Nat} {N : Nat} {I : Nat → Prop} {w : World} {x : EV} (h : dr7 x = true) : RV φ N I w x (scal x) := by
 cases x <;> simp [dr7] at h
 ·exact .bool _
 ·exact .int _ _
 ·exact .str _
def EB.isRow : EB → Bool
 | .row _ _ => true
 | _ => false
def cc2 (H : Heap) : Prop := ∀ (b : Nat) (x : EB), H[b]? = some (some x) → x.isRow = true
def KpI (I : Nat → Prop) (W W' : World) : Prop := ∀ B, I B → W'.heap[B]? = W.heap[B]?
def IterA (P : Program) (γ : Nat → EV) (g : FuncId) (cap : List EV) {α : Type} (enc : α → EV) (xs : List α) : Prop :=
 be9 P g ∧ ∀ (m : Nat) (φ : Nat → Nat) (I : Nat → Prop) (w : World) (lb : Array Value), RH γ φ I [] w → RCs φ 0 I w cap lb.toList →
  SeqStopsK (FR none) m P g lb (fun x => #[scal (enc x)]) (KpI I) (fun l => l = xs) (fun pre => pre <+: xs) xs.length w
def er6 (Q : AX → aa2 → Heap → Prop) (s : aa2) (Hn : Heap) (Jn whole : Prop) : AX → aa2 → Heap → Prop
 | .normal, _, H' => H' = Hn ∧ Jn
 | .ret, _, H' => (whole → Q .ret s H') ∧ cc2 H'
 | .exit id, _, H' => (whole → Q (.exit id) s H') ∧ cc2 H'
 | _, _, _ => False
def am6 (id : Nat) (Q : AX → aa2 → Heap → Prop) : AX → aa2 → Heap → Prop
 | .exit id', s, H => if id' = id then Q .normal s H else Q (.exit id') s H
 | x, s, H => Q x s H
def wpc (P : Program) (γ : Nat → EV) : EC → (AX → aa2 → Heap → Prop) → aa2 → Heap → Prop
 | .skip, Q, s, H => Q .normal s H
 | .ops l, Q, s, H => wops P γ Q l s H
 | .draw l, Q, s, H => wdr P γ Q l s H
 | .drawS _ _, _, _, _ => False
 | .drawG gs ds, Q, s, H => wdG P γ ds Q gs s H
 | .seq a b, Q, s, H => wpc P γ a (ba5 (fun s' H' => wpc P γ b Q s' H') Q) s H
 | .cond c a b, Q, s, H =>
  match ev γ s c with
  | .bool t => if t = true then wpc P γ a Q s H else wpc P γ b Q s H
  | _ => False
 | .block id c, Q, s, H => wpc P γ c (am6 id Q) s H
 | .loop c, Q, s, H => ∃ (Inv : Nat → aa2 → Heap → Prop) (m0 : Nat) (s0 : aa2), (∀ t, s0 t = .undef ∨ s0 t = s t) ∧ Inv m0 s0 H ∧ ∀ m s' H', Inv m s' H' →
   wpc P γ c (ba5 (fun s1 H1 => ∃ m1 s2 L, m1 < m ∧ H.length ≤ L ∧ cj9 L s1 H1 s2 ∧ Inv m1 s2 (H1.take L)) Q) s' H'
 | .rangeFunc f p d c, Q, s, H => ∃ (α : Type) (enc : α → EV) (g : FuncId) (cap : List EV) (xs : List α) (Hs : List α → Heap) (J : List α → Prop),
   ev γ s f = .func (.func g) [] cap ∧ okL 0 cap = true ∧ IterA P γ g cap enc xs ∧ (∀ x, dr7 (enc x) = true) ∧ Hs [] = H ∧ J [] ∧ (∀ pre, cc2 (Hs pre)) ∧
   (∀ pre x, pre.length < xs.length → J pre → wpc P γ c (er6 Q s (Hs (pre ++ [x])) (J (pre ++ [x])) (pre ++ [x] <+: xs)) (upd (upd s p (enc x)) d (enc x)) (Hs pre)) ∧ (J xs → Q .normal s (Hs xs))
 | .exit id, Q, s, H => Q (.exit id) s H
 | .ret, Q, s, H => Q .ret s H
section
variable {P : Program} {γ : Nat → EV} {n : Nat} {nb : NB} {φ φ0 : Nat → Nat} {I I0 : Nat → Prop} {s : aa2} {H H0 : Heap} {a : Act} {w w0 : World}
theorem ba8 {next : aa2 → Heap → Prop} {Q : AX → aa2 → Heap → Prop} {K : Act → World → Prop} {Qc : Exit → Act → World → Prop}
  (hn : ∀ φ' I' s' H' a' w', Evo φ I H w φ' I' H' w' → Rel γ n nb φ' I' s' H' a' w' → next s' H' → K a' w')
  (hq : ∀ e a' w', e ≠ .normal → Post γ n nb φ I H w Q e a' w' → Qc e a' w') {e : Exit} {a' : Act} {w' : World} (h : Post γ n nb φ I H w (ba5 next Q) e a' w') : Exit.then K Qc e a' w' := by
 obtain ⟨φ', I', s', H', x, h1, h2, h3, h4⟩ := h
 cases h3 with
 | normal => exact hn φ' I' s' H' a' w' h1 h2 h4
 | exit id => exact hq _ _ _ (by simp) ⟨φ', I', s', H', _, h1, h2, .exit id, h4⟩
 | ret => exact hq _ _ _ (by simp) ⟨φ', I', s', H', _, h1, h2, .ret, h4⟩
 | panic x v hv => exact hq _ _ _ (by simp) ⟨φ', I', s', H', _, h1, h2, .panic x v hv, h4⟩
def Rng (γ : Nat → EV) (φ : Nat → Nat) (I : Nat → Prop) (H : Heap) (w : World) (C : Heap → Prop) (W : World) : Prop :=
 ∃ φ' I' H', Evo φ I H w φ' I' H' W ∧ RH γ φ' I' H' W ∧ (∀ B, I' B → B < w.heap.size ∨ ∃ c T fr, W.heap[B]? = some (.cells c T fr)) ∧ cc2 H' ∧ C H'
theorem Rng.grown {C : Heap → Prop} {W W' : World} {row : Option Nat} (h : Rng γ φ I H w C W) (hg : W.grownBy W' row) (hr : ∀ r, row = some r → w.heap.size ≤ r ∧ ∃ o : Obj, W.heap[r]? = some o ∧ o.isCells = false) :
  Rng γ φ I H w C W' := by
 obtain ⟨φ', I', H', h1, h2, h3, h4, h5⟩ := h
 have same : ∀ B, B < W.heap.size → (B < w.heap.size ∨ ∃ c T fr, W.heap[B]? = some (.cells c T fr)) → W'.heap[B]? = W.heap[B]? := fun B hB hc => by
  refine hg.block B hB fun e => ?_
  obtain ⟨g1, o, g2, g3⟩ := hr B e.symm
  rcases hc with hc | ⟨c, T, fr, hc⟩
  ·omega
  ·rw [hc] at g2
   simp only [Option.some.injEq] at g2
   subst g2
   simp [Obj.isCells] at g3
 have old : ∀ B, B < w.heap.size → W'.heap[B]? = W.heap[B]? := fun B hB => same B (Nat.lt_of_lt_of_le hB h1.size) (.inl hB)
 have imm : ∀ B, I' B → W'.heap[B]? = W.heap[B]? := fun B hB => same B (h2.imm B hB) (h3 B hB)
 have shp : ∀ B T n, W.shape? B = some (T, n) → W'.shape? B = some (T, n) := fun B T n hs => by
  have hlt := au9 hs
  have : W'.heap[B]? = W.heap[B]? := same B hlt (by
   unfold World.shape? at hs
   split at hs
   ·rename_i c T' fr hc; exact .inr ⟨_, _, _, hc⟩
   ·simp at hs)
  rw [← hs]
  unfold World.shape?
  rw [this]
 have blk : ∀ (b : Nat) (x : EB), H'[b]? = some (some x) → W'.heap[φ' b]? = W.heap[φ' b]? := fun b x hb => by
  refine same _ (h2.lt b x hb) ?_
  cases x with
  | row sz es =>
   obtain ⟨c, T, g1, _⟩ := h2.blk b _ hb
   exact .inr ⟨_, _, _, g1⟩
  | _ => exact absurd (h4 b _ hb) (by simp [EB.isRow])
 have mono : ∀ {N : Nat} {x : EV} {v : Value}, RV φ' N I' W x v → RV φ' N I' W' x v := fun h =>
  h.mono (Nat.le_refl _) (fun _ _ => rfl) (fun _ h => h) imm (fun b _ T n hs => shp _ T n hs)
 refine ⟨φ', I', H', ⟨Nat.le_trans h1.size hg.size, fun B hB => ?_, fun B hB hn => (old B hB).trans (h1.keep B hB hn), h1.imm, h1.phi, h1.len, h1.own, h1.immf, hg.tape.trans h1.tape, hg.os.trans h1.os, hg.output.trans h1.out, fun a ha => ?_⟩,
  ⟨fun g => mono (h2.glob g), fun b x hb => (h2.blk b x hb).mono (Nat.le_refl _) (fun _ _ => rfl) (fun _ h => h) imm (fun b _ T n hs => shp _ T n hs) (blk b x hb), h2.inj, fun B hB => Nat.lt_of_lt_of_le (h2.imm B hB) hg.size, h2.dis, fun b x hb => Nat.lt_of_lt_of_le (h2.lt b x hb) hg.size⟩,
  fun B hB => ?_, h4, h5⟩
 ·rw [← h1.shape B hB]
  unfold World.shape?
  rw [old B hB]
 ·rw [← h1.froz a ha]
  unfold World.frozen?
  rw [old _ ha]
 ·rcases h3 B hB with h | h
  ·exact .inl h
  ·exact .inr (by rw [imm B hB]; exact h)
theorem RV.cut {D : Nat → Prop} {N : Nat} {x : EV} {v : Value} (h : RV φ N I w x v) (hD : ∀ B c T fr, w.heap[B]? = some (.cells c T fr) → D B) : RV φ N (fun B => I B ∧ D B) w x v := by
 induction h with
 | undef v => exact .undef v
 | bool b => exact .bool b
 | int k n => exact .int k n
 | str s => exact .str s
 | nilptr => exact .nilptr
 | ptr b sz i j hb => exact .ptr b sz i j hb
 | iptr cells j B o c T fr hI hb hs' _ ih => exact .iptr cells j B o c T fr ⟨hI, hD B c T fr hb⟩ hb hs' ih
 | nilsl => exact .nilsl
 | zsl a => exact .zsl a
 | imm sz es B o cap c T fr hI hb hs' hc hz _ ih => exact .imm sz es B o cap c T fr ⟨hI, hD B c T fr hb⟩ hb hs' hc hz ih
 | imm0 sz a => exact .imm0 sz a
 | own0 b sz off a hb => exact .own0 b sz off a hb
 | own b sz off len cap n T hb hsh hn hc => exact .own b sz off len cap n T hb hsh hn hc
 | nilfn => exact .nilfn
 | func f first cap vf vc h1 h2 _ _ ih1 ih2 => exact .func f first cap vf vc h1 h2 ih1 ih2
 | nilif => exact .nilif
 | iface t x v _ ih => exact .iface t x v ih
 | nilmap => exact .nilmap
 | map b hb => exact .map b hb
 | agg cs vs hl _ ih => exact .agg cs vs hl ih
 | tup cs vs hl _ ih => exact .tup cs vs hl ih
theorem RH.cut {D : Nat → Prop} (h : RH γ φ I H w) (hD : ∀ B c T fr, w.heap[B]? = some (.cells c T fr) → D B) : RH γ φ (fun B => I B ∧ D B) H w where
 glob g := (h.glob g).cut hD
 blk b x hb := by
  have := h.blk b x hb
  cases x with
  | row sz es =>
   obtain ⟨c, T, h1, h2, h3, h4⟩ := this
   exact ⟨c, T, h1, h2, h3, fun i j e x v he hx hv => (h4 i j e x v he hx hv).cut hD⟩
  | map es =>
   obtain ⟨ms, clock, h1, h2, h3⟩ := this
   exact ⟨ms, clock, h1, h2, fun i e m he hm => ⟨(h3 i e m he hm).1.cut hD, (h3 i e m he hm).2.cut hD⟩⟩
  | it s p => exact this
 inj := h.inj
 imm B hB := h.imm B hB.1
 dis b x hb hB := h.dis b x hb hB.1
 lt := h.lt
theorem Rng.step {C : Heap → Prop} {φ' : Nat → Nat} {I' : Nat → Prop} {H' : Heap} {W : World} (hr : RH γ φ I H w) (h1 : Evo φ I H w φ' I' H' W) (h2 : RH γ φ' I' H' W) (h4 : cc2 H') (h5 : C H') : Rng γ φ I H w C W :=
 ⟨φ', fun B => I' B ∧ (B < w.heap.size ∨ ∃ c T fr, W.heap[B]? = some (.cells c T fr)), H',
  ⟨h1.size, h1.shape, h1.keep, fun B hB => ⟨h1.imm B hB, .inl (hr.imm B hB)⟩, h1.phi, h1.len, h1.own, fun B hB => h1.immf B hB.1, h1.tape, h1.os, h1.out, h1.froz⟩,
  h2.cut fun B c T fr hc => .inr ⟨c, T, fr, hc⟩, fun B hB => hB.2, h4, h5⟩
theorem dh6 {φ' : Nat → Nat} {I' : Nat → Prop} {H' : Heap} {w' : World} (hr : RH γ φ I H w) (hm : cc2 H) (h : Evo φ I H w φ' I' H' w') : KeepsOthers w w' := by
 refine ⟨h.size, fun k o hk ho => ?_⟩
 refine (h.keep k (Array.getElem?_eq_some_iff.1 hk).1 ?_).trans hk
 rintro ⟨b, x, hb, rfl⟩
 cases x with
 | row sz es =>
  obtain ⟨c, T, g1, _⟩ := hr.blk b _ hb
  rw [g1] at hk
  simp only [Option.some.injEq] at hk
  subst hk
  simp [Obj.isCells] at ho
 | _ => exact absurd (hm b _ hb) (by simp [EB.isRow])
def er5 (Q : AX → aa2 → Heap → Prop) (s : aa2) (whole : Prop) : Code → Heap → Prop
 | .ret, H' => whole → Q .ret s H'
 | .exit id, H' => whole → Q (.exit id) s H'
 | _, _ => False
theorem dj5 {asg : Code} {p d : Nat} (h : eh2 n asg = some (p, d)) : ∃ id ops o, asg = .region id ops false ∧ ops.toList = [o] ∧ o.op = .assign (.tmp p) ∧ o.dst = some d ∧ o.guard = none ∧ p < n ∧ d < n := by
 unfold eh2 at h
 split at h
 ·rename_i id ops
  split at h
  ·rename_i o ho
   split at h
   ·rename_i p' d' h1 h2 h3
    split at h
    ·rename_i hlt
     simp only [Option.some.injEq, Prod.mk.injEq] at h
     obtain ⟨rfl, rfl⟩ := h
     exact ⟨id, ops, o, rfl, ho, h1, h2, h3, hlt.1, hlt.2⟩
    ·simp at h
   ·simp at h
  ·simp at h
 ·simp at h
theorem after {φ' : Nat → Nat} {I' : Nat → Prop} {H' : Heap} {W : World} {D : Nat} (hst : nb.strict = false) (hR : Rel γ n nb φ I s H a w) (e1 : Evo φ I H w φ' I' H' W) (e2 : RH γ φ' I' H' W)
  (e3 : ∀ B, I' B → B < w.heap.size ∨ ∃ c T fr, W.heap[B]? = some (.cells c T fr)) (e4 : cc2 H') (hD : w.heap.size ≤ D) (hDW : W.heap[D]? = some (.deferred (some []))) :
  Rel γ n nb φ' I' s H' { a with defers := mark D :: a.defers } W := by
 refine ⟨hR.sz, fun t => e1.rv hR.heap (hR.slots t), e2, ?_⟩
 obtain ⟨k0, Ds, k1, k2, k3⟩ := hR.defers.evo e1
 have old := hR.defers
 obtain ⟨j0, Ds', j1, j2, j3⟩ := old
 have hinj : ∀ (l l' : List Nat), l.map mark = l'.map mark → l = l' := by
  intro l
  induction l with
  | nil => intro l' h; cases l' <;> simp at h ⊢
  | cons x l ih => intro l' h; cases l' with
   | nil => simp at h
   | cons y l' =>
    simp only [List.map_cons, List.cons.injEq] at h
    have hx : x = y := by have := h.1; simp [mark] at this; exact this
    rw [hx, ih l' h.2]
 have hDs : Ds' = Ds := hinj _ _ (List.append_cancel_right (j1.symm.trans k1))
 subst hDs
 refine ⟨k0, D :: Ds', by simp [k1], List.nodup_cons.2 ⟨fun hm => ?_, k2⟩, fun B hB => ?_⟩
 ·have := (Array.getElem?_eq_some_iff.1 (j3 D hm).2.1).1
  omega
 ·rcases List.mem_cons.1 hB with rfl | hB
  ·refine ⟨⟨by omega, hst⟩, hDW, ?_, fun hI => ?_⟩
   ·rintro ⟨b, x, hb, rfl⟩
    cases x with
    | row sz es =>
     obtain ⟨c, T, g1, _⟩ := e2.blk b _ hb
     rw [g1] at hDW
     simp at hDW
    | _ => exact absurd (e4 b _ hb) (by simp [EB.isRow])
   ·rcases e3 _ hI with h | ⟨c, T, fr, h⟩
    ·omega
    ·rw [h] at hDW; simp at hDW
  ·exact k3 B hB
theorem ct4 {m : Nat} (h1 : 1 ≤ m) (hst : nb.strict = false) {f : Operand} {z : EOpd} {ps : Array Tmp} {p d : Nat} {asg c : Code} {ec : EC} {Q : AX → aa2 → Heap → Prop} (hz : aa8 f = some z) (hps : ps.toList = [p]) (hasg : eh2 n asg = some (p, d))
  (hR : Rel γ n nb φ I s H a w)
  (ih : ∀ (l : Nat) (Q : AX → aa2 → Heap → Prop) (φ : Nat → Nat) (I : Nat → Prop) (s : aa2) (H : Heap) (a : Act) (w : World), Rel γ n 0 φ I s H a w → wpc P γ ec Q s H → c.wpIn (FR (some l)) (m - 1 - 1) P (Post γ n 0 φ I H w Q) a w)
  (h : wpc P γ (.rangeFunc z p d ec) Q s H) : (Code.rangeFunc f ps asg c).wpIn (FR none) m P (Post γ n nb φ I H w Q) a w := by
 obtain ⟨α, enc, g, cap, xs, Hs, J, hf, hcap, hit, hsc, h0, hJ0, hnm, hbody, hdone⟩ := h
 obtain ⟨id, ops, o, rfl, hops, hop, hdst, hgd, hpn, hdn⟩ := dj5 hasg
 have hps' : ps = #[p] := by cases ps; simp_all
 subst hps'
 have rf := ab5 hR hz
 rw [hf] at rf
 generalize hva : a.eval f = vf at rf
 cases rf with
 | func _ _ _ vfst vcap l1 l2 l3 l4 =>
 have hv0 : vfst = #[] := by
  have : vfst.size = 0 := by simpa using l1.symm
  exact Array.eq_empty_of_size_eq_zero this
 subst hv0
 have hr := hR.heap
 subst h0
 have hseq := hit.2 (m - 1) φ I w vcap ⟨hr.glob, by simp, by simp, hr.imm, by simp, by simp⟩ ⟨by simpa using l2, fun k x v hx hv => (l4 k x v hx (by simpa using hv)).trunc (ah6.1 hcap x (List.mem_of_getElem? hx))⟩
 have hRng0 : Rng γ φ I (Hs []) w (fun H' => H' = Hs [] ∧ J []) w := Rng.step hr (.refl ..) hr (hnm []) ⟨rfl, hJ0⟩
 refine wpIn_rangeFunc_ownF (F := FR none) (w0 := w) rfl h1 hva trivial (bm1 hit.1) hseq (fun h k B hB => (k B hB).trans (h B hB)) (fun W l o o' hl _ _ _ B hB => ?_) (.refl ..) (fun x => rfl)
  (fun pre W => Rng γ φ I (Hs []) w (fun H' => H' = Hs pre ∧ J pre) W) (fun c pre W => Rng γ φ I (Hs []) w (er5 Q s (pre <+: xs) c) W) (fun s W W' row h hg hrow => h.grown hg hrow) (fun c s W W' row h hg hrow => h.grown hg hrow) hRng0
  (fun x => ({ tmps := a.tmps.setIfInBounds p (scal (enc x)), defers := [] } : Act).put (some d) (scal (enc x))) ?_ ?_ ?_ ?_
 ·refine World.putObj_heap_other ?_
  have := hr.imm B hB
  omega
 ·-- the assignment
  intro l x W K hK
  refine wpIn_region_list ?_
  rw [hops]
  have hw : ∀ t, Region.wanted o (yielded ops t) = true := fun t => by simp [Region.wanted, hgd]
  simp only [wpListIn, hw, if_true]
  refine opIn (r := some l) (fun c e => by rw [hop] at e; simp at e) ?_
  unfold Oper.wp
  have hrun : ∀ (ρ : Operand → Value), (execOp ρ o).run P W = .ok (.value (ρ (.tmp p))) W := fun ρ => by unfold execOp; rw [hop]; rfl
  rw [hrun, Oper.upon_value, hdst]
  have hpa : p < a.tmps.size := by rw [hR.sz]; exact hpn
  have hev : ((({ tmps := ((#[p]).zip #[scal (enc x)]).foldl (fun t (q : Tmp × Value) => t.setIfInBounds q.1 q.2) a.tmps, defers := [] } : Act).eval (.tmp p))) = scal (enc x) := by
   simp [Act.eval, hpa]
  rw [hev]
  have hfold : (Array.foldl (fun t (x : Tmp × Value) => t.setIfInBounds x.fst x.snd) a.tmps (#[p].zip #[scal (enc x)])) = a.tmps.setIfInBounds p (scal (enc x)) := by simp
  show K _ W
  rw [hfold]
  exact hK
 ·-- a round
  rintro l pre x W ⟨φ', I', H', e1, e2, e3, e4, rfl, hJ⟩ hlen
  have hb := hbody pre x hlen hJ
  have hRb : Rel γ n 0 φ' I' (upd (upd s p (enc x)) d (enc x)) (Hs pre) (({ tmps := a.tmps.setIfInBounds p (scal (enc x)), defers := [] } : Act).put (some d) (scal (enc x))) W := by
   refine ⟨by simp [Act.put, hR.sz], fun t => ?_, e2, .none (Nat.zero_le _)⟩
   simp only [upd, Act.put]
   have hsz := hR.sz
   by_cases ht : t = d
   ·subst ht
    rw [if_pos rfl]
    simp [hsz, hdn, dm2 (hsc x)]
   ·rw [if_neg ht]
    by_cases ht2 : t = p
    ·subst ht2
     rw [if_pos rfl]
     simp only [Array.getD_eq_getD_getElem?, Array.getElem?_setIfInBounds_ne (Ne.symm ht)]
     simp [hsz, hpn, dm2 (hsc x)]
    ·rw [if_neg ht2]
     have := e1.rv hr (hR.slots t)
     simp only [Array.getD_eq_getD_getElem?, Array.getElem?_setIfInBounds_ne (Ne.symm ht), Array.getElem?_setIfInBounds_ne (Ne.symm ht2)] at this ⊢
     exact this
  refine wpIn_mono (ih l _ φ' I' _ _ _ W hRb hb) fun e a' W' hp => ?_
  obtain ⟨φ2, I2, s2, H2, y, g1, g2, g3, g4⟩ := hp
  have hko := dh6 e2 (hnm pre) g1
  have hkp : KpI I W W' := fun B hB => by
   have hB' := e1.imm B hB
   exact g1.keep B (e2.imm B hB') fun ⟨b, y, hb, e⟩ => e2.dis b y hb (e ▸ hB')
  cases g3 with
  | normal =>
   obtain ⟨rfl, hJ'⟩ := g4
   exact ⟨hko, hkp, Rng.step hr (e1.trans g1) g2.heap (hnm _) ⟨rfl, hJ'⟩⟩
  | exit id' => exact ⟨hko, Rng.step hr (e1.trans g1) g2.heap g4.2 g4.1⟩
  | ret => exact ⟨hko, Rng.step hr (e1.trans g1) g2.heap g4.2 g4.1⟩
  | panic x v hv => exact g4.elim
 ·rintro D xs' W hD rfl ⟨φ', I', H', e1, e2, e3, e4, rfl, hJ⟩ hDW
  exact ⟨φ', I', s, _, .normal, e1, after hst hR e1 e2 e3 e4 hD hDW, .normal, hdone hJ⟩
 ·rintro D c pre W hD hpre ⟨φ', I', H', e1, e2, e3, e4, hX⟩ hDW
  cases c with
  | ret => exact wpIn_ret ⟨φ', I', s, H', .ret, e1, after hst hR e1 e2 e3 e4 hD hDW, .ret, hX hpre⟩
  | exit id' => exact wpIn_exit ⟨φ', I', s, H', .exit id', e1, after hst hR e1 e2 e3 e4 hD hDW, .exit id', hX hpre⟩
  | _ => exact hX.elim
theorem aw9 {P : Program} {b : Frame} {a : Act} {k : List Item} {cs : List Frame} {w : World} {c : Code} : step P (lone (b.atR a (.code (.scope c) :: k)) cs w) = .next (lone (b.atR a (.code c :: .inScope c :: k)) cs w) :=
 step_lone_go (by simp [Go.stepG, Go.stepG.exec, Frame.atR])
theorem ch2 {P : Program} {b : Frame} {a : Act} {k : List Item} {cs : List Frame} {w : World} {c : Code} : step P (lone (b.atR a (.inScope c :: k)) cs w) = .next (lone (b.atR a k) cs w) :=
 step_lone_go (by simp [Go.stepG, Go.stepG.exec, Frame.atR])
theorem cc5 {F : Fence} {n : Nat} {P : Program} {Q : Exit → Act → World → Prop} {a : Act} {w : World} {c : Code} (h : c.wpIn F n P Q a w) (hg : ∀ l a w, ¬ Q (.goto l) a w) : (Code.scope c).wpIn F n P Q a w := by
 intro b k cs hro hb hr
 have h0 : (lone (b.atR a (.code (.scope c) :: k)) cs w).fenced P F := fenced_calm hb hr rfl
 obtain ⟨e, a₁, w₁, hq, harr⟩ := h b (.inScope c :: k) cs hro hb hr
 cases e with
 | normal => exact ⟨.normal, a₁, w₁, hq, .head h0 aw9 (StepsIn.trans harr (.one (fenced_calm hb hr rfl) ch2))⟩
 | exit id =>
  have hx : exitTo id (.inScope c :: k) = exitTo id k := by simp [exitTo]
  exact ⟨_, a₁, w₁, hq, fun k' hk => .head h0 aw9 (harr.1 k' (by rw [hx]; exact hk)),
   fun hr' hk => let ⟨k₁, h1, h2⟩ := harr.2 hr' (by rw [hx]; exact hk); ⟨k₁, h1, .head h0 aw9 h2⟩⟩
 | goto l => exact absurd hq (hg l a₁ w₁)
 | ret => exact ⟨_, a₁, w₁, hq, .of_steps (.one h0 aw9) harr⟩
 | panic ch => exact ⟨_, a₁, w₁, hq, .of_steps (.one h0 aw9) harr⟩
 | outgrown => exact ⟨_, a₁, w₁, hq, .of_steps (.one h0 aw9) harr⟩
theorem Post.noGoto {φ0 : Nat → Nat} {I0 : Nat → Prop} {Q : AX → aa2 → Heap → Prop} (l : Nat) (a' : Act) (w' : World) : ¬ Post γ n nb φ0 I0 H0 w0 Q (.goto l) a' w' := by
 rintro ⟨_, _, _, _, _, _, _, h3, _⟩
 cases h3
theorem ck0 {own : List Nat} : ∀ (c : Code) (ec : EC), resC P n own c = some ec → ∀ (r : Option Nat) (m : Nat) (nb : NB), ((r = none ∧ 1 ≤ m) ∧ nb.strict = false ∨ az0 c = true) → ∀ (Q : AX → aa2 → Heap → Prop) (φ : Nat → Nat) (I : Nat → Prop) (s : aa2) (H : Heap) (a : Act) (w : World),
  Rel γ n nb φ I s H a w → wpc P γ ec Q s H → c.wpIn (FR r) m P (Post γ n nb φ I H w Q) a w := by
 intro c
 induction c with
 | skip =>
  intro ec he r m nb hrm Q φ I s H a w hR h
  simp only [resC, Option.some.injEq] at he; subst he
  exact wpIn_skip ⟨φ, I, s, H, .normal, .refl .., hR, .normal, h⟩
 | region id ops draw =>
  intro ec he r m nb hrm Q φ I s H a w hR h
  cases draw with
  | true =>
   simp only [resC] at he
   by_cases hzF : ∃ z, bq3 P n own ops = some z
   ·obtain ⟨z, hzF⟩ := hzF
    rw [hzF] at he
    simp only [Option.some.injEq] at he; subst he
    have hz' := hzF
    unfold bq3 at hz'
    split at hz'
    case isFalse => simp at hz'
    unfold cz9 at hz'
    split at hz'
    case h_2 => simp at hz'
    rename_i l hl
    split at hz'
    case isFalse => simp at hz'
    rename_i hc
    simp only [Bool.and_eq_true] at hc
    simp only [Option.some.injEq] at hz'; subst hz'
    refine wpIn_region_any hc.1 (dy1 Post.noOut (ax2 hl) _ _ _ _ (cw8 (by rw [mkG_o, dl9]; exact hl) hc.2 hR ?_))
    simpa only [wpc] using h
   replace hzF : bq3 P n own ops = none := by
    cases hh : bq3 P n own ops with
    | none => rfl
    | some zs => exact absurd ⟨zs, hh⟩ hzF
   rw [hzF] at he
   simp only at he
   cases hz : ct3 P n own ops with
   | none =>
   rw [hz] at he
   by_cases hzS : ∃ zs, bq2 P n own ops = some zs
   ·obtain ⟨zs, hzS⟩ := hzS
    rw [hzS] at he
    simp only [Option.some.injEq] at he; subst he
    exact h.elim
   replace hzS : bq2 P n own ops = none := by
    cases hh : bq2 P n own ops with
    | none => rfl
    | some zs => exact absurd ⟨zs, hh⟩ hzS
   rw [hzS] at he
   simp only [Option.map_eq_some_iff] at he
   obtain ⟨z, hz', rfl⟩ := he
   unfold da0 at hz'
   split at hz'
   case h_2 => simp at hz'
   rename_i l hl
   split at hz'
   case isFalse => simp at hz'
   rename_i hc
   simp only [Bool.and_eq_true] at hc
   simp only [Option.some.injEq] at hz'; subst hz'
   refine wpIn_region_any hc.1 (dy1 Post.noOut (ax2 hl) _ _ _ _ (cw9 (by rw [dl8]; exact hl) hc.2 hR ?_))
   simpa only [wpc] using h
   | some z =>
   rw [hz] at he
   simp only [Option.some.injEq] at he; subst he
   unfold ct3 at hz
   split at hz
   case h_2 => simp at hz
   rename_i l hl
   split at hz
   case isFalse => simp at hz
   rename_i hc
   simp only [Bool.and_eq_true] at hc
   simp only [Option.some.injEq] at hz; subst hz
   refine wpIn_region_any hc.1 (dy1 Post.noOut (ax2 hl) _ _ _ _ (di2 hl hc.2 (fun i hi => ?_) (by simp) hR h))
   by_cases hlt : i < l.length
   ·simp only [List.getD_eq_getElem?_getD, List.getElem?_map, hlt, List.getElem?_eq_getElem, Option.map_some, Option.getD_some] at hi ⊢
    unfold di9 at hi
    split at hi
    ·rename_i f args hf; rw [hf]; rfl
    ·exact hi
   ·rw [List.getD_eq_getElem?_getD, List.getElem?_eq_none (by simpa using hlt)] at hi
    simp at hi
  | false =>
   simp only [resC, Option.map_eq_some_iff] at he
   obtain ⟨l, hl, rfl⟩ := he
   exact wpIn_region_list (dq9 Post.noOut _ (ax2 hl) _ _ (by8 ops.toList l hl φ I s H a w (.refl ..) hR h))
 | seq x y ihx ihy =>
  intro ec he r m nb hrm Q φ I s H a w hR h
  simp only [resC] at he
  split at he
  ·rename_i ex ey hx hy
   simp only [Option.some.injEq] at he; subst he
   refine wpIn_seq (wpIn_mono (ihx ex hx r m nb (hrm.imp (fun h => h) fun h => by simp only [az0, Bool.and_eq_true] at h; exact h.1) _ φ I s H a w hR h) fun e a' w' hp => ?_)
   refine ba8 (fun φ' I' s' H' a' w' h1 h2 h3 => ?_) (fun e a' w' _ hp => hp) hp
   exact wpIn_mono (ihy ey hy r m nb (hrm.imp (fun h => h) fun h => by simp only [az0, Bool.and_eq_true] at h; exact h.2) Q φ' I' s' H' a' w' h2 h3) fun e a'' w'' hp => hp.trans h1
  ·simp at he
 | cond c x y ihx ihy =>
  intro ec he r m nb hrm Q φ I s H a w hR h
  simp only [resC] at he
  split at he
  ·rename_i z ex ey hz hx hy
   simp only [Option.some.injEq] at he; subst he
   have rc := ab5 hR hz
   simp only [wpc] at h
   split at h
   case h_2 => exact h.elim
   rename_i t ht
   rw [ht] at rc
   generalize hva : a.eval c = vc at rc
   cases rc
   refine wpIn_cond hva ?_
   cases t with
   | true => exact ihx ex hx r m nb (hrm.imp (fun h => h) fun h => by simp only [az0, Bool.and_eq_true] at h; exact h.1) Q φ I s H a w hR (by simpa using h)
   | false => exact ihy ey hy r m nb (hrm.imp (fun h => h) fun h => by simp only [az0, Bool.and_eq_true] at h; exact h.2) Q φ I s H a w hR (by simpa using h)
  ·simp at he
 | block id c ih =>
  intro ec he r m nb hrm Q φ I s H a w hR h
  simp only [resC, Option.map_eq_some_iff] at he
  obtain ⟨x, hx, rfl⟩ := he
  refine wpIn_block (wpIn_mono (ih x hx r m nb (hrm.imp (fun h => h) fun h => by simpa only [az0] using h) _ φ I s H a w hR h) fun e a' w' hp => ?_)
  obtain ⟨φ', I', s', H', y, h1, h2, h3, h4⟩ := hp
  cases h3 with
  | normal => exact ⟨φ', I', s', H', _, h1, h2, .normal, h4⟩
  | exit id' =>
   simp only [Exit.inBlock]
   simp only [am6] at h4
   split
   ·rename_i e; rw [if_pos e] at h4; exact ⟨φ', I', s', H', _, h1, h2, .normal, h4⟩
   ·rename_i e; rw [if_neg e] at h4; exact ⟨φ', I', s', H', _, h1, h2, .exit id', h4⟩
  | ret => exact ⟨φ', I', s', H', _, h1, h2, .ret, h4⟩
  | panic x v hv => exact ⟨φ', I', s', H', _, h1, h2, .panic x v hv, h4⟩
 | loop c ih =>
  intro ec he r m nb hrm Q φ I s H a w hR h
  simp only [resC, Option.map_eq_some_iff] at he
  obtain ⟨x, hx, rfl⟩ := he
  obtain ⟨Inv, m0, s0, hs0, h0, hround⟩ := h
  have hR0 : Rel γ n nb φ I s0 H a w := ⟨hR.sz, fun t => by
   rcases hs0 t with e | e
   ·rw [e]; exact .undef _
   ·rw [e]; exact hR.slots t, hR.heap, hR.defers⟩
  refine bk1 (fun m a' w' => ∃ φ' I' s' H', Evo φ I H w φ' I' H' w' ∧ Rel γ n nb φ' I' s' H' a' w' ∧ Inv m s' H') m0 ⟨φ, I, s0, H, .refl .., hR0, h0⟩ ?_
  rintro mm a' w' ⟨φ', I', s', H', h1, h2, h3⟩
  refine wpIn_mono (ih x hx r m nb (hrm.imp (fun h => h) fun h => by simpa only [az0] using h) _ φ' I' s' H' a' w' h2 (hround mm s' H' h3)) fun e a'' w'' hp => ?_
  refine ba8 (fun φ2 I2 s2 H2 a2 w2 g1 g2 g3 => ?_) (fun e a3 w3 _ hp => hp.trans h1) hp
  obtain ⟨m1, s3, L, k1, k2, k3, k4⟩ := g3
  exact ⟨m1, k1, φ2, I2, s3, H2.take L, (h1.trans g1).take k2, g2.forget k3, k4⟩
 | rangeFunc f ps asg c _ ih =>
  intro ec he r m nb hrm Q φ I s H a w hR h
  have hr0 : (r = none ∧ 1 ≤ m) ∧ nb.strict = false := hrm.elim (fun h => h) fun h => by simp [az0] at h
  obtain ⟨⟨rfl, h1⟩, hst⟩ := hr0
  simp only [resC] at he
  split at he
  case h_2 => simp at he
  rename_i z p p' d ec' hz hps hasg hc
  split at he
  case isFalse => simp at he
  rename_i hpp
  obtain ⟨rfl, hplain⟩ := hpp
  simp only [Option.some.injEq] at he; subst he
  exact ct4 h1 hst hz hps hasg hR (fun l Q' φ' I' s' H' a' W hR' hw => ih ec' hc (some l) (m - 1 - 1) 0 (.inr hplain) Q' φ' I' s' H' a' W hR' hw) h
 | exit id =>
  intro ec he r m nb hrm Q φ I s H a w hR h
  simp only [resC, Option.some.injEq] at he; subst he
  exact wpIn_exit ⟨φ, I, s, H, .exit id, .refl .., hR, .exit id, h⟩
 | ret =>
  intro ec he r m nb hrm Q φ I s H a w hR h
  simp only [resC, Option.some.injEq] at he; subst he
  exact wpIn_ret ⟨φ, I, s, H, .ret, .refl .., hR, .ret, h⟩
 | scope c ih =>
  intro ec he r m nb hrm Q φ I s H a w hR h
  simp only [resC] at he
  exact cc5 (ih ec he r m nb (hrm.imp (fun h => h) fun h => by simpa only [az0] using h) _ φ I s H a w hR h) Post.noGoto
 | label l =>
  intro ec he r m nb hrm Q φ I s H a w hR h
  simp only [resC, Option.some.injEq] at he; subst he
  exact wpIn_label ⟨φ, I, s, H, .normal, .refl .., hR, .normal, h⟩
 | _ => intro ec he; simp [resC] at he
end
end Abs
