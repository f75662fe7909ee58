/- A part. -/
import Derived.Test.YtdcjkdgjlljodaaAbs11
set_option linter.all false
namespace Abs
open Go
inductive ER where
 | ret (v : EV)
 | pan (v : EV)
inductive AX where
 | normal
 | exit (id : Nat)
 | ret
 | panic (v : EV)
inductive XR (φ : Nat → Nat) (N : Nat) (I : Nat → Prop) (w : World) : AX → Exit → Prop where
 | normal : XR φ N I w .normal .normal
 | exit (id : Nat) : XR φ N I w (.exit id) (.exit id)
 | ret : XR φ N I w .ret .ret
 | panic (x : EV) (v : Value) (h : RV φ N I w x v) : XR φ N I w (.panic x) (.panic [{ v, recovered := false }])
inductive RE (φ : Nat → Nat) (N : Nat) (I : Nat → Prop) (w : World) : ER → Ending → Prop where
 | ret (x : EV) (v : Value) (h : RV φ N I w x v) : RE φ N I w (.ret x) (.returned v)
 | pan (x : EV) (v : Value) (h : RV φ N I w x v) : RE φ N I w (.pan x) (.panicked [{ v, recovered := false }])
def be9 (P : Program) (f : FuncId) : Prop := ∃ fn c, P.funcs[f]? = some fn ∧ fn.body = some c ∧ (fn.name == "runtime.NumGoroutine") = false
def CallsA (P : Program) (γ : Nat → EV) (f : FuncId) (args : List EV) (H : Heap) (R : ER → Heap → Prop) : Prop :=
 be9 P f ∧ ∀ (φ : Nat → Nat) (I : Nat → Prop) (w : World) (vs : Array Value), RH γ φ I H w → RCs φ H.length I w args vs.toList →
  Calls P f vs w fun e w' => ∃ φ' I' H' er, Evo φ I H w φ' I' H' w' ∧ RH γ φ' I' H' w' ∧ RE φ' H'.length I' w' er e ∧ R er H'
theorem CallsA.mono {P : Program} {γ : Nat → EV} {f : FuncId} {args : List EV} {H : Heap} {R R' : ER → Heap → Prop} (h : CallsA P γ f args H R) (hr : ∀ er H', R er H' → R' er H') :
  CallsA P γ f args H R' :=
 ⟨h.1, fun φ I w vs a b => (h.2 φ I w vs a b).mono fun _ _ ⟨φ', I', H', er, h1, h2, h3, h4⟩ => ⟨φ', I', H', er, h1, h2, h3, hr _ _ h4⟩⟩
def wop (P : Program) (γ : Nat → EV) (Qp : EV → Heap → Prop) (ρ : EOpd → EV) (H : Heap) (op : EOp) (K : EV → Heap → Prop) : Prop :=
 match op with
 | .call f args =>
  match ρ f with
  | .func (.func g) first cap => ∃ R, CallsA P γ g (first ++ args.map ρ ++ cap) H R ∧ ∀ er H', R er H' → match er with
   | .ret r => K r H'
   | .pan v => Qp v H'
  | _ => False
 | .panic x =>
  match ρ x with
  | .iface t v => Qp (.iface t v) H
  | _ => False
 | op =>
  match evOp ρ H op with
  | some (v, H') => K v H'
  | none => False
def upd (s : aa2) (d : Nat) (v : EV) (t : Nat) : EV := if t = d then v else s t
def putA (s : aa2) (dst : Option Nat) (v : EV) : aa2 :=
 match dst with
 | some d => upd s d v
 | none => s
def wops (P : Program) (γ : Nat → EV) (Q : AX → aa2 → Heap → Prop) : List EOper → aa2 → Heap → Prop
 | [], s, H => Q .normal s H
 | o :: rest, s, H =>
  match o.guard with
  | none => wop P γ (fun v H' => Q (.panic v) s H') (ev γ s) H o.op fun v H' => wops P γ Q rest (putA s o.dst v) H'
  | some (d, b) =>
   match s d with
   | .bool t =>
    if t = b then wop P γ (fun v H' => Q (.panic v) s H') (ev γ s) H o.op fun v H' => wops P γ Q rest (putA s o.dst v) H'
    else wops P γ Q rest (putA s o.dst (.tup [])) H
   | .tup [] => wops P γ Q rest (putA s o.dst (.tup [])) H
   | _ => False
section
variable {P : Program} {γ : Nat → EV} {n : Nat} {nb : NB} {φ φ0 : Nat → Nat} {I I0 : Nat → Prop} {s : aa2} {H H0 : Heap} {a : Act} {w w0 : World}
theorem cc9 {op : EOp} {H' : Heap} {v : EV} {Qp : EV → Heap → Prop} {ρ : EOpd → EV} {K : EV → Heap → Prop} (hev : evOp ρ H op = some (v, H')) (h : K v H') : wop P γ Qp ρ H op K := by
 unfold wop
 split
 ·simp [evOp] at hev
 ·simp [evOp] at hev
 ·rw [hev]; exact h
def Post (γ : Nat → EV) (n : Nat) (nb : NB) (φ : Nat → Nat) (I : Nat → Prop) (H : Heap) (w : World) (Q : AX → aa2 → Heap → Prop) (e : Exit) (a' : Act) (w' : World) : Prop :=
 ∃ φ' I' s' H' x, Evo φ I H w φ' I' H' w' ∧ Rel γ n nb φ' I' s' H' a' w' ∧ XR φ' H'.length I' w' x e ∧ Q x s' H'
theorem Post.trans {Q : AX → aa2 → Heap → Prop} {e : Exit} {a' : Act} {w' : World} (h : Evo φ0 I0 H0 w0 φ I H w) (g : Post γ n nb φ I H w Q e a' w') : Post γ n nb φ0 I0 H0 w0 Q e a' w' := by
 obtain ⟨φ', I', s', H', x, h1, h2, h3, h4⟩ := g
 exact ⟨φ', I', s', H', x, h.trans h1, h2, h3, h4⟩
theorem Post.mono {Q Q' : AX → aa2 → Heap → Prop} {e : Exit} {a' : Act} {w' : World} (hq : ∀ x s H, Q x s H → Q' x s H) (g : Post γ n nb φ I H w Q e a' w') : Post γ n nb φ I H w Q' e a' w' := by
 obtain ⟨φ', I', s', H', x, h1, h2, h3, h4⟩ := g
 exact ⟨φ', I', s', H', x, h1, h2, h3, hq _ _ _ h4⟩
theorem Rel.put (hR : Rel γ n nb φ I s H a w) {φ' : Nat → Nat} {I' : Nat → Prop} {H' : Heap} {w' : World} (he : Evo φ I H w φ' I' H' w') (hr : RH γ φ' I' H' w') {dst : Option Nat} (hd : ∀ d, dst = some d → d < n)
  {v : EV} {val : Value} (hv : RV φ' H'.length I' w' v val) : Rel γ n nb φ' I' (putA s dst v) H' (a.put dst val) w' := by
 cases dst with
 | none => exact ⟨hR.sz, fun t => he.rv hR.heap (hR.slots t), hr, hR.defers.evo he⟩
 | some d =>
  refine ⟨by simp [Act.put, hR.sz], fun t => ?_, hr, hR.defers.evo he⟩
  have hdn := hd d rfl
  simp only [putA, upd, Act.put]
  by_cases h : t = d
  ·subst h
   rw [if_pos rfl]
   simp [hR.sz, hdn, hv]
  ·rw [if_neg h]
   have := he.rv hR.heap (hR.slots t)
   simpa [Array.getElem?_setIfInBounds_ne (Ne.symm h)] using this
theorem ah7 {own : List Nat} {ops : Array Oper} {o : Oper} {eo : EOper} (h : ai5 P n own ops o = some eo) :
  (∃ b, ac7 P b o.op = some eo.op) ∧ eo.dst = o.dst ∧ (∀ d, o.dst = some d → d < n) ∧
   (match o.guard with | none => eo.guard = none | some (j, b) => ∃ d, (ops[j]?).bind (·.dst) = some d ∧ d < n ∧ eo.guard = some (d, b)) := by
 unfold ai5 at h
 split at h
 case h_2 => simp at h
 rename_i op g hop hg
 split at h
 case isFalse => simp at h
 rename_i hd
 simp only [Option.some.injEq] at h; subst h
 refine ⟨⟨_, hop⟩, rfl, fun d hd' => by rw [hd'] at hd; simpa [es6] using hd, ?_⟩
 cases ho : o.guard with
 | none => rw [ho] at hg; simpa [ch7] using hg.symm
 | some p =>
  obtain ⟨j, b⟩ := p
  rw [ho] at hg
  simp only [ch7] at hg
  split at hg
  ·rename_i d hd2
   split at hg
   ·rename_i hlt
    simp only [Option.some.injEq] at hg
    exact ⟨d, hd2, hlt, hg.symm⟩
   ·simp at hg
  ·simp at hg
theorem eb6 {b : Bool} {op : Op} {f : EOpd} {args : List EOpd} (h : ac7 P b op = some (.call f args)) :
  ∃ fo ao ats, op = .call { callee := .value fo, args := ao, argTypes := ats } ∧ aa8 fo = some f ∧ ao.toList.mapM aa8 = some args := by
 cases op with
 | call c =>
  obtain ⟨callee, ao, ats⟩ := c
  cases callee with
  | value fo =>
   simp only [ac7] at h
   split at h
   ·unfold ce0 at h
    exfalso
    (repeat' split at h) <;> simp at h
   ·simp only [Option.pure_def, Option.bind_eq_bind, Option.bind_eq_some_iff, Option.some.injEq, EOp.call.injEq] at h
    obtain ⟨e, he, es, hes, rfl, rfl⟩ := h
    exact ⟨fo, ao, ats, rfl, he, hes⟩
  | invoke r m => simp [ac7] at h
  | builtin bb =>
   exfalso
   cases bb <;> simp only [ac7] at h <;> first
    | (simp at h; done)
    | (simp [Option.bind_eq_some_iff] at h; done)
    | ((repeat' split at h) <;> simp [Option.bind_eq_some_iff] at h; done)
    | (simp only [Option.bind_eq_bind, Option.bind_eq_some_iff] at h; obtain ⟨_, _, _, _, _, _, _, _, h⟩ := h; (repeat' split at h) <;> simp [Option.bind_eq_some_iff] at h; done)
 | binOp op t x y ty =>
  exfalso
  simp only [ac7, cm3, bu4, Option.bind_eq_bind, Option.bind_eq_some_iff] at h
  obtain ⟨_, _, _, _, h⟩ := h
  (repeat' split at h) <;> simp [Option.map_eq_some_iff] at h
 | slice t x lo hi mx =>
  exfalso
  cases mx with
  | some m =>
   cases hi with
   | none => simp [ac7] at h
   | some hi =>
    simp only [ac7, Option.bind_eq_bind, Option.bind_eq_some_iff] at h
    obtain ⟨_, _, _, _, _, _, _, _, h⟩ := h
    (repeat' split at h) <;> simp [Option.bind_eq_some_iff] at h
  | none =>
   simp only [ac7, Option.bind_eq_bind, Option.bind_eq_some_iff] at h
   obtain ⟨_, _, _, _, _, _, h⟩ := h
   (repeat' split at h) <;> simp [Option.bind_eq_some_iff] at h
 | index t x i =>
  exfalso
  simp only [ac7, Option.bind_eq_bind, Option.bind_eq_some_iff] at h
  obtain ⟨_, _, _, _, h⟩ := h
  (repeat' split at h) <;> simp [Option.bind_eq_some_iff] at h
 | indexAddr t x i =>
  exfalso
  simp only [ac7, Option.bind_eq_bind, Option.bind_eq_some_iff] at h
  obtain ⟨_, _, _, _, h⟩ := h
  (repeat' split at h) <;> simp [Option.bind_eq_some_iff] at h
 | makeMap t r =>
  exfalso
  cases r <;> simp [ac7] at h
 | next x str =>
  exfalso
  cases str <;> simp [ac7, Option.bind_eq_some_iff] at h
 | _ =>
  exfalso
  first
   | (simp [ac7] at h; done)
   | (simp [ac7, Option.bind_eq_some_iff] at h; done)
   | (simp only [ac7, Option.bind_eq_bind] at h; (repeat' split at h) <;> simp [Option.bind_eq_some_iff] at h; done)
theorem dn0 {b : Bool} {op : Op} {x : EOpd} (h : ac7 P b op = some (.panic x)) : ∃ xo, op = .panic xo ∧ aa8 xo = some x := by
 cases op with
 | panic xo =>
  simp only [ac7, Option.pure_def, Option.bind_eq_bind, Option.bind_eq_some_iff, Option.some.injEq, EOp.panic.injEq] at h
  obtain ⟨e, he, rfl⟩ := h
  exact ⟨xo, rfl, he⟩
 | call c =>
  obtain ⟨callee, ao, ats⟩ := c
  exfalso
  cases callee with
  | value fo =>
   simp only [ac7] at h
   split at h
   ·unfold ce0 at h
    (repeat' split at h) <;> simp at h
   ·simp [Option.bind_eq_some_iff] at h
  | invoke r m => simp [ac7] at h
  | builtin bb =>
   cases bb <;> simp only [ac7] at h <;> first
    | (simp at h; done)
    | (simp [Option.bind_eq_some_iff] at h; done)
    | ((repeat' split at h) <;> simp [Option.bind_eq_some_iff] at h; done)
    | (simp only [Option.bind_eq_bind, Option.bind_eq_some_iff] at h; obtain ⟨_, _, _, _, _, _, _, _, h⟩ := h; (repeat' split at h) <;> simp [Option.bind_eq_some_iff] at h; done)
 | binOp op t x y ty =>
  exfalso
  simp only [ac7, cm3, bu4, Option.bind_eq_bind, Option.bind_eq_some_iff] at h
  obtain ⟨_, _, _, _, h⟩ := h
  (repeat' split at h) <;> simp [Option.map_eq_some_iff] at h
 | slice t x lo hi mx =>
  exfalso
  cases mx with
  | some m =>
   cases hi with
   | none => simp [ac7] at h
   | some hi =>
    simp only [ac7, Option.bind_eq_bind, Option.bind_eq_some_iff] at h
    obtain ⟨_, _, _, _, _, _, _, _, h⟩ := h
    (repeat' split at h) <;> simp [Option.bind_eq_some_iff] at h
  | none =>
   simp only [ac7, Option.bind_eq_bind, Option.bind_eq_some_iff] at h
   obtain ⟨_, _, _, _, _, _, h⟩ := h
   (repeat' split at h) <;> simp [Option.bind_eq_some_iff] at h
 | index t x i =>
  exfalso
  simp only [ac7, Option.bind_eq_bind, Option.bind_eq_some_iff] at h
  obtain ⟨_, _, _, _, h⟩ := h
  (repeat' split at h) <;> simp [Option.bind_eq_some_iff] at h
 | indexAddr t x i =>
  exfalso
  simp only [ac7, Option.bind_eq_bind, Option.bind_eq_some_iff] at h
  obtain ⟨_, _, _, _, h⟩ := h
  (repeat' split at h) <;> simp [Option.bind_eq_some_iff] at h
 | makeMap t r =>
  exfalso
  cases r <;> simp [ac7] at h
 | next x str =>
  exfalso
  cases str <;> simp [ac7, Option.bind_eq_some_iff] at h
 | _ =>
  exfalso
  first
   | (simp [ac7] at h; done)
   | (simp [ac7, Option.bind_eq_some_iff] at h; done)
   | (simp only [ac7, Option.bind_eq_bind] at h; (repeat' split at h) <;> simp [Option.bind_eq_some_iff] at h; done)
theorem bm1 {f : FuncId} (h : be9 P f) (args : Array Value) (w : World) : (callFunc f args).run P w = .ok (.enter f args) w := by
 obtain ⟨fn, c, h1, h2, h3⟩ := h
 simp only [callFunc, Sem.run_bind, run_program, Result.andThen_ok, h1, h3, h2]
 rfl
theorem eo1 {f : Operand} {args : Array Operand} {ats : Array TypeId} {o : Oper} (ho : o.op = .call { callee := .value f, args, argTypes := ats }) :
  execOp a.eval o = (do let d ← Deferred.ofValue (a.eval f) (args.map a.eval); invoke d.target d.args) := by
 unfold execOp
 rw [ho]
 rfl
theorem bm4 {Q : AX → aa2 → Heap → Prop} (hR : Rel γ n nb φ I s H a w) {o : Oper} {b : Bool} {eo : EOp} (hres : ac7 P b o.op = some eo) (hd : ∀ d, o.dst = some d → d < n) {K : EV → Heap → Prop}
  (h : wop P γ (fun v H' => Q (.panic v) s H') (ev γ s) H eo K) :
  o.wp P a w (fun a' w' => ∃ φ' I' H' v, Evo φ I H w φ' I' H' w' ∧ Rel γ n nb φ' I' (putA s o.dst v) H' a' w' ∧ K v H' ∧ ∃ val, a' = a.put o.dst val ∧ RV φ' H'.length I' w' v val) (Post γ n nb φ I H w Q) := by
 have plain : (∃ v H', evOp (ev γ s) H eo = some (v, H') ∧ K v H') →
   o.wp P a w (fun a' w' => ∃ φ' I' H' v, Evo φ I H w φ' I' H' w' ∧ Rel γ n nb φ' I' (putA s o.dst v) H' a' w' ∧ K v H' ∧ ∃ val, a' = a.put o.dst val ∧ RV φ' H'.length I' w' v val) (Post γ n nb φ I H w Q) := by
  rintro ⟨v, H', h1, h2⟩
  obtain ⟨φ', I', w', e1, e2, e3⟩ := dh7 hR hres h1
  unfold Oper.wp
  rcases e3 with ⟨val, e3, e4⟩ | ⟨e3, rfl⟩
  ·rw [e3, Oper.upon_value]
   exact ⟨φ', I', H', v, e1, hR.put e1 e2 hd e4, h2, val, rfl, e4⟩
  ·rw [e3, Oper.upon_skip]
   exact ⟨φ', I', H', _, e1, hR.put e1 e2 hd (.undef _), h2, _, rfl, .undef _⟩
 unfold wop at h
 split at h
 ·rename_i f args
  split at h
  ·rename_i g first cap hf
   obtain ⟨R, hc, hk⟩ := h
   have hop := eb6 hres
   obtain ⟨fo, ao, ats, ho, hfo, hao⟩ := hop
   have rf := ab5 hR hfo
   rw [hf] at rf
   generalize hva : a.eval fo = vf at rf
   cases rf with
   | func _ _ _ vfst vcap l1 l2 l3 l4 =>
   obtain ⟨o1, o2⟩ := bm6 hR hao
   unfold Oper.wp
   have hrun : (execOp a.eval o).run P w = .ok (.enter g (vfst ++ ao.map a.eval ++ vcap)) w := by
    rw [eo1 ho, hva]
    simp [Deferred.ofValue, invoke, bm1 hc.1]
   rw [hrun, Oper.upon_enter]
   refine (hc.2 φ I w _ hR.heap ⟨by simp [l1, l2, o1], fun k x v hx hv => ?_⟩).mono fun e w' he => ?_
   ·simp only [Array.toList_append] at hv
    by_cases k1 : k < first.length
    ·rw [List.append_assoc, List.getElem?_append_left k1] at hx
     rw [List.append_assoc, List.getElem?_append_left (by simp; omega)] at hv
     exact l3 k x v hx (by simpa using hv)
    ·rw [List.append_assoc, List.getElem?_append_right (by omega)] at hx
     rw [List.append_assoc, List.getElem?_append_right (by simp; omega)] at hv
     have e1 : vfst.toList.length = first.length := by simp [l1]
     rw [e1] at hv
     by_cases k2 : k - first.length < (args.map (ev γ s)).length
     ·rw [List.getElem?_append_left k2] at hx
      rw [List.getElem?_append_left (by rw [o1] at k2; simpa using k2)] at hv
      exact o2 _ x v hx (by simpa using hv)
     ·rw [List.getElem?_append_right (by omega)] at hx
      rw [List.getElem?_append_right (by rw [o1] at k2; simpa using k2)] at hv
      have e2 : (ao.map a.eval).toList.length = (args.map (ev γ s)).length := by simpa using o1.symm
      rw [e2] at hv
      exact l4 _ x v hx (by simpa using hv)
   ·obtain ⟨φ', I', H', er, h1, h2, h3, h4⟩ := he
    have := hk er H' h4
    cases h3 with
    | ret x v hv => exact ⟨φ', I', H', x, h1, hR.put h1 h2 hd hv, this, v, rfl, hv⟩
    | pan x v hv => exact ⟨φ', I', s, H', .panic x, h1, hR.put (dst := none) (v := .undef) (val := Go.undef) h1 h2 (by simp) (.undef _), .panic x v hv, this⟩
  ·exact h.elim
 ·rename_i x
  split at h
  ·rename_i t v hx
   obtain ⟨xo, ho, hxo⟩ := dn0 hres
   have rx := ab5 hR hxo
   rw [hx] at rx
   generalize hva : a.eval xo = vx at rx
   cases rx with
   | iface _ _ u hu =>
   unfold Oper.wp
   have hrun : (execOp a.eval o).run P w = .halt (.panic (.iface t u)) w := by
    unfold execOp
    rw [ho]
    simp [hva, Instr.panic]
   rw [hrun, Oper.upon_panic]
   exact ⟨φ, I, s, H, .panic (.iface t v), .refl .., hR, .panic _ _ (.iface t v u hu), h⟩
  ·exact h.elim
 ·split at h
  ·rename_i v H' hev
   exact plain ⟨v, H', hev, h⟩
  ·exact h.elim
theorem bk2 {Q : AX → aa2 → Heap → Prop} (hR : Rel γ n nb φ I s H a w) {o : Oper} {b : Bool} {eo : EOp} (hres : ac7 P b o.op = some eo) (hd : ∀ d, o.dst = some d → d < n) {K : EV → Heap → Prop}
  (h : wop P γ (fun v H' => Q (.panic v) s H') (ev γ s) H eo K) :
  o.wp P a w (fun a' w' => ∃ φ' I' H' v, Evo φ I H w φ' I' H' w' ∧ Rel γ n nb φ' I' (putA s o.dst v) H' a' w' ∧ K v H') (Post γ n nb φ I H w Q) :=
 Oper.wp_mono (fun _ _ ⟨φ', I', H', v, e1, e2, e3, _⟩ => ⟨φ', I', H', v, e1, e2, e3⟩) (bm4 hR hres hd h)
theorem bl2 {o : Oper} {K : Act → World → Prop} {Q Q' : Exit → Act → World → Prop} (hq : ∀ e a' w', Q e a' w' → Q' e a' w') (h : o.wp P a w K Q) : o.wp P a w K Q' := by
 unfold Oper.wp at *
 generalize (execOp a.eval o).run P w = r at *
 cases r with
 | ok x w' =>
  cases x <;> simp only [Oper.upon] at h ⊢ <;> first
   | exact h
   | (refine Calls.mono h fun e w'' he => ?_
      cases e with
      | returned v => exact he
      | panicked c => exact hq _ _ _ he
      | outgrown => obtain ⟨a', w'', h'⟩ := he; exact ⟨a', w'', hq _ _ _ h'⟩)
 | halt x w' => cases x <;> simp only [Oper.upon] at h ⊢ <;> first | exact h | exact hq _ _ _ h
theorem bx8 {N : Nat} : RV φ N I w (.tup []) Go.undef := .tup [] #[] rfl (by simp)
theorem bo2 {ops : Array Oper} {j d : Nat} {N : Nat} (hj : (ops[j]?).bind (·.dst) = some d) (hdn : d < n) (hsz : a.tmps.size = n) (h : RV φ N I w (.tup []) (a.tmps.getD d Go.undef)) : yielded ops a.tmps j = none := by
 have hlt : d < a.tmps.size := by rw [hsz]; exact hdn
 have e : a.tmps.getD d Go.undef = a.tmps[d] := by simp [hlt]
 rw [e] at h
 generalize hv : a.tmps[d] = vd at h
 cases h
 simp [yielded, hj, hlt, hv]
theorem by8 {Q : AX → aa2 → Heap → Prop} {own : List Nat} {ops : Array Oper} : ∀ (l : List Oper) (es : List EOper), l.mapM (ai5 P n own ops) = some es →
  ∀ (φ : Nat → Nat) (I : Nat → Prop) (s : aa2) (H : Heap) (a : Act) (w : World), Evo φ0 I0 H0 w0 φ I H w → Rel γ n nb φ I s H a w → wops P γ Q es s H →
  wpList P ops (Post γ n nb φ0 I0 H0 w0 Q) l a w
 | [], es, he, φ, I, s, H, a, w, hev, hR, h => by
  simp at he; subst he
  exact ⟨φ, I, s, H, .normal, hev, hR, .normal, h⟩
 | o :: l, es, he, φ, I, s, H, a, w, hev, hR, h => by
  simp only [List.mapM_cons, Option.pure_def, Option.bind_eq_bind, Option.bind_eq_some_iff, Option.some.injEq] at he
  obtain ⟨eo, heo, es', hes, rfl⟩ := he
  obtain ⟨⟨b, hres⟩, hdst, hd, hg⟩ := ah7 heo
  have IH := by8 (Q := Q) l es' hes
  simp only [wops] at h
  have run : wop P γ (fun v H' => Q (.panic v) s H') (ev γ s) H eo.op (fun v H' => wops P γ Q es' (putA s eo.dst v) H') →
    o.wp P a w (wpList P ops (Post γ n nb φ0 I0 H0 w0 Q) l) (Post γ n nb φ0 I0 H0 w0 Q) := by
   intro h
   have := bk2 (Q := Q) hR hres hd h
   have h1 : o.wp P a w (wpList P ops (Post γ n nb φ0 I0 H0 w0 Q) l) (Post γ n nb φ I H w Q) := Oper.wp_mono (fun a' w' ⟨φ', I', H', v, e1, e2, e3⟩ =>
    IH φ' I' _ H' a' w' (hev.trans e1) (by rw [← hdst] at e2; exact e2) e3) this
   exact bl2 (fun e a' w' hp => Post.trans hev hp) h1
  have skip : wops P γ Q es' (putA s eo.dst (.tup [])) H → wpList P ops (Post γ n nb φ0 I0 H0 w0 Q) l (a.put o.dst Go.undef) w := fun h =>
   IH φ I _ H _ w hev (by rw [hdst]; exact hR.put (.refl ..) hR.heap hd bx8) h
  simp only [wpList]
  cases ho : o.guard with
  | none =>
   rw [ho] at hg
   rw [hg] at h
   rw [if_pos (by simp [Region.wanted, ho])]
   exact .inl (run h)
  | some p =>
   obtain ⟨j, b⟩ := p
   rw [ho] at hg
   obtain ⟨d, hj, hdn, hg⟩ := hg
   rw [hg] at h
   simp only at h
   split at h
   case h_3 => exact h.elim
   case h_2 ht =>
    have hsl := hR.slots d
    rw [ht] at hsl
    rw [if_neg (by simp [Region.wanted, ho, bo2 hj hdn hR.sz hsl])]
    exact skip h
   rename_i t ht
   have hsl := hR.slots d
   rw [ht] at hsl
   generalize hva : a.tmps.getD d Go.undef = vd at hsl
   cases hsl
   have hy : yielded ops a.tmps j = some t := by
    have hlt : d < a.tmps.size := by rw [hR.sz]; exact hdn
    have hv2 : a.tmps[d] = .bool t := by simpa [hlt] using hva
    simp [yielded, hj, hlt, hv2]
   split at h
   ·rename_i e
    subst e
    rw [if_pos (by simp [Region.wanted, ho, hy])]
    exact .inl (run h)
   ·rename_i e
    rw [if_neg (by simp [Region.wanted, ho, hy, e])]
    exact skip h
end
end Abs
