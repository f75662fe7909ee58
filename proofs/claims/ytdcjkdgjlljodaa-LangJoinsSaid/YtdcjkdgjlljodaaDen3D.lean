/- A part. -/
import Derived.Test.YtdcjkdgjlljodaaDen1
import Derived.RecoverIn
set_option linter.all false
namespace Abs
open Go
def da1 (P : Program) (n : Nat) (own : List Nat) : Code → Option (List EOper × EOpd × List EOpd)
 | .region _ ops false =>
  match ops.toList.reverse with
  | o :: rs =>
   match o.op, o.guard, o.dst with
   | .defer { callee := .value f, args, .. }, none, none =>
    match rs.reverse.mapM (ai5 P n own ops), aa8 f, args.toList.mapM aa8 with
    | some l, some f, some as => some (l, f, as)
    | _, _, _ => none
   | _, _, _ => none
  | [] => none
 | _ => none
def resF (P : Program) (n : Nat) (own : List Nat) : Code → Option EF
 | .seq a b =>
  match da1 P n own a with
  | some (l, f, as) => (resC P n own b).map (.dfr l f as)
  | none =>
   match resC P n own a, resF P n own b with
   | some x, some y => some (.pre x y)
   | _, _ => none
 | c => (resC P n own c).map .code
def resD (P : Program) (n : Nat) (own : List Nat) : Code → Option (Nat × Nat × EC)
 | .seq (.region _ ops false) c =>
  match ops.toList with
  | [o0, o1] =>
   match o0.op, o0.dst, o0.guard, o1.op, o1.dst, o1.guard with
   | .call { callee := .builtin .recover, .. }, some d0, none, .assign (.tmp t), some d1, none =>
    if t = d0 ∧ d0 < n ∧ d1 < n then (resC P n own c).map fun x => (d0, d1, x) else none
   | _, _, _, _, _, _ => none
  | _ => none
 | _ => none
def eq0 (P : Program) (f : FuncId) (ef : EF) (rs : List ERes) (nt : Nat) : Prop :=
 ∃ (fn : Func) (c : Code) (own : List Nat), P.funcs[f]? = some fn ∧ fn.body = some c ∧ (fn.name == "runtime.NumGoroutine") = false ∧ resF P nt own c = some ef ∧ fn.results.toList.mapM (bj5 P) = some rs ∧ fn.ntmps = nt
def ei6 (P : Program) (f : FuncId) (d0 d1 : Nat) (ec : EC) (nt : Nat) : Prop :=
 ∃ (fn : Func) (c : Code) (own : List Nat), P.funcs[f]? = some fn ∧ fn.body = some c ∧ (fn.name == "runtime.NumGoroutine") = false ∧ resD P nt own c = some (d0, d1, ec) ∧ fn.results.toList.mapM (bj5 P) = some [] ∧ fn.ntmps = nt
section
variable {P : Program} {γ : Nat → EV} {n N0 : Nat} {φ φ0 : Nat → Nat} {I I0 : Nat → Prop} {s : aa2} {H H0 : Heap} {a : Act} {w w0 : World}
theorem bp2 {r : Option Nat} {m : Nat} {ops : Array Oper} {Q Q' : Exit → Act → World → Prop} {l2 : List Oper} (hq : ∀ e a w, Q e a w → Exit.then (fun a w => wpListIn (FR r) m P ops Q' l2 a w) Q' e a w) :
  ∀ (l1 : List Oper) (a : Act) (w : World), wpListIn (FR r) m P ops Q l1 a w → wpListIn (FR r) m P ops Q' (l1 ++ l2) a w
 | [], a, w, h => hq .normal a w h
 | o :: l, a, w, h => by
  have ih := bp2 hq l
  simp only [wpListIn, List.cons_append] at h ⊢
  split
  ·rename_i hw
   rw [if_pos hw] at h
   refine ⟨h.1, ?_⟩
   have h2 := h.2
   generalize (o.semAt (FR r).round a.eval).run P w = res at h2 ⊢
   have out : LetsOut Q → LetsOut Q' := fun ⟨a, w, h⟩ => ⟨a, w, hq .outgrown a w h⟩
   cases res with
   | ok x w' =>
    cases x <;> simp only [Oper.uponIn] at h2 ⊢ <;> first
     | exact ih _ _ h2
     | exact ⟨h2.1, h2.2.mono fun e w'' he => by cases e <;> first | exact ih _ _ he | exact hq _ _ _ he | exact out he⟩
     | exact ⟨h2.1, h2.2.mono fun v w'' he => ih _ _ he⟩
     | exact h2.elim
   | halt x w' => cases x <;> simp only [Oper.uponIn] at h2 ⊢ <;> first | exact hq _ _ _ h2 | exact h2.elim
  ·rename_i hw
   rw [if_neg hw] at h
   exact ⟨h.1, ih _ _ h.2⟩
variable {call : FuncId → List EV → Heap → Res}
def PostE (P : Program) (γ : Nat → EV) (n N0 : Nat) (φ : Nat → Nat) (I : Nat → Prop) (H : Heap) (w : World) (r : Xsh × Option (FuncId × List EV)) (e : Exit) (a' : Act) (w' : World) : Prop :=
 match r.2 with
 | none => Post γ n ⟨N0, [], true⟩ φ I H w (Qis r.1) e a' w'
 | some (g, as) => ∃ (dv : Deferred) (vs : Array Value), (∃ fv cap, dv.target = .fn fv cap) ∧ (be9 P g → ∀ w, (invoke dv.target dv.args).run P w = .ok (.enter g vs) w) ∧
   ∃ φ' I' s' H' x, Evo φ I H w φ' I' H' w' ∧ Rel γ n ⟨N0, [dv], true⟩ φ' I' s' H' a' w' ∧ XR φ' H'.length I' w' x e ∧ Qis r.1 x s' H' ∧ RCs φ' H'.length I' w' as vs.toList
theorem PostE.trans {r : Xsh × Option (FuncId × List EV)} {e : Exit} {a' : Act} {w' : World} (h : Evo φ0 I0 H0 w0 φ I H w) (g : PostE P γ n N0 φ I H w r e a' w') : PostE P γ n N0 φ0 I0 H0 w0 r e a' w' := by
 unfold PostE at g ⊢
 split at g
 ·exact g.trans h
 ·obtain ⟨dv, vs, g1, g2, φ', I', s', H', x, g3, g4, g5, g6, g7⟩ := g
  exact ⟨dv, vs, g1, g2, φ', I', s', H', x, h.trans g3, g4, g5, g6, g7⟩
theorem dn5 {f : Fn} {first cap args : List EV} {vf vc : Array Value} {va : Array Value} (h : RV φ H.length I w (.func f first cap) (.func f vf vc)) (ha : RCs φ H.length I w args va.toList) :
  RCs φ H.length I w (first ++ args ++ cap) (vf ++ va ++ vc).toList := by
 cases h with
 | func _ _ _ _ _ l1 l2 l3 l4 =>
 have o1 := ha.1
 refine ⟨by simp [l1, l2, o1], fun k x v hx hv => ?_⟩
 simp only [Array.toList_append] at hv
 by_cases k1 : k < first.length
 ·rw [List.append_assoc, List.getElem?_append_left k1] at hx
  rw [List.append_assoc, List.getElem?_append_left (by simp; omega)] at hv
  exact l3 k x v hx (by simpa using hv)
 ·rw [List.append_assoc, List.getElem?_append_right (by omega)] at hx
  rw [List.append_assoc, List.getElem?_append_right (by simp; omega)] at hv
  have e1 : vf.toList.length = first.length := by simp [l1]
  rw [e1] at hv
  by_cases k2 : k - first.length < args.length
  ·rw [List.getElem?_append_left k2] at hx
   rw [List.getElem?_append_left (by omega)] at hv
   exact ha.2 _ x v hx hv
  ·rw [List.getElem?_append_right (by omega)] at hx
   rw [List.getElem?_append_right (by omega)] at hv
   rw [← o1] at hv
   exact l4 _ x v hx (by simpa using hv)
theorem dw0 (hcall : ay3 P γ call) {own : List Nat} : ∀ (c : Code) (ef : EF), resF P n own c = some ef → ∀ (k : Nat) (r : Xsh × Option (FuncId × List EV)) (φ : Nat → Nat) (I : Nat → Prop) (s : aa2) (H : Heap) (a : Act) (w : World),
  Rel γ n ⟨N0, [], true⟩ φ I s H a w → efF call γ k ef s H = some r → c.wpIn (FR none) 3 P (PostE P γ n N0 φ I H w r) a w := by
 have flat : ∀ (c : Code) (ec : EC), resC P n own c = some ec → ∀ (k : Nat) (r : Xsh × Option (FuncId × List EV)) (φ : Nat → Nat) (I : Nat → Prop) (s : aa2) (H : Heap) (a : Act) (w : World),
   Rel γ n ⟨N0, [], true⟩ φ I s H a w → efF call γ k (.code ec) s H = some r → c.wpIn (FR none) 3 P (PostE P γ n N0 φ I H w r) a w := by
  intro c ec hc k r φ I s H a w hR h
  simp only [efF, Option.map_eq_some_iff] at h
  obtain ⟨x, hx, rfl⟩ := h
  exact bd4 hcall c ec hc 3 (by omega) _ k x φ I s H a w hR hx
 intro c
 induction c with
 | seq x y ihx ihy =>
  intro ef he k r φ I s H a w hR h
  simp only [resF] at he
  split at he
  ·rename_i l f as hd
   simp only [Option.map_eq_some_iff] at he
   obtain ⟨ec, hec, rfl⟩ := he
   cases x with
   | region id ops dr =>
    cases dr with
    | true => simp [da1] at hd
    | false =>
    simp only [da1] at hd
    split at hd
    case h_2 => simp at hd
    rename_i o rs hrev
    split at hd
    case h_2 => simp at hd
    rename_i fo ao ats hop hguard hdst
    split at hd
    case h_2 => simp at hd
    rename_i l' f' as' hl hf has
    simp only [Option.some.injEq, Prod.mk.injEq] at hd
    obtain ⟨rfl, rfl, rfl⟩ := hd
    have hops : ops.toList = rs.reverse ++ [o] := by
     have := congrArg List.reverse hrev
     simpa using this
    simp only [efF] at h
    refine wpIn_seq (wpIn_region_list ?_)
    rw [hops]
    cases hx : opsF call γ l' s H with
    | none => rw [hx] at h; simp at h
    | some q =>
    have hw := by8 (Q := Qis q) rs.reverse l' hl φ I s H a w (.refl φ I H w) hR (bl1 hcall _ _ _ _ hx)
    have hw2 := dq9 (r := none) (m := 3) Post.noOut _ (ax2 hl) _ _ hw
    refine bp2 ?_ _ _ _ hw2
    intro e a1 w1 hp
    rw [hx] at h
    obtain ⟨x, s1, H1⟩ := q
    obtain ⟨φ1, I1, s2, H2, x2, g1, g2, g3, g4⟩ := hp
    unfold Qis at g4
    simp only [Prod.mk.injEq] at g4
    obtain ⟨rfl, rfl, rfl⟩ := g4
    have pass : x ≠ .normal → PostE P γ n N0 φ I H w r e a1 w1 := by
     intro hne
     have hr : r = ((x, s1, H1), none) := by
      cases x <;> first | exact absurd rfl hne | exact (Option.some.inj h).symm
     subst hr
     exact ⟨φ1, I1, s1, H1, x, g1, g2, g3, rfl⟩
    cases g3 with
    | normal =>
     simp only at h
     split at h
     case h_2 => simp at h
     rename_i g first cap hfe
     simp only [Option.map_eq_some_iff] at h
     obtain ⟨z, hz, rfl⟩ := h
     have rf := ab5 g2 hf
     rw [hfe] at rf
     generalize hva : a1.eval fo = vf at rf
     obtain ⟨vff, vfc, rfl⟩ : ∃ vff vfc, vf = .func (.func g) vff vfc := by cases rf; exact ⟨_, _, rfl⟩
     have hao := bm6 g2 has
     have hargs : RCs φ1 H1.length I1 w1 (as'.map (ev γ s1)) (ao.map a1.eval).toList := ⟨by simpa using hao.1, fun k x v hx hv => hao.2 k x v hx (by simpa using hv)⟩
     show wpListIn (FR none) 3 P ops _ [o] a1 w1
     have hex : (execOp a1.eval o).run P w1 = .ok (.defer { target := .fn (.func g) vfc, args := vff ++ ao.map a1.eval }) w1 := by
      unfold execOp
      rw [hop]
      simp [resolve, hva, Deferred.ofValue]
     have hwant : Region.wanted o (yielded ops a1.tmps) = true := by simp [Region.wanted, hguard]
     simp only [wpListIn, hwant, if_true]
     refine ⟨fun _ _ => trivial, ?_⟩
     have hsem : o.semAt (FR none).round a1.eval = execOp a1.eval o := Oper.semAt_none ..
     rw [hsem, hex, Oper.uponIn_defer, hdst]
     have hR1 : Rel γ n ⟨N0, [{ target := .fn (.func g) vfc, args := vff ++ ao.map a1.eval }], true⟩ φ1 I1 s1 H1 { a1 with defers := { target := .fn (.func g) vfc, args := vff ++ ao.map a1.eval } :: a1.defers } w1 := by
      obtain ⟨k0, Ds, k1, k2, k3⟩ := g2.defers
      have hDs : Ds = [] := by
       cases Ds with
       | nil => rfl
       | cons D Ds => exact absurd (k3 D (by simp)).1.2 (by simp)
      subst hDs
      refine ⟨g2.sz, g2.slots, g2.heap, k0, [], ?_, List.nodup_nil, by simp⟩
      simp [k1]
     have hcs := bd4 hcall y ec hec 3 (by omega) _ k z φ1 I1 s1 H1 _ w1 hR1 hz
     refine wpIn_mono hcs fun e2 a2 w2 hp2 => ?_
     obtain ⟨φ2, I2, s3, H3, x3, j1, j2, j3, j4⟩ := hp2
     refine ⟨_, vff ++ ao.map a1.eval ++ vfc, ⟨_, _, rfl⟩, fun hcb w => ?_, φ2, I2, s3, H3, x3, g1.trans j1, j2, j3, j4, ?_⟩
     ·simp [invoke, bm1 hcb]
     ·have h1 := dn5 rf hargs
      exact ⟨h1.1, fun k x v hx hv => j1.rv g2.heap (h1.2 k x v hx hv)⟩
    | exit id' => exact pass (by simp)
    | ret => exact pass (by simp)
    | panic v vv hv => exact pass (by simp)
   | _ => simp [da1] at hd
  ·split at he
   case h_2 => simp at he
   rename_i ex ey hx hy
   simp only [Option.some.injEq] at he; subst he
   simp only [efF] at h
   cases hq : af0 call γ k ex s H with
   | none => rw [hq] at h; simp at h
   | some q =>
   rw [hq] at h
   refine wpIn_seq (wpIn_mono (bd4 hcall x ex hx 3 (by omega) _ k q φ I s H a w hR hq) fun e a1 w1 hp => ?_)
   obtain ⟨x, s1, H1⟩ := q
   obtain ⟨φ1, I1, s2, H2, x2, g1, g2, g3, g4⟩ := hp
   unfold Qis at g4
   simp only [Prod.mk.injEq] at g4
   obtain ⟨rfl, rfl, rfl⟩ := g4
   have pass : x ≠ .normal → PostE P γ n N0 φ I H w r e a1 w1 := by
    intro hne
    have hr : r = ((x, s1, H1), none) := by
     cases x <;> first | exact absurd rfl hne | exact (Option.some.inj h).symm
    subst hr
    exact ⟨φ1, I1, s1, H1, x, g1, g2, g3, rfl⟩
   cases g3 with
   | normal =>
    show y.wpIn (FR none) 3 P _ a1 w1
    exact wpIn_mono (ihy ey hy k r φ1 I1 s1 H1 a1 w1 g2 h) fun e a2 w2 hp => hp.trans g1
   | exit id' => exact pass (by simp)
   | ret => exact pass (by simp)
   | panic v vv hv => exact pass (by simp)
 | _ =>
  intro ef he k r φ I s H a w hR h
  simp only [resF, Option.map_eq_some_iff] at he
  obtain ⟨ec, hec, rfl⟩ := he
  exact flat _ ec hec k r φ I s H a w hR h
end
section
variable {P : Program} {γ : Nat → EV} {n nb : Nat} {φ φ0 : Nat → Nat} {I I0 : Nat → Prop} {s : aa2} {H H0 : Heap} {a : Act} {w w0 : World}
variable {call : FuncId → List EV → Heap → Res}
def be2 (pv : Option EV) (v : Value) (rec : Bool) : FrameMode :=
 match pv with
 | none => .returning
 | some _ => .panicking [{ v, recovered := rec }]
theorem cs9 (pv : Option EV) (v : Value) : settle (be2 pv v true) = .returning := by
 cases pv <;> rfl
theorem cm4 {nt : Nat} {nb : NB} {as : List EV} {vs : Array Value} (hb : nb.n ≤ w.heap.size) (hbase : nb.base = []) (hl : as.length ≤ nt) (hr : RH γ φ I H w) (hv : RCs φ H.length I w as vs.toList) :
  Rel γ nt nb φ I (am4 as) H { tmps := vs ++ Array.replicate (nt - vs.size) Go.undef, defers := [] } w := by
 have hvs : vs.size = as.length := by simpa using hv.1.symm
 refine ⟨by simp; omega, fun t => ?_, hr, ?_⟩
 ·simp only [am4]
  by_cases ht : t < as.length
  ·have ht2 : t < vs.size := by omega
   have : (vs ++ Array.replicate (nt - vs.size) Go.undef).getD t Go.undef = vs[t] := by simp [Array.getElem?_append, ht2]
   rw [this]
   have := hv.2 t as[t] vs[t] (by simp [ht]) (by simp [ht2])
   simpa [ht] using this
  ·have : as[t]? = none := by simp; omega
   rw [this]
   exact .undef _
 ·have := Marks.none (φ := φ) (I := I) (H := H) hb
  rwa [hbase] at this
theorem ba6 {nb : NB} {n : Nat} (hst : nb.strict = true) (h : Rel γ n nb φ I s H a w) : a.defers = nb.base := by
 obtain ⟨_, Ds, hds, _, hD⟩ := h.defers
 cases Ds with
 | nil => simpa using hds
 | cons D Ds => have := (hD D (by simp)).1.2; rw [hst] at this; simp at this
theorem eg2 (hcall : ay3 P γ call) {D : FuncId → Option FnDf} (hD : ∀ g d, D g = some d → ei6 P g d.d0 d.d1 d.ec d.nt) {k : Nat} {g : FuncId} {as : List EV} {pv : Option EV} {H3 : Heap} (h : dcF call γ D k g as H pv = some H3) :
  be9 P g ∧ ∀ (φ : Nat → Nat) (I : Nat → Prop) (w : World) (vs : Array Value) (v : Value), RH γ φ I H w → RCs φ H.length I w as vs.toList → (∀ x, pv = some x → RV φ H.length I w x v) →
   CallsDIn (FR none) 2 P g vs (be2 pv v false) w fun e u' w' => (∃ rv, e = .returned rv) ∧ u' = be2 pv v true ∧ ∃ φ' I', Evo φ I H w φ' I' H3 w' ∧ RH γ φ' I' H3 w' := by
 unfold dcF at h
 split at h
 case h_2 => simp at h
 rename_i d hd
 split at h
 case isFalse => simp at h
 rename_i hl
 split at h
 case h_2 => simp at h
 rename_i er H4 hf
 obtain rfl := Option.some.inj h
 obtain ⟨fn, c0, own, h1, h2, h3, h4, h5, h6⟩ := hD g d hd
 refine ⟨⟨fn, c0, h1, h2, h3⟩, fun φ I w vs v hr hv hpv => ?_⟩
 unfold resD at h4
 split at h4
 case h_2 => simp at h4
 rename_i id ops c
 split at h4
 case h_2 => simp at h4
 rename_i o0 o1 hops
 split at h4
 case h_2 => simp at h4
 rename_i ao ats d0 t d1 e0 e1 e2 e3 e4 e5
 split at h4
 case isFalse => simp at h4
 rename_i hc
 obtain ⟨rfl, hd0, hd1⟩ := hc
 simp only [Option.map_eq_some_iff, Prod.mk.injEq] at h4
 obtain ⟨ec, hec, rfl, rfl, rfl⟩ := h4
 have hsz : ops.size = 2 := by rw [← Array.length_toList, hops]; rfl
 have g0 : ops[0]? = some o0 := by rw [← Array.getElem?_toList, hops]; rfl
 have g1 : ops[1]? = some o1 := by rw [← Array.getElem?_toList, hops]; rfl
 cases hq : af0 call γ k d.ec (upd (upd (am4 as) d.d0 (pv.getD .nilif)) d.d1 (pv.getD .nilif)) H with
 | none => rw [hq] at hf; simp [finF] at hf
 | some q =>
 rw [hq] at hf
 refine callsDIn_of_wpSIn h1 h2 trivial fun c₀ cs hu => wpSIn_seq (wpSIn_region ?_)
 rw [h6]
 have hR0 := cm4 (nb := ⟨w.heap.size, [], true⟩) (Nat.le_refl _) rfl hl hr hv
 obtain ⟨rv, hrv⟩ : ∃ rv : Value, rv = (match pv with | none => Value.nilIface | some _ => v) := ⟨_, rfl⟩
 have hrvR : RV φ H.length I w (pv.getD .nilif) rv := by
  cases pv with
  | none => rw [hrv]; exact .nilif
  | some x => rw [hrv]; exact hpv x rfl
 have hR1 := hR0.put (Evo.refl ..) hr (dst := some d.d0) (fun d' hd' => by cases hd'; exact hd0) hrvR
 have hR2 := hR1.put (Evo.refl ..) hr (dst := some d.d1) (fun d' hd' => by cases hd'; exact hd1) hrvR
 obtain ⟨a0, ha0⟩ : ∃ a0 : Act, a0 = { tmps := vs ++ Array.replicate (d.nt - vs.size) Go.undef, defers := [] } := ⟨_, rfl⟩
 rw [← ha0] at hR0 hR1 hR2 ⊢
 have hcs : ∃ cs', cs' = ({ c₀ with mode := be2 pv v true } : Frame) :: cs ∧ (match recoverD (c₀ :: cs) with | some (u, cs1) => u = rv ∧ cs1 = cs' | none => Value.nilIface = rv ∧ c₀ :: cs = cs') := by
  refine ⟨_, rfl, ?_⟩
  cases pv with
  | none =>
   have hm : c₀.mode = .returning := hu
   simp only [recoverD, hm, hrv, be2]
   refine ⟨trivial, ?_⟩
   rw [← hm]
  | some x =>
   have hm : c₀.mode = .panicking [{ v, recovered := false }] := hu
   simp only [recoverD, hm, hrv, be2]
   exact ⟨trivial, trivial⟩
 obtain ⟨cs', hcs', hrec⟩ := hcs
 have hval : ∀ y : Act, y.tmps.size = d.nt → (y.put (some d.d0) rv).eval (.tmp d.d0) = rv := fun y hy => by
  simp [Act.put, Act.eval, hy, hd0]
 have hwant : ∀ (o : Oper) (y : Act), o.guard = none → Region.wanted o (yielded ops y.tmps) = true := fun o y ho => by simp [Region.wanted, ho]
 have key : Exit.thenS (c.wpSIn (FR none) 2 P (bodyPostS P fn c₀ cs fun e u' w' => (∃ rv, e = .returned rv) ∧ u' = be2 pv v true ∧ ∃ φ' I', Evo φ I H w φ' I' H4 w' ∧ RH γ φ' I' H4 w'))
   (bodyPostS P fn c₀ cs fun e u' w' => (∃ rv, e = .returned rv) ∧ u' = be2 pv v true ∧ ∃ φ' I', Evo φ I H w φ' I' H4 w' ∧ RH γ φ' I' H4 w') .normal ((a0.put (some d.d0) rv).put (some d.d1) rv) cs' w := by
  refine wpSIn_of_wpIn rfl ?_
  refine wpIn_mono (bd4 hcall c d.ec hec 2 (by omega) _ k q φ I _ H _ w hR2 hq) fun e a1 w1 hp => ?_
  obtain ⟨φ1, I1, s1, H1, x, j1, j2, j3, j4⟩ := hp
  unfold Qis at j4
  subst j4
  have fin : (match ab0 s1 H1 [] with | some r => finV H r .ret H1 | none => none) = some (.ret er, H4) →
    a1.defers = [] ∧ ∃ u', cs' = { c₀ with mode := u' } :: cs ∧ ∃ vv, (results fn a1.tmps).run P w1 = .ok vv w1 ∧ ((∃ rv, Ending.returned vv = .returned rv) ∧ u' = be2 pv v true ∧ ∃ φ' I', Evo φ I H w φ' I' H4 w1 ∧ RH γ φ' I' H4 w1) := by
   intro hfin
   split at hfin
   case h_2 => simp at hfin
   rename_i r hr'
   obtain ⟨val, n1, n2⟩ := aq8 j2 h5 hr'
   rcases bh4 hr.isOk hfin with ⟨v', k1, k2, k3, k4⟩ | ⟨k3, k4⟩
   ·subst k4
    exact ⟨ba6 rfl j2, be2 pv v true, hcs', val, n1, ⟨_, rfl⟩, rfl, φ1, _, j1.close, j2.heap.close j1.len k2⟩
   ·subst k4
    exact ⟨ba6 rfl j2, be2 pv v true, hcs', val, n1, ⟨_, rfl⟩, rfl, φ1, I1, j1, j2.heap⟩
  cases j3 with
  | normal => exact fin hf
  | ret => exact fin hf
  | exit id' => simp [finF] at hf
  | panic pvv vv hvv =>
   simp only [finF] at hf
   rcases bh4 hr.isOk hf with ⟨v', k1, k2, k3, k4⟩ | ⟨k3, k4⟩ <;> exact absurd k3 (by simp)
 have x0 : (execOp a0.eval o0).run P w = .ok .recover w := by
  unfold execOp
  rw [e0]
  simp [resolve, invoke, builtin]
 have x1 : (execOp (a0.put (some d.d0) rv).eval o1).run P w = .ok (.value rv) w := by
  unfold execOp
  rw [e3]
  simp only [hval a0 hR0.sz]
  rfl
 have hrange : List.range ops.size = [0, 1] := by rw [hsz]; rfl
 rw [hrange]
 simp only [wpOpsSIn, g0, g1, hwant o0 _ e2, hwant o1 _ e5, if_true, x0]
 refine ⟨fun _ _ => trivial, ?_⟩
 split at hrec
 ·rename_i u cs1 hre
  obtain ⟨rfl, rfl⟩ := hrec
  simp only [hre, e1, x1, e4]
  exact ⟨fun _ _ => trivial, key⟩
 ·rename_i hre
  obtain ⟨hr1, rfl⟩ := hrec
  simp only [hre, e1, hr1, x1, e4]
  exact ⟨fun _ _ => trivial, key⟩
structure Env.Sound (P : Program) (E : Env) : Prop where
 T : ∀ f d, E.T f = some d → Body P f d.ec d.rs d.nt
 F : ∀ f d, E.F f = some d → eq0 P f d.ef d.rs d.nt
 D : ∀ f d, E.D f = some d → ei6 P f d.d0 d.d1 d.ec d.nt
 Ψ : ∀ f as H r, E.Ψ f as H = some r → CallsA P E.γ f as H fun er H' => er = r.1 ∧ H' = r.2
theorem bz5 {fn : Func} {rs : List ERes} {er : ER} {H0 H1 : Heap} {φ0 : Nat → Nat} {I0 : Nat → Prop} {w0 : World} {tmps : Array Value} {n : Nat} {nb : NB} {a : Act} (hrs : fn.results.toList.mapM (bj5 P) = some rs) (hok : OkH H0) (ha : a.tmps = tmps)
  (he : Evo φ0 I0 H0 w0 φ I H w) (hR : Rel γ n nb φ I s H a w) (h : co6 H0 rs s H = some (er, H1)) :
  ∃ v, (results fn tmps).run P w = .ok v w ∧ ∃ φ' I' H' e, Evo φ0 I0 H0 w0 φ' I' H' w ∧ RH γ φ' I' H' w ∧ RE φ' H'.length I' w e (.returned v) ∧ (e = er ∧ H' = H1) := by
 unfold co6 at h
 split at h
 case h_2 => simp at h
 rename_i r hr
 obtain ⟨val, n1, n2⟩ := aq8 hR hrs hr
 rw [ha] at n1
 rcases bh4 hok h with ⟨v', k1, k2, k3, k4⟩ | ⟨k3, k4⟩
 ·subst k3 k4
  refine ⟨val, n1, φ, _, H.take H0.length, .ret v', he.close, hR.heap.close he.len k2, ?_, rfl, rfl⟩
  rw [List.length_take, Nat.min_eq_left he.len]
  exact .ret v' val (k1.sound hR.heap n2)
 ·exact ⟨val, n1, φ, I, H, .ret r, he, hR.heap, .ret r val n2, k3.symm, k4.symm⟩
theorem cx9 (hcall : ay3 P γ call) {D : FuncId → Option FnDf} (hD : ∀ g d, D g = some d → ei6 P g d.d0 d.d1 d.ec d.nt) {f : FuncId} {ef : EF} {rs : List ERes} {nt : Nat} (hb : eq0 P f ef rs nt) {k : Nat} {as : List EV} (hl : as.length ≤ nt) {er : ER} {H1 : Heap}
  (h : finE call γ D k H rs (efF call γ k ef (am4 as) H) = some (er, H1)) : CallsA P γ f as H fun e h => e = er ∧ h = H1 := by
 obtain ⟨fn, c, own, h1, h2, h3, h4, h5, rfl⟩ := hb
 refine ⟨⟨fn, c, h1, h2, h3⟩, fun φ I w vs hr hv => (callsIn_wide (n := 3)).1 (callsIn_of_wp_marks (F := FR none) h1 h2 trivial ?_)⟩
 have hR := cm4 (nb := ⟨w.heap.size, [], true⟩) (Nat.le_refl _) rfl hl hr hv
 cases hx : efF call γ k ef (am4 as) H with
 | none => rw [hx] at h; simp [finE] at h
 | some r =>
 rw [hx] at h
 refine wpIn_mono (dw0 hcall c ef h4 k r φ I _ H _ w hR hx) fun e a' w' hp => ?_
 obtain ⟨⟨x, s', H'⟩, d⟩ := r
 cases d with
 | none =>
  obtain ⟨φ', I', s1, H2, x1, g1, g2, g3, g4⟩ := hp
  unfold Qis at g4
  simp only [Prod.mk.injEq] at g4
  obtain ⟨rfl, rfl, rfl⟩ := g4
  have hds := ba6 rfl g2
  simp only at hds
  simp only [finE] at h
  have fin : co6 H rs s' H' = some (er, H1) → LeavesInM (FR none) 3 P fn a'.tmps (fun e w' => ∃ φ' I' H' er', Evo φ I H w φ' I' H' w' ∧ RH γ φ' I' H' w' ∧ RE φ' H'.length I' w' er' e ∧ (er' = er ∧ H' = H1)) a'.defers .returning w' := by
   intro hfin
   rw [hds]
   exact bz5 h5 hr.isOk rfl g1 g2 hfin
  cases g3 with
  | normal => exact fin h
  | ret => exact fin h
  | exit id => simp [finF] at h
  | panic v vv hvv =>
   show LeavesInM (FR none) 3 P fn a'.tmps _ a'.defers (.panicking [{ v := vv, recovered := false }]) w'
   rw [hds]
   simp only [finF] at h
   rcases bh4 hr.isOk h with ⟨v', k1, k2, k3, k4⟩ | ⟨k3, k4⟩
   ·subst k3 k4
    refine ⟨φ', _, H'.take H.length, .pan v', g1.close, g2.heap.close g1.len k2, ?_, rfl, rfl⟩
    rw [List.length_take, Nat.min_eq_left g1.len]
    exact .pan v' vv (k1.sound g2.heap hvv)
   ·exact ⟨φ', I', H', .pan v, g1, g2.heap, .pan v vv hvv, k3.symm, k4.symm⟩
 | some p =>
  obtain ⟨g, gs⟩ := p
  obtain ⟨dv, gv, ⟨fv, cap, htar⟩, hinv, φ', I', s1, H2, x1, g1, g2, g3, g4, g5⟩ := hp
  unfold Qis at g4
  simp only [Prod.mk.injEq] at g4
  obtain ⟨rfl, rfl, rfl⟩ := g4
  have hds := ba6 rfl g2
  simp only at hds
  have leave : ∀ (pv : Option EV) (v : Value), (∀ x, pv = some x → RV φ' H'.length I' w' x v) → (match dcF call γ D k g gs H' pv with | some H2 => co6 H rs s' H2 | none => none) = some (er, H1) →
    LeavesInM (FR none) 3 P fn a'.tmps (fun e w' => ∃ φ' I' H' er', Evo φ I H w φ' I' H' w' ∧ RH γ φ' I' H' w' ∧ RE φ' H'.length I' w' er' e ∧ (er' = er ∧ H' = H1)) a'.defers (be2 pv v false) w' := by
   intro pv v hpv hk
   split at hk
   case h_2 => simp at hk
   rename_i H3 h3'
   obtain ⟨hcb, hdc⟩ := eg2 hcall hD h3'
   rw [hds]
   refine ⟨by cases pv <;> simp [be2], .inr ⟨cy7, fv, cap, g, gv, htar, hinv hcb w', fun _ _ => trivial, ?_⟩⟩
   refine (hdc φ' I' w' gv v g2.heap g5 hpv).mono fun e u' w2 hq => ?_
   obtain ⟨⟨rv, rfl⟩, rfl, φ2, I2, q1, q2⟩ := hq
   show LeavesInM (FR none) 3 P fn a'.tmps _ [] (settle (be2 pv v true)) w2
   rw [cs9]
   have hR2 : Rel γ fn.ntmps ⟨0, [], true⟩ φ2 I2 s' H3 { a' with defers := [] } w2 := ⟨g2.sz, fun t => q1.rv g2.heap (g2.slots t), q2, Nat.zero_le _, [], rfl, List.nodup_nil, by simp⟩
   exact bz5 (a := { a' with defers := [] }) h5 hr.isOk rfl (g1.trans q1) hR2 hk
  cases g3 with
  | normal => exact leave none Go.undef (by simp) h
  | ret => exact leave none Go.undef (by simp) h
  | exit id => simp [finE] at h
  | panic v vv hvv => exact leave (some v) vv (fun x hx => by cases hx; exact hvv) h
theorem dd2 {E : Env} (hE : E.Sound P) : ∀ n, ay3 P E.γ (runF E n) := by
 intro n
 induction n with
 | zero => intro g as H er H' h; simp [runF] at h
 | succ n ih =>
  intro f as H er H1 h
  simp only [runF] at h
  split at h
  ·rename_i v hv
   rw [Option.some.injEq] at h
   have := hE.Ψ f as _ v hv
   rw [h] at this
   exact this
  ·split at h
   case h_2 =>
    split at h
    case h_2 => simp at h
    rename_i d hd
    split at h
    case isFalse => simp at h
    rename_i hl
    exact cx9 ih hE.D (hE.F f d hd) hl h
   rename_i d hd
   split at h
   case isFalse => simp at h
   rename_i hl
   obtain ⟨fn, c, own, h1, h2, h3, h4, h5, h6⟩ := hE.T f d hd
   cases hq : af0 (runF E n) E.γ n d.ec (am4 as) H with
   | none => rw [hq] at h; unfold co7 at h; split at h <;> simp [finF, finK] at h
   | some q =>
   rw [hq] at h
   refine cq8 h1 h2 h3 h5 (by rw [h6]; exact hl) fun φ I a w hR => ?_
   have hok := hR.heap.isOk
   rw [← h6] at h4
   refine wpIn_mono (bd4 ih c d.ec h4 3 (by omega) w.heap.size n q φ I _ H a w hR hq) fun e a' w' hp => hp.mono fun x s' H' hx => ?_
   unfold Qis at hx
   subst hx
   unfold co7 at h
   by_cases hk : E.K f = true
   ·rw [if_pos hk] at h
    have ret : ∀ (h : (match ab0 s' H' d.rs with | some r => some (ER.ret r, H') | none => none) = some (er, H1)), ∃ r, ab0 s' H' d.rs = some r ∧ ER.ret r = er ∧ H' = H1 := by
     intro h
     split at h
     case h_2 => simp at h
     rename_i r hr
     simp only [Option.some.injEq, Prod.mk.injEq] at h
     exact ⟨r, hr, h.1, h.2⟩
    cases x with
    | normal => exact .inr (ret h)
    | ret => exact .inr (ret h)
    | panic v =>
     simp only [finK, Option.some.injEq, Prod.mk.injEq] at h
     exact .inr ⟨h.1, h.2⟩
    | exit id => simp [finK] at h
   rw [if_neg hk] at h
   have ret : ∀ (h : (match ab0 s' H' d.rs with | some r => finV H r .ret H' | none => none) = some (er, H1)),
     (∃ r r', ab0 s' H' d.rs = some r ∧ FZ H.length H' r r' ∧ (∀ (b : Nat) (x : EB), b < H.length → H'[b]? = some (some x) → x.ok H.length = true) ∧ (ER.ret r' = er ∧ H'.take H.length = H1)) ∨ ∃ r, ab0 s' H' d.rs = some r ∧ ER.ret r = er ∧ H' = H1 := by
    intro h
    split at h
    case h_2 => simp at h
    rename_i r hr
    rcases bh4 hok h with ⟨v', g1, g2, g3, g4⟩ | ⟨g3, g4⟩
    ·exact .inl ⟨r, v', hr, g1, g2, g3.symm, g4.symm⟩
    ·exact .inr ⟨r, hr, g3.symm, g4.symm⟩
   cases x with
   | normal => exact ret h
   | ret => exact ret h
   | panic v =>
    rcases bh4 hok h with ⟨v', g1, g2, g3, g4⟩ | ⟨g3, g4⟩
    ·exact .inl ⟨v', g1, g2, g3.symm, g4.symm⟩
    ·exact .inr ⟨g3.symm, g4.symm⟩
   | exit id => simp [finF] at h
theorem ca8 {E : Env} (hE : E.Sound P) {f : FuncId} {as : List EV} {er : ER} {H' : Heap} (h : den E f as H = some (er, H')) : CallsA P E.γ f as H fun e h => e = er ∧ h = H' := by
 obtain ⟨n, hn⟩ := bl8.1 h
 exact dd2 hE n _ _ _ _ _ hn
end
theorem FX : (∀ (p : Prop) [Decidable p], (decide p = true) = p) ∧ (∀ (p : Prop) [Decidable p], (decide p = false) = ¬p) ∧ (∀ (α : Type) [BEq α] [LawfulBEq α] (a b : α), ((a == b) = true) = (a = b)) ∧ (∀ (α : Type) [BEq α] [LawfulBEq α] (a b : α), ((a == b) = false) = (a ≠ b)) ∧
  (∀ (α : Type) [BEq α] [LawfulBEq α] (a b : α), ((a != b) = true) = (a ≠ b)) ∧ (∀ (α : Type) [BEq α] [LawfulBEq α] (a b : α), ((a != b) = false) = (a = b)) ∧ (∀ (α : Type) (a b : α), (a ≠ b) = ¬(a = b)) ∧ (∀ b : Bool, ((!b) = true) = (b = false)) ∧ (∀ b : Bool, ((!b) = false) = (b = true)) ∧
  (∀ b : Bool, (¬(b = true)) = (b = false)) ∧ (∀ b : Bool, (¬(b = false)) = (b = true)) ∧ (∀ (p : Prop) [Decidable p], (¬¬p) = p) ∧ (∀ a b : Bool, ((a && b) = true) = (a = true ∧ b = true)) ∧ (∀ a b : Bool, ((a || b) = true) = (a = true ∨ b = true)) :=
 ⟨fun _ => by simp, fun _ => by simp, fun _ _ _ _ _ => by simp, fun _ _ _ _ _ => by simp, fun _ _ _ _ _ => by simp, fun _ _ _ _ _ => by simp, fun _ _ _ => by simp, fun _ => by simp, fun _ => by simp, fun _ => by simp, fun _ => by simp, fun _ => by simp [Decidable.not_not], fun _ _ => by simp, fun _ _ => by simp⟩
class Kt (α : Type) where
 k : α
abbrev QT := AX → aa2 → Heap → Prop
abbrev KT := EV → Heap → Prop
abbrev PT := Unit → Prop
section
variable (E : Env)
def Hd [c : Kt EC] [s : Kt aa2] [H : Kt Heap] [Q : Kt QT] : Prop := ∃ x s' H', denC E c.k s.k H.k = some (x, s', H') ∧ Q.k x s' H'
def HO [l : Kt (List EOper)] [s : Kt aa2] [H : Kt Heap] [Q : Kt QT] : Prop := ∃ x s' H', denO E l.k s.k H.k = some (x, s', H') ∧ Q.k x s' H'
def HD [l : Kt (List (EOper × Bool))] [s : Kt aa2] [H : Kt Heap] [Q : Kt QT] : Prop := ∃ x s' H', denD E l.k s.k H.k = some (x, s', H') ∧ Q.k x s' H'
def HS (r : Res) [Qp : Kt KT] [K : Kt KT] : Prop :=
 match r with
 | some (.ret v, H) => K.k v H
 | some (.pan v, H) => Qp.k v H
 | none => False
def HSD (chg : Bool) (H : Heap) (r : Res) [K : Kt KT] : Prop :=
 match r with
 | some (.ret v, H') => (chg || bs7 H' H) = true ∧ K.k v H'
 | _ => False
def HG (v : EV) (t : Bool) [a : Kt PT] [b : Kt PT] : Prop :=
 match v with
 | .bool t' => if t' = t then a.k () else b.k ()
 | .tup [] => b.k ()
 | _ => False
def HC (v : EV) [a : Kt PT] [b : Kt PT] : Prop :=
 match v with
 | .bool t => if t = true then a.k () else b.k ()
 | _ => False
def ak2 (x : Option (EV × Heap)) : Res :=
 match x with
 | some (v, H) => some (.ret v, H)
 | none => none
noncomputable def eg5 (f : EV) (as : List EV) (H : Heap) : Res :=
 match f with
 | .func (.func g) first cap => den E g (first ++ as ++ cap) H
 | _ => none
def panD (x : EV) (H : Heap) : Res :=
 match x with
 | .iface t v => some (.pan (.iface t v), H)
 | _ => none
end
section
variable {E : Env} {s : aa2} {H : Heap} {Q : QT}
@[congr] theorem HS_congr {r r' : Res} {Qp K : Kt KT} (h : r = r') : @HS r Qp K = @HS r' Qp K := by rw [h]
@[congr] theorem eu4 {c : Bool} {r r' : Res} {K : Kt KT} (h : r = r') : @HSD c H r K = @HSD c H r' K := by rw [h]
@[congr] theorem HG_congr {v v' : EV} {t : Bool} {a b : Kt PT} (h : v = v') : @HG v t a b = @HG v' t a b := by rw [h]
@[congr] theorem HC_congr {v v' : EV} {a b : Kt PT} (h : v = v') : @HC v a b = @HC v' a b := by rw [h]
/-! ### The head's rules -/
theorem ep0 : @Hd E ⟨.skip⟩ ⟨s⟩ ⟨H⟩ ⟨Q⟩ = Q .normal s H := propext ⟨fun ⟨x, s', H', h, hq⟩ => by simp only [cp9] at h; cases h; exact hq, fun h => ⟨_, _, _, cp9, h⟩⟩
theorem ep1 {id : Nat} : @Hd E ⟨.exit id⟩ ⟨s⟩ ⟨H⟩ ⟨Q⟩ = Q (.exit id) s H := propext ⟨fun ⟨x, s', H', h, hq⟩ => by simp only [cq1] at h; cases h; exact hq, fun h => ⟨_, _, _, cq1, h⟩⟩
theorem et9 : @Hd E ⟨.ret⟩ ⟨s⟩ ⟨H⟩ ⟨Q⟩ = Q .ret s H := propext ⟨fun ⟨x, s', H', h, hq⟩ => by simp only [db8] at h; cases h; exact hq, fun h => ⟨_, _, _, db8, h⟩⟩
theorem eu0 {l : List EOper} : @Hd E ⟨.ops l⟩ ⟨s⟩ ⟨H⟩ ⟨Q⟩ = @HO E ⟨l⟩ ⟨s⟩ ⟨H⟩ ⟨Q⟩ := by unfold Hd HO; simp only [eg1]
theorem ep2 {l : List (EOper × Bool)} : @Hd E ⟨.draw l⟩ ⟨s⟩ ⟨H⟩ ⟨Q⟩ = @HD E ⟨l⟩ ⟨s⟩ ⟨H⟩ ⟨Q⟩ := by unfold Hd HD; simp only [dw4]
theorem dc1 {l : List EOper} {us : List (Nat × Nat)} {s' : aa2} {H' : Heap} {fs : List (Option Nat)} (h : dsF E.γ l s H = some (s', H', fs)) (ha : cj6 fs us = true) (hq : Q .normal s' H') : @Hd E ⟨.drawS l us⟩ ⟨s⟩ ⟨H⟩ ⟨Q⟩ :=
 ⟨.normal, s', H', by simp only [di3, h, ha, if_true], hq⟩
theorem et8 {a b : EC} : @Hd E ⟨.seq a b⟩ ⟨s⟩ ⟨H⟩ ⟨Q⟩ = @Hd E ⟨a⟩ ⟨s⟩ ⟨H⟩ ⟨ba5 (fun s' H' => @Hd E ⟨b⟩ ⟨s'⟩ ⟨H'⟩ ⟨Q⟩) Q⟩ := by
 refine propext ⟨?_, ?_⟩
 ·rintro ⟨x, s', H', h, hq⟩
  simp only [db7] at h
  rcases bi2 h with ⟨s1, H1, h1, h2⟩ | ⟨h1, hne⟩
  ·exact ⟨_, _, _, h1, x, s', H', h2, hq⟩
  ·refine ⟨_, _, _, h1, ?_⟩
   cases x <;> first | exact absurd rfl hne | exact hq
 ·rintro ⟨x, s1, H1, h1, hq⟩
  simp only at h1 hq
  unfold Hd
  simp only [db7, h1]
  cases x with
  | normal => exact hq
  | _ => exact ⟨_, _, _, rfl, hq⟩
theorem eh7 {id : Nat} {c : EC} : @Hd E ⟨.block id c⟩ ⟨s⟩ ⟨H⟩ ⟨Q⟩ = @Hd E ⟨c⟩ ⟨s⟩ ⟨H⟩ ⟨am6 id Q⟩ := by
 refine propext ⟨?_, ?_⟩
 ·rintro ⟨x, s', H', h, hq⟩
  simp only [cg0] at h
  cases hx : denC E c s H with
  | none => rw [hx] at h; simp [bm2] at h
  | some y =>
   obtain ⟨y, s1, H1⟩ := y
   refine ⟨y, s1, H1, hx, ?_⟩
   rw [hx] at h
   cases y with
   | exit id' =>
    simp only [bm2] at h
    simp only [am6]
    split at h
    ·rename_i e; rw [if_pos e]; cases h; exact hq
    ·rename_i e; rw [if_neg e]; cases h; exact hq
   | _ => cases h; exact hq
 ·rintro ⟨x, s1, H1, h1, hq⟩
  simp only at h1 hq
  unfold Hd
  simp only [cg0, h1]
  cases x with
  | exit id' =>
   simp only [am6] at hq
   simp only [bm2]
   split at hq
   ·rename_i e; rw [if_pos e]; exact ⟨_, _, _, rfl, hq⟩
   ·rename_i e; rw [if_neg e]; exact ⟨_, _, _, rfl, hq⟩
  | _ => exact ⟨_, _, _, rfl, hq⟩
theorem ep3 {c : EOpd} {a b : EC} : @Hd E ⟨.cond c a b⟩ ⟨s⟩ ⟨H⟩ ⟨Q⟩ = @HC (ev E.γ s c) ⟨fun _ => @Hd E ⟨a⟩ ⟨s⟩ ⟨H⟩ ⟨Q⟩⟩ ⟨fun _ => @Hd E ⟨b⟩ ⟨s⟩ ⟨H⟩ ⟨Q⟩⟩ := by
 unfold Hd
 simp only [dw5]
 generalize ev E.γ s c = v
 cases v with
 | bool t => cases t <;> simp [bv7, HC]
 | _ => simp [bv7, HC]
theorem eu5 : @HO E ⟨[]⟩ ⟨s⟩ ⟨H⟩ ⟨Q⟩ = Q .normal s H := propext ⟨fun ⟨x, s', H', h, hq⟩ => by cases h; exact hq, fun h => ⟨_, _, _, rfl, h⟩⟩
theorem eu7 : @HD E ⟨[]⟩ ⟨s⟩ ⟨H⟩ ⟨Q⟩ = Q .normal s H := propext ⟨fun ⟨x, s', H', h, hq⟩ => by cases h; exact hq, fun h => ⟨_, _, _, rfl, h⟩⟩
theorem ea5 {r : Res} {K : EV → Heap → Option Xsh} : (∃ x s' H', bs6 r s K = some (x, s', H') ∧ Q x s' H') = @HS r ⟨fun v H' => Q (.panic v) s H'⟩ ⟨fun v H' => ∃ x s1 H1, K v H' = some (x, s1, H1) ∧ Q x s1 H1⟩ := by
 unfold bs6 HS
 cases r with
 | none => simp
 | some y =>
  obtain ⟨y, H1⟩ := y
  cases y with
  | ret v => rfl
  | pan v => exact propext ⟨fun ⟨x, s', H', h, hq⟩ => by cases h; exact hq, fun h => ⟨_, _, _, rfl, h⟩⟩
theorem ep6 {d : Option Nat} {op : EOp} {l : List EOper} : @HO E ⟨⟨d, op, none⟩ :: l⟩ ⟨s⟩ ⟨H⟩ ⟨Q⟩ = @HS (opD E (ev E.γ s) H op) ⟨fun v H' => Q (.panic v) s H'⟩ ⟨fun v H' => @HO E ⟨l⟩ ⟨putA s d v⟩ ⟨H'⟩ ⟨Q⟩⟩ := by
 unfold HO denO opD
 simp only [opsF]
 exact ea5
theorem cv3 {v : EV} {t : Bool} {a b : Option Xsh} : (∃ x s' H', bh2 v t a b = some (x, s', H') ∧ Q x s' H') = @HG v t ⟨fun _ => ∃ x s' H', a = some (x, s', H') ∧ Q x s' H'⟩ ⟨fun _ => ∃ x s' H', b = some (x, s', H') ∧ Q x s' H'⟩ := by
 cases v with
 | bool t' => cases t' <;> cases t <;> simp [bh2, HG]
 | tup l => cases l <;> simp [bh2, HG]
 | _ => simp [bh2, HG]
theorem ei3 {d : Option Nat} {op : EOp} {g : Nat} {b : Bool} {l : List EOper} : @HO E ⟨⟨d, op, some (g, b)⟩ :: l⟩ ⟨s⟩ ⟨H⟩ ⟨Q⟩ =
  @HG (s g) b ⟨fun _ => @HO E ⟨⟨d, op, none⟩ :: l⟩ ⟨s⟩ ⟨H⟩ ⟨Q⟩⟩ ⟨fun _ => @HO E ⟨l⟩ ⟨putA s d (.tup [])⟩ ⟨H⟩ ⟨Q⟩⟩ := by
 unfold HO denO
 simp only [opsF]
 exact cv3
theorem dl6 {chg : Bool} {r : Res} {K : EV → Heap → Option Xsh} : (∃ x s' H', bp5 chg H r K = some (x, s', H') ∧ Q x s' H') = @HSD chg H r ⟨fun v H' => ∃ x s1 H1, K v H' = some (x, s1, H1) ∧ Q x s1 H1⟩ := by
 unfold bp5 HSD
 cases r with
 | none => simp
 | some y =>
  obtain ⟨y, H1⟩ := y
  cases y with
  | ret v =>
   simp only
   split
   ·rename_i e; simp [e]
   ·rename_i e; simp [e]
  | pan v => simp
theorem ep8 {d : Option Nat} {op : EOp} {c : Bool} {l : List (EOper × Bool)} : @HD E ⟨(⟨d, op, none⟩, c) :: l⟩ ⟨s⟩ ⟨H⟩ ⟨Q⟩ = @HSD c H (opD E (ev E.γ s) H op) ⟨fun v H' => @HD E ⟨l⟩ ⟨putA s d v⟩ ⟨H'⟩ ⟨Q⟩⟩ := by
 unfold HD denD opD
 simp only [drF]
 exact dl6
theorem ei4 {d : Option Nat} {op : EOp} {g : Nat} {b c : Bool} {l : List (EOper × Bool)} : @HD E ⟨(⟨d, op, some (g, b)⟩, c) :: l⟩ ⟨s⟩ ⟨H⟩ ⟨Q⟩ =
  @HG (s g) b ⟨fun _ => @HD E ⟨(⟨d, op, none⟩, c) :: l⟩ ⟨s⟩ ⟨H⟩ ⟨Q⟩⟩ ⟨fun _ => @HD E ⟨l⟩ ⟨putA s d (.tup [])⟩ ⟨H⟩ ⟨Q⟩⟩ := by
 unfold HD denD
 simp only [drF]
 exact cv3
theorem eu1 {v : EV} {Qp K : KT} : @HS (some (.ret v, H)) ⟨Qp⟩ ⟨K⟩ = K v H := rfl
theorem eu2 {v : EV} {Qp K : KT} : @HS (some (.pan v, H)) ⟨Qp⟩ ⟨K⟩ = Qp v H := rfl
theorem ei1 {v : EV} {H' : Heap} {K : KT} : @HSD true H (some (.ret v, H')) ⟨K⟩ = K v H' := by simp [HSD]
theorem ei2 {c : Bool} {v : EV} {K : KT} : @HSD c H (some (.ret v, H)) ⟨K⟩ = K v H := by simp [HSD, ax0]
theorem HG_tt {a b : Prop} : @HG (.bool true) true ⟨fun _ => a⟩ ⟨fun _ => b⟩ = a := rfl
theorem HG_ff {a b : Prop} : @HG (.bool false) false ⟨fun _ => a⟩ ⟨fun _ => b⟩ = a := rfl
theorem HG_tf {a b : Prop} : @HG (.bool true) false ⟨fun _ => a⟩ ⟨fun _ => b⟩ = b := rfl
theorem HG_ft {a b : Prop} : @HG (.bool false) true ⟨fun _ => a⟩ ⟨fun _ => b⟩ = b := rfl
theorem ep7 {t : Bool} {a b : Prop} : @HG (.tup []) t ⟨fun _ => a⟩ ⟨fun _ => b⟩ = b := rfl
theorem HC_t {a b : Prop} : @HC (.bool true) ⟨fun _ => a⟩ ⟨fun _ => b⟩ = a := rfl
theorem HC_f {a b : Prop} : @HC (.bool false) ⟨fun _ => a⟩ ⟨fun _ => b⟩ = b := rfl
theorem dr1 {v : EV} : ak2 (some (v, H)) = some (.ret v, H) := rfl
theorem dj2 {g : FuncId} {first cap as : List EV} : eg5 E (.func (.func g) first cap) as H = den E g (first ++ as ++ cap) H := rfl
theorem de4 {t : TypeId} {v : EV} : panD (.iface t v) H = some (.pan (.iface t v), H) := rfl
theorem dg9 {α : Type} {p : Prop} [Decidable p] {x : α} (h : p) : (if p then some x else none) = some x := if_pos h
theorem ds2 {α : Type} {p : Prop} [Decidable p] {x : α} (h : ¬p) : (if p then none else some x) = some x := if_neg h
theorem aa0 {t t' : Bool} {a b : Kt PT} (h1 : t' = t → a.k ()) (h2 : t' ≠ t → b.k ()) : @HG (.bool t') t a b := by
 unfold HG
 simp only
 split
 ·exact h1 (by assumption)
 ·exact h2 (by assumption)
theorem aa1 {t : Bool} {a b : Kt PT} (h1 : t = true → a.k ()) (h2 : t = false → b.k ()) : @HC (.bool t) a b := by
 cases t
 ·exact h2 rfl
 ·exact h1 rfl
section
variable {ρ : EOpd → EV}
theorem ed3 {f : EOpd} {as : List EOpd} : opD E ρ H (.call f as) = eg5 E (ρ f) (as.map ρ) H := rfl
theorem dp0 {x : EOpd} : opD E ρ H (.panic x) = panD (ρ x) H := rfl
theorem em1 {x} : opD E ρ H (.mov x) = ak2 (evOp ρ H (.mov x)) := rfl
theorem ec5 {c a b} : opD E ρ H (.pick c a b) = ak2 (evOp ρ H (.pick c a b)) := rfl
theorem em5 {x} : opD E ρ H (.box x) = ak2 (evOp ρ H (.box x)) := rfl
theorem dp6 {z p} : opD E ρ H (.build z p) = ak2 (evOp ρ H (.build z p)) := rfl
theorem em4 {a b c d e} : opD E ρ H (.bsl a b c d e) = ak2 (evOp ρ H (.bsl a b c d e)) := rfl
theorem ec8 {a b c} : opD E ρ H (.load a b c) = ak2 (evOp ρ H (.load a b c)) := rfl
theorem do6 {a b c} : opD E ρ H (.store a b c) = ak2 (evOp ρ H (.store a b c)) := rfl
theorem de7 {a} : opD E ρ H (.nilchk a) = ak2 (evOp ρ H (.nilchk a)) := rfl
theorem em6 {a b c} : opD E ρ H (.bin a b c) = ak2 (evOp ρ H (.bin a b c)) := rfl
theorem cu2 {a b c} : opD E ρ H (.cmpBool a b c) = ak2 (evOp ρ H (.cmpBool a b c)) := rfl
theorem df5 {a b c d} : opD E ρ H (.cmpAgg a b c d) = ak2 (evOp ρ H (.cmpAgg a b c d)) := rfl
theorem df4 {a b c d} : opD E ρ H (.cmpNil a b c d) = ak2 (evOp ρ H (.cmpNil a b c d)) := rfl
theorem er9 {a b} : opD E ρ H (.un a b) = ak2 (evOp ρ H (.un a b)) := rfl
theorem df3 {a b} : opD E ρ H (.cvtInt a b) = ak2 (evOp ρ H (.cvtInt a b)) := rfl
theorem dp2 {a b} : opD E ρ H (.iface a b) = ak2 (evOp ρ H (.iface a b)) := rfl
theorem ed1 {a b c} : opD E ρ H (.func a b c) = ak2 (evOp ρ H (.func a b c)) := rfl
theorem dp4 {a b} : opD E ρ H (.faddr a b) = ak2 (evOp ρ H (.faddr a b)) := rfl
theorem dp3 {a b c d} : opD E ρ H (.field a b c d) = ak2 (evOp ρ H (.field a b c d)) := rfl
theorem df2 {a b c d} : opD E ρ H (.iaddrA a b c d) = ak2 (evOp ρ H (.iaddrA a b c d)) := rfl
theorem df1 {a b c} : opD E ρ H (.iaddrS a b c) = ak2 (evOp ρ H (.iaddrS a b c)) := rfl
theorem ed0 {a b c d e} : opD E ρ H (.idxA a b c d e) = ak2 (evOp ρ H (.idxA a b c d e)) := rfl
theorem df0 {a b} : opD E ρ H (.idxStr a b) = ak2 (evOp ρ H (.idxStr a b)) := rfl
theorem cu1 {a b} : opD E ρ H (.extract a b) = ak2 (evOp ρ H (.extract a b)) := rfl
theorem do7 {a b c} : opD E ρ H (.slStr a b c) = ak2 (evOp ρ H (.slStr a b c)) := rfl
theorem ec4 {a b c d} : opD E ρ H (.slSl a b c d) = ak2 (evOp ρ H (.slSl a b c d)) := rfl
theorem do8 {a b c d e} : opD E ρ H (.slSl3 a b c d e) = ak2 (evOp ρ H (.slSl3 a b c d e)) := rfl
theorem em3 {a} : opD E ρ H (.cap a) = ak2 (evOp ρ H (.cap a)) := rfl
theorem dp5 {a b c} : opD E ρ H (.clear a b c) = ak2 (evOp ρ H (.clear a b c)) := rfl
theorem em2 {a b} : opD E ρ H (.len a b) = ak2 (evOp ρ H (.len a b)) := rfl
theorem dp1 : opD E ρ H .mkmap = ak2 (evOp ρ H .mkmap) := rfl
theorem de9 {a b c d e f} : opD E ρ H (.lookup a b c d e f) = ak2 (evOp ρ H (.lookup a b c d e f)) := rfl
theorem de8 {a b c d e} : opD E ρ H (.mapset a b c d e) = ak2 (evOp ρ H (.mapset a b c d e)) := rfl
theorem df6 {a b c d} : opD E ρ H (.append a b c d) = ak2 (evOp ρ H (.append a b c d)) := rfl
theorem ed4 {a b c d e} : opD E ρ H (.appz a b c d e) = ak2 (evOp ρ H (.appz a b c d e)) := rfl
theorem em0 {a} : opD E ρ H (.rng a) = ak2 (evOp ρ H (.rng a)) := rfl
theorem ec6 {a} : opD E ρ H (.next a) = ak2 (evOp ρ H (.next a)) := rfl
theorem do9 {a b c d} : opD E ρ H (.slArr a b c d) = ak2 (evOp ρ H (.slArr a b c d)) := rfl
theorem do5 {a} : opD E ρ H (.toStr a) = ak2 (evOp ρ H (.toStr a)) := rfl
theorem ec9 {a b} : opD E ρ H (.idxB a b) = ak2 (evOp ρ H (.idxB a b)) := rfl
theorem es2 {a b c} : opD E ρ H (.mm a b c) = ak2 (evOp ρ H (.mm a b c)) := rfl
theorem ec7 {a b c d e} : opD E ρ H (.mkSl a b c d e) = ak2 (evOp ρ H (.mkSl a b c d e)) := rfl
theorem ed2 {a b c} : opD E ρ H (.copy a b c) = ak2 (evOp ρ H (.copy a b c)) := rfl
theorem ct9 {a b c d} : opD E ρ H (.tassert a b c d) = ak2 (evOp ρ H (.tassert a b c d)) := rfl
theorem cu0 {a} : opD E ρ H (.runeStr a) = ak2 (evOp ρ H (.runeStr a)) := rfl
end
theorem dk6 {K : aa2 → Heap → Prop} : ba5 K Q .normal s H = K s H := rfl
theorem ek6 {K : aa2 → Heap → Prop} {id : Nat} : ba5 K Q (.exit id) s H = Q (.exit id) s H := rfl
theorem ek5 {K : aa2 → Heap → Prop} : ba5 K Q .ret s H = Q .ret s H := rfl
theorem ea0 {K : aa2 → Heap → Prop} {v : EV} : ba5 K Q (.panic v) s H = Q (.panic v) s H := rfl
theorem eg9 {id : Nat} : am6 id Q .normal s H = Q .normal s H := rfl
theorem et3 {id : Nat} : am6 id Q .ret s H = Q .ret s H := rfl
theorem eo5 {id : Nat} {v : EV} : am6 id Q (.panic v) s H = Q (.panic v) s H := rfl
theorem et4 {id id' : Nat} : am6 id Q (.exit id') s H = if id' = id then Q .normal s H else Q (.exit id') s H := rfl
def finQ (H : Heap) (rs : List ERes) (r : ER × Heap) (x : AX) (s : aa2) (H' : Heap) : Prop := finF H rs (some (x, s, H')) = some r
def finR (H : Heap) (r : ER × Heap) (v : Option EV) (H' : Heap) : Prop :=
 match v with
 | some v => finV H v .ret H' = some r
 | none => False
theorem en5 {rs : List ERes} {r : ER × Heap} {s : aa2} {H' : Heap} : finQ H rs r .ret s H' = finR H r (ab0 s H' rs) H' := by
 unfold finQ finR finF; cases h : ab0 s H' rs <;> simp [h]
theorem ef3 {rs : List ERes} {r : ER × Heap} {s : aa2} {H' : Heap} : finQ H rs r .normal s H' = finR H r (ab0 s H' rs) H' := by
 unfold finQ finR finF; cases h : ab0 s H' rs <;> simp [h]
theorem en6 {rs : List ERes} {r : ER × Heap} {v : EV} {s : aa2} {H' : Heap} : finQ H rs r (.panic v) s H' = (finV H v .pan H' = some r) := rfl
theorem ds9 {r : ER × Heap} {v : EV} {H' : Heap} : finR H r (some v) H' = (finV H v .ret H' = some r) := rfl
@[congr] theorem eq3 {r : ER × Heap} {v v' : Option EV} {H' : Heap} (h : v = v') : finR H r v H' = finR H r v' H' := by rw [h]
theorem cu5 {L : Nat} {v : EV} (hv : v.ok L = true) : newP L v = false := by
 cases v <;> first | rfl | (simp only [EV.ok, decide_eq_true_eq] at hv; simp only [newP, decide_eq_false_iff_not]; omega)
theorem aa4 {G : Heap} {v : EV} {K : EV → ER} {r : ER} (hv : v.ok H.length = true) (e : K v = r) : finV H v K (H ++ G) = some (r, H) := by
 unfold finV
 rw [cu5 hv, bf6 hv, List.take_left, ax0, Bool.true_or, ← e]; rfl
theorem ac5 {v : EV} {K : EV → ER} {r : ER} (hv : v.ok H.length = true) (e : K v = r) : finV H v K H = some (r, H) := by
 unfold finV
 rw [cu5 hv, bf6 hv, List.take_of_length_le (Nat.le_refl _), ax0, Bool.true_or, ← e]; rfl
theorem ca3 {G : Heap} {v v' : EV} {K : EV → ER} {r : ER} (hp : newP H.length v = false) (hv : fz H.length (H ++ G) 8 v = some v') (e : K v' = r) : finV H v K (H ++ G) = some (r, H) := by
 unfold finV
 rw [hp, hv, List.take_left, ax0, Bool.true_or, ← e]; rfl
theorem da6 (n : Nat) : ∀ (H G : Heap), okC n H (H ++ G) = true
 | [], G => by cases G <;> rfl
 | a :: H, G => by
  have : beqB a a = true := by
   have := ax0 [a]
   simpa [bs7, beqH] using this
  simp only [List.cons_append, okC, Bool.and_eq_true, Bool.or_eq_true]
  exact ⟨.inr this, da6 n H G⟩
theorem dp9 (n : Nat) {b : Option EB} (hb : okX n b = true) : ∀ (H : Heap) (k : Nat) (G : Heap), okC n H (H.set k b ++ G) = true
 | [], _, G => by cases G <;> rfl
 | a :: H, 0, G => by
  rw [List.set_cons_zero, List.cons_append]
  simp only [okC, Bool.and_eq_true, Bool.or_eq_true]
  exact ⟨.inl hb, da6 n H G⟩
 | a :: H, k + 1, G => by
  have : beqB a a = true := by
   have := ax0 [a]
   simpa [bs7, beqH] using this
  rw [List.set_cons_succ, List.cons_append]
  simp only [okC, Bool.and_eq_true, Bool.or_eq_true]
  exact ⟨.inr this, dp9 n hb H k G⟩
theorem be4 {k : Nat} {b : Option EB} {G : Heap} {v v' : EV} {K : EV → ER} {r : ER} (hp : newP H.length v = false) (hv : fz H.length (H.set k b ++ G) 8 v = some v') (hb : okX H.length b = true) (e : K v' = r) :
  finV H v K (H.set k b ++ G) = some (r, H.set k b) := by
 unfold finV
 rw [hp, hv, dp9 _ hb, Bool.or_true, ← e]
 have : List.take H.length (H.set k b ++ G) = H.set k b := by
  have hl : H.length = (H.set k b).length := by simp
  rw [hl, List.take_left]
 rw [this]; rfl
structure Def (E : Env) (f : FuncId) (ec : EC) (rs : List ERes) (nt : Nat) : Prop where
 T : E.T f = some ⟨ec, rs, nt⟩
 Ψ : ∀ as H, E.Ψ f as H = none
 K : E.K f = false
theorem af6 {f : FuncId} {ec : EC} {rs : List ERes} {nt : Nat} (hT : Def E f ec rs nt) {as : List EV} {r : ER × Heap} (hl : as.length ≤ nt) (h : @Hd E ⟨ec⟩ ⟨am4 as⟩ ⟨H⟩ ⟨finQ H rs r⟩) : den E f as H = some r := by
 rw [dw3 hT.T (hT.Ψ as H) hT.K hl]
 obtain ⟨x, s', H', h1, h2⟩ := h
 simp only at h1 h2
 rw [h1]
 exact h2
structure DefK (E : Env) (f : FuncId) (ec : EC) (rs : List ERes) (nt : Nat) : Prop where
 T : E.T f = some ⟨ec, rs, nt⟩
 Ψ : ∀ as H, E.Ψ f as H = none
 K : E.K f = true
def cv8 (rs : List ERes) (r : ER × Heap) (x : AX) (s : aa2) (H' : Heap) : Prop := finK rs (some (x, s, H')) = some r
def cv7 (r : ER × Heap) (v : Option EV) (H' : Heap) : Prop :=
 match v with
 | some v => (ER.ret v, H') = r
 | none => False
theorem ef4 {rs : List ERes} {r : ER × Heap} {s : aa2} {H' : Heap} : cv8 rs r .ret s H' = cv7 r (ab0 s H' rs) H' := by
 unfold cv8 cv7 finK; cases h : ab0 s H' rs <;> simp [h]
theorem dt0 {rs : List ERes} {r : ER × Heap} {s : aa2} {H' : Heap} : cv8 rs r .normal s H' = cv7 r (ab0 s H' rs) H' := by
 unfold cv8 cv7 finK; cases h : ab0 s H' rs <;> simp [h]
theorem ef5 {rs : List ERes} {r : ER × Heap} {v : EV} {s : aa2} {H' : Heap} : cv8 rs r (.panic v) s H' = ((ER.pan v, H') = r) := by unfold cv8 finK; simp
theorem dh4 {r : ER × Heap} {v : EV} {H' : Heap} : cv7 r (some v) H' = ((ER.ret v, H') = r) := rfl
@[congr] theorem en8 {r : ER × Heap} {v v' : Option EV} {H' : Heap} (h : v = v') : cv7 r v H' = cv7 r v' H' := by rw [h]
theorem ax9 {f : FuncId} {ec : EC} {rs : List ERes} {nt : Nat} (hT : DefK E f ec rs nt) {as : List EV} {r : ER × Heap} (hl : as.length ≤ nt) (h : @Hd E ⟨ec⟩ ⟨am4 as⟩ ⟨H⟩ ⟨cv8 rs r⟩) : den E f as H = some r := by
 rw [db6 hT.T (hT.Ψ as H) hl, hT.K]
 obtain ⟨x, s', H', h1, h2⟩ := h
 simp only at h1 h2
 rw [h1]
 exact h2
def Sl (s : aa2) : List (Nat × EV) → Prop
 | [] => True
 | (n, v) :: l => s n = v ∧ Sl s l
theorem ak0 {ι : Type} {c : EC} (J : ι → Prop) (μ : ι → Nat) (S : ι → List (Nat × EV)) (Hp : ι → Heap) (i0 : ι) (hJ : J i0) (hs : Sl s (S i0)) (hH : H = Hp i0)
  (step : ∀ i s, J i → Sl s (S i) → ∀ K : aa2 → Heap → Prop, (∀ j s' H', J j → μ j < μ i → Sl s' (S j) → H' = Hp j → K s' H') → @Hd E ⟨c⟩ ⟨s⟩ ⟨Hp i⟩ ⟨ba5 K Q⟩) : @Hd E ⟨.loop c⟩ ⟨s⟩ ⟨H⟩ ⟨Q⟩ := by
 have key : ∀ m i s, μ i = m → J i → Sl s (S i) → @Hd E ⟨.loop c⟩ ⟨s⟩ ⟨Hp i⟩ ⟨Q⟩ := by
  intro m
  induction m using Nat.strongRecOn with
  | _ m ih =>
   intro i s hm hJ hs
   have := step i s hJ hs (fun s' H' => @Hd E ⟨.loop c⟩ ⟨s'⟩ ⟨H'⟩ ⟨Q⟩) fun j s' H' hJ' hlt hs' e => by
    subst e
    exact ih (μ j) (by omega) j s' rfl hJ' hs'
   obtain ⟨x, s1, H1, h1, h2⟩ := this
   simp only at h1 h2
   show ∃ x s' H', denC E (.loop c) s (Hp i) = some (x, s', H') ∧ Q x s' H'
   rw [cq0, h1]
   cases x with
   | normal => exact h2
   | _ => exact ⟨_, _, _, rfl, h2⟩
 rw [hH]
 exact key _ i0 s rfl hJ hs
attribute [go_sem ↓] ep0 ep1 et9 eu0 ep2 et8 eh7 ep3 eu5 eu7 ep6 ei3 ep8 ei4 ed3 dp0 em1 ec5 em5 dp6 em4 ec8 do6 de7 em6 cu2 df5 df4 er9 df3 dp2 ed1 dp4 dp3 df2 df1 ed0 df0 cu1 do7 ec4 do8 em3 dp5 em2 dp1 de9 de8 df6 ed4 em0 ec6 do9 do5 ec9 es2 ec7 ed2 ct9 cu0 dk6 ek6 ek5 ea0 eg9 et3 eo5 et4 en5 ef3 en6 ef4 dt0 ef5
attribute [go_sem] eu1 eu2 ei1 ei2 HG_tt HG_ff HG_tf HG_ft ep7 HC_t HC_f dg9 ds2 dr1 dj2 de4 ds9 dh4 ab0 az5 bo4 List.nil_append List.append_nil List.cons_append
end
def look {α : Type} : List (Nat × α) → Nat → Option α
 | [], _ => none
 | (k, x) :: l, n => if n = k then some x else look l n
def AllT {α : Type} (p : Nat → α → Prop) : List (Nat × α) → Prop
 | [] => True
 | (k, x) :: l => p k x ∧ AllT p l
theorem AllT.look {α : Type} {p : Nat → α → Prop} : ∀ {l : List (Nat × α)}, AllT p l → ∀ {n : Nat} {x : α}, Abs.look l n = some x → p n x
 | [], _, n, x, h => by simp [Abs.look] at h
 | (k, y) :: l, h, n, x, hx => by
  unfold Abs.look at hx
  split at hx
  ·rename_i e
   obtain rfl := Option.some.inj hx
   rw [e]
   exact h.1
  ·exact AllT.look h.2 hx
section
variable {E : Env} {s : aa2} {H : Heap} {Q : QT}
theorem cm2 {r : Nat → Res} {r' : Res} {K : Nat → EV → Bool} {K' : EV → Bool} (hr : ∀ q, r' = some q → ∃ n, r n = some q) (mr : ∀ n m, n ≤ m → ∀ q, r n = some q → r m = some q) (hk : ∀ v, K' v = true → ∃ n, K n v = true) (mk : ∀ n m, n ≤ m → ∀ v, K n v = true → K m v = true)
  (h : ax1 H r' K' = true) : ∃ n, ax1 H (r n) (K n) = true := by
 unfold ax1 at h
 split at h
 ·rename_i v H'
  simp only [Bool.and_eq_true] at h
  obtain ⟨n, hn⟩ := hr _ rfl
  obtain ⟨m, hm⟩ := hk v h.2
  refine ⟨max n m, ?_⟩
  rw [mr n _ (Nat.le_max_left n m) _ hn]
  simp only [ax1, Bool.and_eq_true]
  exact ⟨h.1, mk m _ (Nat.le_max_right n m) _ hm⟩
 ·simp at h
theorem cc1 : ∀ (l : List GO) (bs : List Bool) (s : aa2) (H : Heap), aq1 (den E) E.γ l bs s H = true → ∃ n, aq1 (runF E n) E.γ l bs s H = true
 | [], _, _, _, _ => ⟨0, rfl⟩
 | g :: l, bs, s, H, h => by
  have ih := cc1 l
  have up : ∀ n m, n ≤ m → ∀ bs s H, aq1 (runF E n) E.γ l bs s H = true → aq1 (runF E m) E.γ l bs s H = true := fun n m hnm bs s H h => bj3 (bb9 hnm) _ _ _ _ h
  have one : ∀ {K : Nat → EV → Bool} {K' : EV → Bool}, (∀ v, K' v = true → ∃ n, K n v = true) → (∀ n m, n ≤ m → ∀ v, K n v = true → K m v = true) → ax1 H (opF (den E) (ev E.γ s) H g.o.op) K' = true → ∃ n, ax1 H (opF (runF E n) (ev E.γ s) H g.o.op) (K n) = true := fun hk mk h =>
   cm2 (fun q hq => bi7 hq) (fun n m hnm q hq => by9 hnm q hq) hk mk h
  unfold aq1 at h
  by_cases hb : bs.headD true = true
  ·rw [if_pos hb] at h
   obtain ⟨n, hn⟩ := ih _ _ _ h
   exact ⟨n, by unfold aq1; rw [if_pos hb]; exact hn⟩
  ·rw [if_neg hb] at h
   simp only [Bool.and_eq_true] at h
   have h2 := h.2
   cases hg : g.o.guard with
   | none =>
    rw [hg] at h2
    obtain ⟨n, hn⟩ := one (K := fun n v => aq1 (runF E n) E.γ l bs.tail (putA s g.o.dst v) H) (fun v hv => ih _ _ _ hv) (fun n m hnm v hv => up n m hnm _ _ _ hv) h2
    exact ⟨n, by unfold aq1; rw [if_neg hb, hg]; simp only [Bool.and_eq_true]; exact ⟨h.1, hn⟩⟩
   | some p =>
    obtain ⟨d, b⟩ := p
    rw [hg] at h2
    simp only at h2
    unfold cv4 at h2
    split at h2
    ·rename_i t ht
     split at h2
     ·rename_i e
      obtain ⟨n, hn⟩ := one (K := fun n v => aq1 (runF E n) E.γ l bs.tail (putA s g.o.dst v) H) (fun v hv => ih _ _ _ hv) (fun n m hnm v hv => up n m hnm _ _ _ hv) h2
      exact ⟨n, by unfold aq1; rw [if_neg hb, hg]; simp only [Bool.and_eq_true, cv4, ht, if_pos e]; exact ⟨h.1, hn⟩⟩
     ·rename_i e
      obtain ⟨n, hn⟩ := ih _ _ _ h2
      exact ⟨n, by unfold aq1; rw [if_neg hb, hg]; simp only [Bool.and_eq_true, cv4, ht, if_neg e]; exact ⟨h.1, hn⟩⟩
    ·rename_i ht
     obtain ⟨n, hn⟩ := ih _ _ _ h2
     exact ⟨n, by unfold aq1; rw [if_neg hb, hg]; simp only [Bool.and_eq_true, cv4, ht]; exact ⟨h.1, hn⟩⟩
    ·simp at h2
theorem cd2 {g : GO} {r : Nat → Res} {r' : Res} {K p : Nat → EV → Heap → Option Xsh} {K' p' : EV → Heap → Option Xsh} {x : Xsh} (hr : ∀ q, r' = some q → ∃ n, r n = some q) (mr : ∀ n m, n ≤ m → ∀ q, r n = some q → r m = some q) (hk : ∀ v H y, K' v H = some y → ∃ n, K n v H = some y) (mk : ∀ n m, n ≤ m → ∀ v H y, K n v H = some y → K m v H = some y)
  (hp : ∀ v H y, p' v H = some y → ∃ n, p n v H = some y) (mp : ∀ n m, n ≤ m → ∀ v H y, p n v H = some y → p m v H = some y) (h : bb3 g H r' K' p' = some x) : ∃ n, bb3 g H (r n) (K n) (p n) = some x := by
 unfold bb3 at h
 split at h
 ·rename_i v H'
  split at h
  ·rename_i e
   obtain ⟨n, hn⟩ := hr _ rfl
   obtain ⟨m, hm⟩ := hk _ _ _ h
   refine ⟨max n m, ?_⟩
   rw [mr n _ (Nat.le_max_left n m) _ hn]
   simp only [bb3, if_pos e]
   exact mk m _ (Nat.le_max_right n m) _ _ _ hm
  ·simp at h
 ·rename_i v H'
  obtain ⟨n, hn⟩ := hr _ rfl
  obtain ⟨m, hm⟩ := hp _ _ _ h
  refine ⟨max n m, ?_⟩
  rw [mr n _ (Nat.le_max_left n m) _ hn]
  exact mp m _ (Nat.le_max_right n m) _ _ _ hm
 ·simp at h
theorem db5 {ds : List Nat} : ∀ (l : List GO) (s : aa2) (H : Heap) (r : Xsh), drG (den E) E.γ ds l s H = some r → ∃ n, drG (runF E n) E.γ ds l s H = some r
 | [], _, _, _, h => ⟨0, h⟩
 | g :: l, s, H, r, h => by
  have ih := db5 (ds := ds) l
  have up : ∀ n m, n ≤ m → ∀ s H y, drG (runF E n) E.γ ds l s H = some y → drG (runF E m) E.γ ds l s H = some y := fun n m hnm s H y h => br8 (bb9 hnm) _ _ _ _ h
  have kc : ∀ v H' y, (if g.us.all (ah9 (putA s g.o.dst v) H') then drG (den E) E.γ ds l (putA s g.o.dst v) H' else none) = some y → ∃ n, (if g.us.all (ah9 (putA s g.o.dst v) H') then drG (runF E n) E.γ ds l (putA s g.o.dst v) H' else none) = some y := fun v H' y h => by
   split at h
   ·rename_i e
    obtain ⟨n, hn⟩ := ih _ _ _ h
    exact ⟨n, by rw [if_pos e]; exact hn⟩
   ·simp at h
  have ku : ∀ n m, n ≤ m → ∀ v H' y, (if g.us.all (ah9 (putA s g.o.dst v) H') then drG (runF E n) E.γ ds l (putA s g.o.dst v) H' else none) = some y → (if g.us.all (ah9 (putA s g.o.dst v) H') then drG (runF E m) E.γ ds l (putA s g.o.dst v) H' else none) = some y := fun n m hnm v H' y h => by
   split at h
   ·rename_i e; rw [if_pos e]; exact up n m hnm _ _ _ h
   ·simp at h
  unfold drG at h
  cases hg : g.o.guard with
  | none =>
   rw [hg] at h
   obtain ⟨n, hn⟩ := cd2 (fun q hq => bi7 hq) (fun n m hnm q hq => by9 hnm q hq) kc ku
    (p := fun n v H' => if g.chg && br1 g.o.op && aq1 (runF E n) E.γ l g.beh s H then some (.panic v, forget ds s, H') else none) (fun v H' y h => by
     split at h
     ·rename_i e
      simp only [Bool.and_eq_true] at e
      obtain ⟨n, hn⟩ := cc1 _ _ _ _ e.2
      exact ⟨n, by rw [if_pos (by simp only [Bool.and_eq_true]; exact ⟨e.1, hn⟩)]; exact h⟩
     ·simp at h) (fun n m hnm v H' y h => by
     split at h
     ·rename_i e
      simp only [Bool.and_eq_true] at e
      rw [if_pos (by simp only [Bool.and_eq_true]; exact ⟨e.1, bj3 (bb9 hnm) _ _ _ _ e.2⟩)]
      exact h
     ·simp at h) h
   exact ⟨n, by unfold drG; rw [hg]; exact hn⟩
  | some p =>
   obtain ⟨d, b⟩ := p
   rw [hg] at h
   simp only at h
   obtain ⟨n, hn⟩ := bt3 (a := fun n => bb3 g H (opF (runF E n) (ev E.γ s) H g.o.op) (fun v H' => if g.us.all (ah9 (putA s g.o.dst v) H') then drG (runF E n) E.γ ds l (putA s g.o.dst v) H' else none) fun _ _ => none)
    (b := fun n => if g.us.all (ah9 (putA s g.o.dst (.tup [])) H) then drG (runF E n) E.γ ds l (putA s g.o.dst (.tup [])) H else none)
    (fun y hy => cd2 (p := fun _ _ _ => none) (fun q hq => bi7 hq) (fun n m hnm q hq => by9 hnm q hq) kc ku (fun v H' y h => by simp at h) (fun n m hnm v H' y h => by simp at h) hy) (fun y hy => kc _ _ _ hy) h
   exact ⟨n, by unfold drG; rw [hg]; exact hn⟩
theorem di4 {gs : List GO} {ds : List Nat} : denC E (.drawG gs ds) s H = drG (den E) E.γ ds gs s H := by
 refine bi6 fun r => ⟨fun h => ?_, fun h => ?_⟩
 ·obtain ⟨n, hn⟩ := ad8.1 h
  cases n with
  | zero => simp [af0] at hn
  | succ n => exact br8 ch4 _ _ _ _ hn
 ·obtain ⟨n, hn⟩ := db5 _ _ _ _ h
  refine ad8.2 ⟨n + 1, ?_⟩
  exact br8 (bb9 (Nat.le_succ n)) _ _ _ _ hn
/-! ### The head's rules -/
def HDG (E : Env) (ds : List Nat) [l : Kt (List GO)] [s : Kt aa2] [H : Kt Heap] [Q : Kt QT] : Prop := ∃ x s' H', drG (den E) E.γ ds l.k s.k H.k = some (x, s', H') ∧ Q.k x s' H'
def HSG (chg : Bool) (H : Heap) (r : Res) [K : Kt KT] [p : Kt KT] : Prop :=
 match r with
 | some (.ret v, H') => (chg || bs7 H' H) = true ∧ K.k v H'
 | some (.pan v, H') => p.k v H'
 | none => False
@[congr] theorem eu3 {c : Bool} {r r' : Res} {K p : Kt KT} (h : r = r') : @HSG c H r K p = @HSG c H r' K p := by rw [h]
theorem eh6 {gs : List GO} {ds : List Nat} : @Hd E ⟨.drawG gs ds⟩ ⟨s⟩ ⟨H⟩ ⟨Q⟩ = @HDG E ds ⟨gs⟩ ⟨s⟩ ⟨H⟩ ⟨Q⟩ := by unfold Hd HDG; simp only [di4]
theorem ep9 {ds : List Nat} : @HDG E ds ⟨[]⟩ ⟨s⟩ ⟨H⟩ ⟨Q⟩ = Q .normal s H := propext ⟨fun ⟨x, s', H', h, hq⟩ => by cases h; exact hq, fun h => ⟨_, _, _, rfl, h⟩⟩
theorem cl1 {g : GO} {r : Res} {K p : EV → Heap → Option Xsh} : (∃ x s' H', bb3 g H r K p = some (x, s', H') ∧ Q x s' H') = @HSG g.chg H r ⟨fun v H' => ∃ x s1 H1, K v H' = some (x, s1, H1) ∧ Q x s1 H1⟩ ⟨fun v H' => ∃ x s1 H1, p v H' = some (x, s1, H1) ∧ Q x s1 H1⟩ := by
 unfold bb3 HSG
 cases r with
 | none => simp
 | some y =>
  obtain ⟨y, H1⟩ := y
  cases y with
  | ret v =>
   simp only
   split
   ·rename_i e; simp [e]
   ·rename_i e; simp [e]
  | pan v => rfl
theorem ee2 {c : Prop} [Decidable c] {y : Option Xsh} : (∃ x s' H', (if c then y else none) = some (x, s', H') ∧ Q x s' H') = (c ∧ ∃ x s' H', y = some (x, s', H') ∧ Q x s' H') := by
 by_cases h : c
 ·simp [h]
 ·simp [h]
theorem dy6 {c : Bool} {r : Res} {K K' p p' : KT} (h1 : ∀ v H', K v H' = K' v H') (h2 : ∀ v H', p v H' = p' v H') : @HSG c H r ⟨K⟩ ⟨p⟩ = @HSG c H r ⟨K'⟩ ⟨p'⟩ := by
 rw [show K = K' from funext fun v => funext fun H' => h1 v H', show p = p' from funext fun v => funext fun H' => h2 v H']
theorem eu6 {v : EV} {t : Bool} {a a' b b' : Prop} (h1 : a = a') (h2 : b = b') : @HG v t ⟨fun _ => a⟩ ⟨fun _ => b⟩ = @HG v t ⟨fun _ => a'⟩ ⟨fun _ => b'⟩ := by rw [h1, h2]
theorem ei5 {ds : List Nat} {d : Option Nat} {op : EOp} {chg : Bool} {us : List RC} {beh : List Bool} {l : List GO} : @HDG E ds ⟨⟨⟨d, op, none⟩, chg, us, beh⟩ :: l⟩ ⟨s⟩ ⟨H⟩ ⟨Q⟩ =
  @HSG chg H (opD E (ev E.γ s) H op) ⟨fun v H' => us.all (ah9 (putA s d v) H') = true ∧ @HDG E ds ⟨l⟩ ⟨putA s d v⟩ ⟨H'⟩ ⟨Q⟩⟩
   ⟨fun v H' => (chg && br1 op && aq1 (den E) E.γ l beh s H) = true ∧ Q (.panic v) (forget ds s) H'⟩ := by
 unfold HDG opD
 simp only [drG]
 rw [cl1]
 exact dy6 (fun v H' => ee2) fun v H' => by
  rw [ee2]
  congr 1
  exact propext ⟨fun ⟨x, s', H', h, hq⟩ => by cases h; exact hq, fun h => ⟨_, _, _, rfl, h⟩⟩
theorem dy7 {ds : List Nat} {d : Option Nat} {op : EOp} {g : Nat} {b chg : Bool} {us : List RC} {beh : List Bool} {l : List GO} : @HDG E ds ⟨⟨⟨d, op, some (g, b)⟩, chg, us, beh⟩ :: l⟩ ⟨s⟩ ⟨H⟩ ⟨Q⟩ =
  @HG (s g) b ⟨fun _ => @HSG chg H (opD E (ev E.γ s) H op) ⟨fun v H' => us.all (ah9 (putA s d v) H') = true ∧ @HDG E ds ⟨l⟩ ⟨putA s d v⟩ ⟨H'⟩ ⟨Q⟩⟩ ⟨fun _ _ => False⟩⟩
   ⟨fun _ => us.all (ah9 (putA s d (.tup [])) H) = true ∧ @HDG E ds ⟨l⟩ ⟨putA s d (.tup [])⟩ ⟨H⟩ ⟨Q⟩⟩ := by
 unfold HDG opD
 simp only [drG]
 rw [cv3]
 exact eu6 (by rw [cl1]; exact dy6 (fun v H' => ee2) fun v H' => by simp) ee2
theorem eh9 {v : EV} {H' : Heap} {K p : KT} : @HSG true H (some (.ret v, H')) ⟨K⟩ ⟨p⟩ = K v H' := by simp [HSG]
theorem ei0 {c : Bool} {v : EV} {K p : KT} : @HSG c H (some (.ret v, H)) ⟨K⟩ ⟨p⟩ = K v H := by simp [HSG, ax0]
theorem ep5 {c : Bool} {v : EV} {H' : Heap} {K p : KT} : @HSG c H (some (.pan v, H')) ⟨K⟩ ⟨p⟩ = p v H' := rfl
attribute [go_sem ↓] eh6 ep9 ei5 dy7
attribute [go_sem] eh9 ei0 ep5
end
theorem du1 {c : Bool} {t : TypeId} {v : EV} : bn6 c .ifc (.iface t v) .nilif = some false := rfl
theorem dh8 {c : Bool} {t : TypeId} {v : EV} : bn6 c .ifc .nilif (.iface t v) = some false := rfl
theorem dh9 {x : EOpd} : bn6 (x.isC || (EOpd.c .nilif).isC) .ifc .nilif .nilif = some true := by rw [show (x.isC || (EOpd.c .nilif).isC) = true from by cases x.isC <;> rfl]; rfl
theorem dt9 {c : Bool} {x y : EV} : bn6 c .sl x y = cp0 .sl x y := rfl
theorem du0 {c : Bool} {x y : EV} : bn6 c .pt x y = cp0 .pt x y := rfl
theorem du2 {c : Bool} {x y : EV} : bn6 c .mp x y = cp0 .mp x y := rfl
theorem du3 {c : Bool} {x y : EV} : bn6 c .fn x y = cp0 .fn x y := rfl
theorem dt5 {t : TypeId} {z v : EV} : co9 t true z (.iface t v) = some (.tup [v, .bool true]) := by simp [co9]
theorem dt7 {t : TypeId} {z v : EV} : co9 t false z (.iface t v) = some v := by simp [co9]
theorem dt6 {t : TypeId} {z : EV} : co9 t true z .nilif = some (.tup [z, .bool false]) := rfl
theorem cw2 {H : Heap} : bt4 .nilsl H = some (.str []) := rfl
theorem cw1 {H : Heap} : bt4 .zsl H = some (.str []) := rfl
theorem dv5 : dv6 .nilsl = some 0 := rfl
theorem dv4 : dv6 .zsl = some 0 := rfl
theorem du6 : bo5 false .zsl = some 0 := rfl
theorem cu6 {α β : Type} {f : α → β} {x : α} : Option.map f (some x) = some (f x) := rfl
theorem aq2 {E : Env} {s : aa2} {H : Heap} {Q : QT} {c : EC} (h : @Hd E ⟨c⟩ ⟨s⟩ ⟨H⟩ ⟨ba5 (fun s' H' => @Hd E ⟨.loop c⟩ ⟨s'⟩ ⟨H'⟩ ⟨Q⟩) Q⟩) : @Hd E ⟨.loop c⟩ ⟨s⟩ ⟨H⟩ ⟨Q⟩ := by
 obtain ⟨x, s', H', h1, h2⟩ := h
 simp only at h1 h2
 show ∃ x s' H', denC E (.loop c) s H = some (x, s', H') ∧ Q x s' H'
 rw [cq0, h1]
 cases x with
 | normal => exact h2
 | _ => exact ⟨_, _, _, rfl, h2⟩
theorem co5 {H H1 : Heap} {v : EV} {K : EV → ER} {r : ER} (hv : v.ok H.length = true) (hl : H1.length = H.length) (e : K v = r) : finV H v K H1 = some (r, H1) := by
 unfold finV
 rw [cu5 hv, bf6 hv, ← e, ← hl, List.take_length]
 simp
def dh5 (H : Heap) (rs : List ERes) (P : ER × Heap → Prop) (x : AX) (s : aa2) (H' : Heap) : Prop := ∃ r, finF H rs (some (x, s, H')) = some r ∧ P r
def cv6 (H : Heap) (P : ER × Heap → Prop) (v : Option EV) (H' : Heap) : Prop :=
 match v with
 | some v => ∃ r, finV H v .ret H' = some r ∧ P r
 | none => False
theorem ef1 {H : Heap} {rs : List ERes} {P : ER × Heap → Prop} {s : aa2} {H' : Heap} : dh5 H rs P .ret s H' = cv6 H P (ab0 s H' rs) H' := by
 unfold dh5 cv6 finF; cases h : ab0 s H' rs <;> simp [h]
theorem ds7 {H : Heap} {rs : List ERes} {P : ER × Heap → Prop} {s : aa2} {H' : Heap} : dh5 H rs P .normal s H' = cv6 H P (ab0 s H' rs) H' := by
 unfold dh5 cv6 finF; cases h : ab0 s H' rs <;> simp [h]
theorem ef2 {H : Heap} {rs : List ERes} {P : ER × Heap → Prop} {v : EV} {s : aa2} {H' : Heap} : dh5 H rs P (.panic v) s H' = ∃ r, finV H v .pan H' = some r ∧ P r := rfl
theorem dh3 {H : Heap} {P : ER × Heap → Prop} {v : EV} {H' : Heap} : cv6 H P (some v) H' = ∃ r, finV H v .ret H' = some r ∧ P r := rfl
@[congr] theorem en7 {H : Heap} {P : ER × Heap → Prop} {v v' : Option EV} {H' : Heap} (h : v = v') : cv6 H P v H' = cv6 H P v' H' := by rw [h]
theorem cp6 {E : Env} {H : Heap} {f : FuncId} {ec : EC} {rs : List ERes} {nt : Nat} (hT : Def E f ec rs nt) {as : List EV} {P : ER × Heap → Prop} (hl : as.length ≤ nt) (h : @Hd E ⟨ec⟩ ⟨am4 as⟩ ⟨H⟩ ⟨dh5 H rs P⟩) : ∃ r, den E f as H = some r ∧ P r := by
 rw [dw3 hT.T (hT.Ψ as H) hT.K hl]
 obtain ⟨x, s', H', h1, r, h2, h3⟩ := h
 simp only at h1
 rw [h1]
 exact ⟨r, h2, h3⟩
attribute [go_sem ↓] ef1 ds7 ef2
attribute [go_sem] dh3
attribute [go_sem] du1 dh8 dh9 dt9 du0 du2 du3 dt5 dt7 dt6 cw2 cw1 dv5 dv4 du6 cu6
end Abs
