/- A part. -/
import Derived.Test.YtaifcggapmdhdaaDen1
import Derived.RecoverIn
set_option linter.all false
namespace Abs
open Go
def resDfr (P : Program) (n : Nat) (own : List Nat) : Code → Option (List EOper × EOpd × List EOpd)
 | .region _ ops false =>
  match ops.toList.reverse with
  | o :: rs =>
   match o.op, o.guard, o.dst with
   | .defer { callee := .value f, args, .. }, none, none =>
    match rs.reverse.mapM (resOper P n own ops), resOpd f, args.toList.mapM resOpd with
    | some l, some f, some as => some (l, f, as)
    | _, _, _ => none
   | _, _, _ => none
  | [] => none
 | _ => none
def resF (P : Program) (n : Nat) (own : List Nat) : Code → Option EF
 | .seq a b =>
  match resDfr P n own a with
  | some (l, f, as) => (resC P n own b).map (.dfr l f as)
  | none =>
   match resC P n own a, resF P n own b with
   | some x, some y => some (.pre x y)
   | _, _ => none
 | c => (resC P n own c).map .code
def resD (P : Program) (n : Nat) (own : List Nat) : Code → Option (Nat × Nat × EC)
 | .seq (.region _ ops false) c =>
  match ops.toList with
  | [o0, o1] =>
   match o0.op, o0.dst, o0.guard, o1.op, o1.dst, o1.guard with
   | .call { callee := .builtin .recover, .. }, some d0, none, .assign (.tmp t), some d1, none =>
    if t = d0 ∧ d0 < n ∧ d1 < n then (resC P n own c).map fun x => (d0, d1, x) else none
   | _, _, _, _, _, _ => none
  | _ => none
 | _ => none
def BodyE (P : Program) (f : FuncId) (ef : EF) (rs : List ERes) (nt : Nat) : Prop :=
 ∃ (fn : Func) (c : Code) (own : List Nat), P.funcs[f]? = some fn ∧ fn.body = some c ∧ (fn.name == "runtime.NumGoroutine") = false ∧ resF P nt own c = some ef ∧ fn.results.toList.mapM (resRes P) = some rs ∧ fn.ntmps = nt
def BodyD (P : Program) (f : FuncId) (d0 d1 : Nat) (ec : EC) (nt : Nat) : Prop :=
 ∃ (fn : Func) (c : Code) (own : List Nat), P.funcs[f]? = some fn ∧ fn.body = some c ∧ (fn.name == "runtime.NumGoroutine") = false ∧ resD P nt own c = some (d0, d1, ec) ∧ fn.results.toList.mapM (resRes P) = some [] ∧ fn.ntmps = nt
section
variable {P : Program} {γ : Nat → EV} {n N0 : Nat} {φ φ0 : Nat → Nat} {I I0 : Nat → Prop} {s : Slots} {H H0 : Heap} {a : Act} {w w0 : World}
theorem wpListIn_conv {r : Option Nat} {m : Nat} {ops : Array Oper} {Q Q' : Exit → Act → World → Prop} {l2 : List Oper} (hq : ∀ e a w, Q e a w → Exit.then (fun a w => wpListIn (FR r) m P ops Q' l2 a w) Q' e a w) :
  ∀ (l1 : List Oper) (a : Act) (w : World), wpListIn (FR r) m P ops Q l1 a w → wpListIn (FR r) m P ops Q' (l1 ++ l2) a w
 | [], a, w, h => hq .normal a w h
 | o :: l, a, w, h => by
  have ih := wpListIn_conv hq l
  simp only [wpListIn, List.cons_append] at h ⊢
  split
  ·rename_i hw
   rw [if_pos hw] at h
   refine ⟨h.1, ?_⟩
   have h2 := h.2
   generalize (o.semAt (FR r).round a.eval).run P w = res at h2 ⊢
   have out : LetsOut Q → LetsOut Q' := fun ⟨a, w, h⟩ => ⟨a, w, hq .outgrown a w h⟩
   cases res with
   | ok x w' =>
    cases x <;> simp only [Oper.uponIn] at h2 ⊢ <;> first
     | exact ih _ _ h2
     | exact ⟨h2.1, h2.2.mono fun e w'' he => by cases e <;> first | exact ih _ _ he | exact hq _ _ _ he | exact out he⟩
     | exact ⟨h2.1, h2.2.mono fun v w'' he => ih _ _ he⟩
     | exact h2.elim
   | halt x w' => cases x <;> simp only [Oper.uponIn] at h2 ⊢ <;> first | exact hq _ _ _ h2 | exact h2.elim
  ·rename_i hw
   rw [if_neg hw] at h
   exact ⟨h.1, ih _ _ h.2⟩
variable {call : FuncId → List EV → Heap → Res}
def PostE (P : Program) (γ : Nat → EV) (n N0 : Nat) (φ : Nat → Nat) (I : Nat → Prop) (H : Heap) (w : World) (r : Xsh × Option (FuncId × List EV)) (e : Exit) (a' : Act) (w' : World) : Prop :=
 match r.2 with
 | none => Post γ n ⟨N0, [], true⟩ φ I H w (Qis r.1) e a' w'
 | some (g, as) => ∃ (dv : Deferred) (vs : Array Value), (∃ fv cap, dv.target = .fn fv cap) ∧ (Callable P g → ∀ w, (invoke dv.target dv.args).run P w = .ok (.enter g vs) w) ∧
   ∃ φ' I' s' H' x, Evo φ I H w φ' I' H' w' ∧ Rel γ n ⟨N0, [dv], true⟩ φ' I' s' H' a' w' ∧ XR φ' H'.length I' w' x e ∧ Qis r.1 x s' H' ∧ RCs φ' H'.length I' w' as vs.toList
theorem PostE.trans {r : Xsh × Option (FuncId × List EV)} {e : Exit} {a' : Act} {w' : World} (h : Evo φ0 I0 H0 w0 φ I H w) (g : PostE P γ n N0 φ I H w r e a' w') : PostE P γ n N0 φ0 I0 H0 w0 r e a' w' := by
 unfold PostE at g ⊢
 split at g
 ·exact g.trans h
 ·obtain ⟨dv, vs, g1, g2, φ', I', s', H', x, g3, g4, g5, g6, g7⟩ := g
  exact ⟨dv, vs, g1, g2, φ', I', s', H', x, h.trans g3, g4, g5, g6, g7⟩
theorem rcs_parts {f : Fn} {first cap args : List EV} {vf vc : Array Value} {va : Array Value} (h : RV φ H.length I w (.func f first cap) (.func f vf vc)) (ha : RCs φ H.length I w args va.toList) :
  RCs φ H.length I w (first ++ args ++ cap) (vf ++ va ++ vc).toList := by
 cases h with
 | func _ _ _ _ _ l1 l2 l3 l4 =>
 have o1 := ha.1
 refine ⟨by simp [l1, l2, o1], fun k x v hx hv => ?_⟩
 simp only [Array.toList_append] at hv
 by_cases k1 : k < first.length
 ·rw [List.append_assoc, List.getElem?_append_left k1] at hx
  rw [List.append_assoc, List.getElem?_append_left (by simp; omega)] at hv
  exact l3 k x v hx (by simpa using hv)
 ·rw [List.append_assoc, List.getElem?_append_right (by omega)] at hx
  rw [List.append_assoc, List.getElem?_append_right (by simp; omega)] at hv
  have e1 : vf.toList.length = first.length := by simp [l1]
  rw [e1] at hv
  by_cases k2 : k - first.length < args.length
  ·rw [List.getElem?_append_left k2] at hx
   rw [List.getElem?_append_left (by omega)] at hv
   exact ha.2 _ x v hx hv
  ·rw [List.getElem?_append_right (by omega)] at hx
   rw [List.getElem?_append_right (by omega)] at hv
   rw [← o1] at hv
   exact l4 _ x v hx (by simpa using hv)
theorem efF_sound (hcall : CallsOk P γ call) {own : List Nat} : ∀ (c : Code) (ef : EF), resF P n own c = some ef → ∀ (k : Nat) (r : Xsh × Option (FuncId × List EV)) (φ : Nat → Nat) (I : Nat → Prop) (s : Slots) (H : Heap) (a : Act) (w : World),
  Rel γ n ⟨N0, [], true⟩ φ I s H a w → efF call γ k ef s H = some r → c.wpIn (FR none) 3 P (PostE P γ n N0 φ I H w r) a w := by
 have flat : ∀ (c : Code) (ec : EC), resC P n own c = some ec → ∀ (k : Nat) (r : Xsh × Option (FuncId × List EV)) (φ : Nat → Nat) (I : Nat → Prop) (s : Slots) (H : Heap) (a : Act) (w : World),
   Rel γ n ⟨N0, [], true⟩ φ I s H a w → efF call γ k (.code ec) s H = some r → c.wpIn (FR none) 3 P (PostE P γ n N0 φ I H w r) a w := by
  intro c ec hc k r φ I s H a w hR h
  simp only [efF, Option.map_eq_some_iff] at h
  obtain ⟨x, hx, rfl⟩ := h
  exact codeF_sound hcall c ec hc 3 (by omega) _ k x φ I s H a w hR hx
 intro c
 induction c with
 | seq x y ihx ihy =>
  intro ef he k r φ I s H a w hR h
  simp only [resF] at he
  split at he
  ·rename_i l f as hd
   simp only [Option.map_eq_some_iff] at he
   obtain ⟨ec, hec, rfl⟩ := he
   cases x with
   | region id ops dr =>
    cases dr with
    | true => simp [resDfr] at hd
    | false =>
    simp only [resDfr] at hd
    split at hd
    case h_2 => simp at hd
    rename_i o rs hrev
    split at hd
    case h_2 => simp at hd
    rename_i fo ao ats hop hguard hdst
    split at hd
    case h_2 => simp at hd
    rename_i l' f' as' hl hf has
    simp only [Option.some.injEq, Prod.mk.injEq] at hd
    obtain ⟨rfl, rfl, rfl⟩ := hd
    have hops : ops.toList = rs.reverse ++ [o] := by
     have := congrArg List.reverse hrev
     simpa using this
    simp only [efF] at h
    refine wpIn_seq (wpIn_region_list ?_)
    rw [hops]
    cases hx : opsF call γ l' s H with
    | none => rw [hx] at h; simp at h
    | some q =>
    have hw := ops_sound (Q := Qis q) rs.reverse l' hl φ I s H a w (.refl φ I H w) hR (opsF_wops hcall _ _ _ _ hx)
    have hw2 := listIn (r := none) (m := 3) Post.noOut _ (res_noDefer hl) _ _ hw
    refine wpListIn_conv ?_ _ _ _ hw2
    intro e a1 w1 hp
    rw [hx] at h
    obtain ⟨x, s1, H1⟩ := q
    obtain ⟨φ1, I1, s2, H2, x2, g1, g2, g3, g4⟩ := hp
    unfold Qis at g4
    simp only [Prod.mk.injEq] at g4
    obtain ⟨rfl, rfl, rfl⟩ := g4
    have pass : x ≠ .normal → PostE P γ n N0 φ I H w r e a1 w1 := by
     intro hne
     have hr : r = ((x, s1, H1), none) := by
      cases x <;> first | exact absurd rfl hne | exact (Option.some.inj h).symm
     subst hr
     exact ⟨φ1, I1, s1, H1, x, g1, g2, g3, rfl⟩
    cases g3 with
    | normal =>
     simp only at h
     split at h
     case h_2 => simp at h
     rename_i g first cap hfe
     simp only [Option.map_eq_some_iff] at h
     obtain ⟨z, hz, rfl⟩ := h
     have rf := rv_opd g2 hf
     rw [hfe] at rf
     generalize hva : a1.eval fo = vf at rf
     obtain ⟨vff, vfc, rfl⟩ : ∃ vff vfc, vf = .func (.func g) vff vfc := by cases rf; exact ⟨_, _, rfl⟩
     have hao := opds_sound g2 has
     have hargs : RCs φ1 H1.length I1 w1 (as'.map (ev γ s1)) (ao.map a1.eval).toList := ⟨by simpa using hao.1, fun k x v hx hv => hao.2 k x v hx (by simpa using hv)⟩
     show wpListIn (FR none) 3 P ops _ [o] a1 w1
     have hex : (execOp a1.eval o).run P w1 = .ok (.defer { target := .fn (.func g) vfc, args := vff ++ ao.map a1.eval }) w1 := by
      unfold execOp
      rw [hop]
      simp [resolve, hva, Deferred.ofValue]
     have hwant : Region.wanted o (yielded ops a1.tmps) = true := by simp [Region.wanted, hguard]
     simp only [wpListIn, hwant, if_true]
     refine ⟨fun _ _ => trivial, ?_⟩
     have hsem : o.semAt (FR none).round a1.eval = execOp a1.eval o := Oper.semAt_none ..
     rw [hsem, hex, Oper.uponIn_defer, hdst]
     have hR1 : Rel γ n ⟨N0, [{ target := .fn (.func g) vfc, args := vff ++ ao.map a1.eval }], true⟩ φ1 I1 s1 H1 { a1 with defers := { target := .fn (.func g) vfc, args := vff ++ ao.map a1.eval } :: a1.defers } w1 := by
      obtain ⟨k0, Ds, k1, k2, k3⟩ := g2.defers
      have hDs : Ds = [] := by
       cases Ds with
       | nil => rfl
       | cons D Ds => exact absurd (k3 D (by simp)).1.2 (by simp)
      subst hDs
      refine ⟨g2.sz, g2.slots, g2.heap, k0, [], ?_, List.nodup_nil, by simp⟩
      simp [k1]
     have hcs := codeF_sound hcall y ec hec 3 (by omega) _ k z φ1 I1 s1 H1 _ w1 hR1 hz
     refine wpIn_mono hcs fun e2 a2 w2 hp2 => ?_
     obtain ⟨φ2, I2, s3, H3, x3, j1, j2, j3, j4⟩ := hp2
     refine ⟨_, vff ++ ao.map a1.eval ++ vfc, ⟨_, _, rfl⟩, fun hcb w => ?_, φ2, I2, s3, H3, x3, g1.trans j1, j2, j3, j4, ?_⟩
     ·simp [invoke, callFunc_run hcb]
     ·have h1 := rcs_parts rf hargs
      exact ⟨h1.1, fun k x v hx hv => j1.rv g2.heap (h1.2 k x v hx hv)⟩
    | exit id' => exact pass (by simp)
    | ret => exact pass (by simp)
    | panic v vv hv => exact pass (by simp)
   | _ => simp [resDfr] at hd
  ·split at he
   case h_2 => simp at he
   rename_i ex ey hx hy
   simp only [Option.some.injEq] at he; subst he
   simp only [efF] at h
   cases hq : codeF call γ k ex s H with
   | none => rw [hq] at h; simp at h
   | some q =>
   rw [hq] at h
   refine wpIn_seq (wpIn_mono (codeF_sound hcall x ex hx 3 (by omega) _ k q φ I s H a w hR hq) fun e a1 w1 hp => ?_)
   obtain ⟨x, s1, H1⟩ := q
   obtain ⟨φ1, I1, s2, H2, x2, g1, g2, g3, g4⟩ := hp
   unfold Qis at g4
   simp only [Prod.mk.injEq] at g4
   obtain ⟨rfl, rfl, rfl⟩ := g4
   have pass : x ≠ .normal → PostE P γ n N0 φ I H w r e a1 w1 := by
    intro hne
    have hr : r = ((x, s1, H1), none) := by
     cases x <;> first | exact absurd rfl hne | exact (Option.some.inj h).symm
    subst hr
    exact ⟨φ1, I1, s1, H1, x, g1, g2, g3, rfl⟩
   cases g3 with
   | normal =>
    show y.wpIn (FR none) 3 P _ a1 w1
    exact wpIn_mono (ihy ey hy k r φ1 I1 s1 H1 a1 w1 g2 h) fun e a2 w2 hp => hp.trans g1
   | exit id' => exact pass (by simp)
   | ret => exact pass (by simp)
   | panic v vv hv => exact pass (by simp)
 | _ =>
  intro ef he k r φ I s H a w hR h
  simp only [resF, Option.map_eq_some_iff] at he
  obtain ⟨ec, hec, rfl⟩ := he
  exact flat _ ec hec k r φ I s H a w hR h
end
section
variable {P : Program} {γ : Nat → EV} {n nb : Nat} {φ φ0 : Nat → Nat} {I I0 : Nat → Prop} {s : Slots} {H H0 : Heap} {a : Act} {w w0 : World}
variable {call : FuncId → List EV → Heap → Res}
def modeOf (pv : Option EV) (v : Value) (rec : Bool) : FrameMode :=
 match pv with
 | none => .returning
 | some _ => .panicking [{ v, recovered := rec }]
theorem settle_mode (pv : Option EV) (v : Value) : settle (modeOf pv v true) = .returning := by
 cases pv <;> rfl
theorem rel_start {nt : Nat} {nb : NB} {as : List EV} {vs : Array Value} (hb : nb.n ≤ w.heap.size) (hbase : nb.base = []) (hl : as.length ≤ nt) (hr : RH γ φ I H w) (hv : RCs φ H.length I w as vs.toList) :
  Rel γ nt nb φ I (slots0 as) H { tmps := vs ++ Array.replicate (nt - vs.size) Go.undef, defers := [] } w := by
 have hvs : vs.size = as.length := by simpa using hv.1.symm
 refine ⟨by simp; omega, fun t => ?_, hr, ?_⟩
 ·simp only [slots0]
  by_cases ht : t < as.length
  ·have ht2 : t < vs.size := by omega
   have : (vs ++ Array.replicate (nt - vs.size) Go.undef).getD t Go.undef = vs[t] := by simp [Array.getElem?_append, ht2]
   rw [this]
   have := hv.2 t as[t] vs[t] (by simp [ht]) (by simp [ht2])
   simpa [ht] using this
  ·have : as[t]? = none := by simp; omega
   rw [this]
   exact .undef _
 ·have := Marks.none (φ := φ) (I := I) (H := H) hb
  rwa [hbase] at this
theorem strict_defers {nb : NB} {n : Nat} (hst : nb.strict = true) (h : Rel γ n nb φ I s H a w) : a.defers = nb.base := by
 obtain ⟨_, Ds, hds, _, hD⟩ := h.defers
 cases Ds with
 | nil => simpa using hds
 | cons D Ds => have := (hD D (by simp)).1.2; rw [hst] at this; simp at this
theorem dc_sound (hcall : CallsOk P γ call) {D : FuncId → Option FnDf} (hD : ∀ g d, D g = some d → BodyD P g d.d0 d.d1 d.ec d.nt) {k : Nat} {g : FuncId} {as : List EV} {pv : Option EV} {H3 : Heap} (h : dcF call γ D k g as H pv = some H3) :
  Callable P g ∧ ∀ (φ : Nat → Nat) (I : Nat → Prop) (w : World) (vs : Array Value) (v : Value), RH γ φ I H w → RCs φ H.length I w as vs.toList → (∀ x, pv = some x → RV φ H.length I w x v) →
   CallsDIn (FR none) 2 P g vs (modeOf pv v false) w fun e u' w' => (∃ rv, e = .returned rv) ∧ u' = modeOf pv v true ∧ ∃ φ' I', Evo φ I H w φ' I' H3 w' ∧ RH γ φ' I' H3 w' := by
 unfold dcF at h
 split at h
 case h_2 => simp at h
 rename_i d hd
 split at h
 case isFalse => simp at h
 rename_i hl
 split at h
 case h_2 => simp at h
 rename_i er H4 hf
 obtain rfl := Option.some.inj h
 obtain ⟨fn, c0, own, h1, h2, h3, h4, h5, h6⟩ := hD g d hd
 refine ⟨⟨fn, c0, h1, h2, h3⟩, fun φ I w vs v hr hv hpv => ?_⟩
 unfold resD at h4
 split at h4
 case h_2 => simp at h4
 rename_i id ops c
 split at h4
 case h_2 => simp at h4
 rename_i o0 o1 hops
 split at h4
 case h_2 => simp at h4
 rename_i ao ats d0 t d1 e0 e1 e2 e3 e4 e5
 split at h4
 case isFalse => simp at h4
 rename_i hc
 obtain ⟨rfl, hd0, hd1⟩ := hc
 simp only [Option.map_eq_some_iff, Prod.mk.injEq] at h4
 obtain ⟨ec, hec, rfl, rfl, rfl⟩ := h4
 have hsz : ops.size = 2 := by rw [← Array.length_toList, hops]; rfl
 have g0 : ops[0]? = some o0 := by rw [← Array.getElem?_toList, hops]; rfl
 have g1 : ops[1]? = some o1 := by rw [← Array.getElem?_toList, hops]; rfl
 cases hq : codeF call γ k d.ec (upd (upd (slots0 as) d.d0 (pv.getD .nilif)) d.d1 (pv.getD .nilif)) H with
 | none => rw [hq] at hf; simp [finF] at hf
 | some q =>
 rw [hq] at hf
 refine callsDIn_of_wpSIn h1 h2 trivial fun c₀ cs hu => wpSIn_seq (wpSIn_region ?_)
 rw [h6]
 have hR0 := rel_start (nb := ⟨w.heap.size, [], true⟩) (Nat.le_refl _) rfl hl hr hv
 obtain ⟨rv, hrv⟩ : ∃ rv : Value, rv = (match pv with | none => Value.nilIface | some _ => v) := ⟨_, rfl⟩
 have hrvR : RV φ H.length I w (pv.getD .nilif) rv := by
  cases pv with
  | none => rw [hrv]; exact .nilif
  | some x => rw [hrv]; exact hpv x rfl
 have hR1 := hR0.put (Evo.refl ..) hr (dst := some d.d0) (fun d' hd' => by cases hd'; exact hd0) hrvR
 have hR2 := hR1.put (Evo.refl ..) hr (dst := some d.d1) (fun d' hd' => by cases hd'; exact hd1) hrvR
 obtain ⟨a0, ha0⟩ : ∃ a0 : Act, a0 = { tmps := vs ++ Array.replicate (d.nt - vs.size) Go.undef, defers := [] } := ⟨_, rfl⟩
 rw [← ha0] at hR0 hR1 hR2 ⊢
 have hcs : ∃ cs', cs' = ({ c₀ with mode := modeOf pv v true } : Frame) :: cs ∧ (match recoverD (c₀ :: cs) with | some (u, cs1) => u = rv ∧ cs1 = cs' | none => Value.nilIface = rv ∧ c₀ :: cs = cs') := by
  refine ⟨_, rfl, ?_⟩
  cases pv with
  | none =>
   have hm : c₀.mode = .returning := hu
   simp only [recoverD, hm, hrv, modeOf]
   refine ⟨trivial, ?_⟩
   rw [← hm]
  | some x =>
   have hm : c₀.mode = .panicking [{ v, recovered := false }] := hu
   simp only [recoverD, hm, hrv, modeOf]
   exact ⟨trivial, trivial⟩
 obtain ⟨cs', hcs', hrec⟩ := hcs
 have hval : ∀ y : Act, y.tmps.size = d.nt → (y.put (some d.d0) rv).eval (.tmp d.d0) = rv := fun y hy => by
  simp [Act.put, Act.eval, hy, hd0]
 have hwant : ∀ (o : Oper) (y : Act), o.guard = none → Region.wanted o (yielded ops y.tmps) = true := fun o y ho => by simp [Region.wanted, ho]
 have key : Exit.thenS (c.wpSIn (FR none) 2 P (bodyPostS P fn c₀ cs fun e u' w' => (∃ rv, e = .returned rv) ∧ u' = modeOf pv v true ∧ ∃ φ' I', Evo φ I H w φ' I' H4 w' ∧ RH γ φ' I' H4 w'))
   (bodyPostS P fn c₀ cs fun e u' w' => (∃ rv, e = .returned rv) ∧ u' = modeOf pv v true ∧ ∃ φ' I', Evo φ I H w φ' I' H4 w' ∧ RH γ φ' I' H4 w') .normal ((a0.put (some d.d0) rv).put (some d.d1) rv) cs' w := by
  refine wpSIn_of_wpIn rfl ?_
  refine wpIn_mono (codeF_sound hcall c d.ec hec 2 (by omega) _ k q φ I _ H _ w hR2 hq) fun e a1 w1 hp => ?_
  obtain ⟨φ1, I1, s1, H1, x, j1, j2, j3, j4⟩ := hp
  unfold Qis at j4
  subst j4
  have fin : (match evResults s1 H1 [] with | some r => finV H r .ret H1 | none => none) = some (.ret er, H4) →
    a1.defers = [] ∧ ∃ u', cs' = { c₀ with mode := u' } :: cs ∧ ∃ vv, (results fn a1.tmps).run P w1 = .ok vv w1 ∧ ((∃ rv, Ending.returned vv = .returned rv) ∧ u' = modeOf pv v true ∧ ∃ φ' I', Evo φ I H w φ' I' H4 w1 ∧ RH γ φ' I' H4 w1) := by
   intro hfin
   split at hfin
   case h_2 => simp at hfin
   rename_i r hr'
   obtain ⟨val, n1, n2⟩ := results_sound j2 h5 hr'
   rcases finV_some hr.isOk hfin with ⟨v', k1, k2, k3, k4⟩ | ⟨k3, k4⟩
   ·subst k4
    exact ⟨strict_defers rfl j2, modeOf pv v true, hcs', val, n1, ⟨_, rfl⟩, rfl, φ1, _, j1.close, j2.heap.close j1.len k2⟩
   ·subst k4
    exact ⟨strict_defers rfl j2, modeOf pv v true, hcs', val, n1, ⟨_, rfl⟩, rfl, φ1, I1, j1, j2.heap⟩
  cases j3 with
  | normal => exact fin hf
  | ret => exact fin hf
  | exit id' => simp [finF] at hf
  | panic pvv vv hvv =>
   simp only [finF] at hf
   rcases finV_some hr.isOk hf with ⟨v', k1, k2, k3, k4⟩ | ⟨k3, k4⟩ <;> exact absurd k3 (by simp)
 have x0 : (execOp a0.eval o0).run P w = .ok .recover w := by
  unfold execOp
  rw [e0]
  simp [resolve, invoke, builtin]
 have x1 : (execOp (a0.put (some d.d0) rv).eval o1).run P w = .ok (.value rv) w := by
  unfold execOp
  rw [e3]
  simp only [hval a0 hR0.sz]
  rfl
 have hrange : List.range ops.size = [0, 1] := by rw [hsz]; rfl
 rw [hrange]
 simp only [wpOpsSIn, g0, g1, hwant o0 _ e2, hwant o1 _ e5, if_true, x0]
 refine ⟨fun _ _ => trivial, ?_⟩
 split at hrec
 ·rename_i u cs1 hre
  obtain ⟨rfl, rfl⟩ := hrec
  simp only [hre, e1, x1, e4]
  exact ⟨fun _ _ => trivial, key⟩
 ·rename_i hre
  obtain ⟨hr1, rfl⟩ := hrec
  simp only [hre, e1, hr1, x1, e4]
  exact ⟨fun _ _ => trivial, key⟩
structure Env.Sound (P : Program) (E : Env) : Prop where
 T : ∀ f d, E.T f = some d → Body P f d.ec d.rs d.nt
 F : ∀ f d, E.F f = some d → BodyE P f d.ef d.rs d.nt
 D : ∀ f d, E.D f = some d → BodyD P f d.d0 d.d1 d.ec d.nt
 Ψ : ∀ f as H r, E.Ψ f as H = some r → CallsA P E.γ f as H fun er H' => er = r.1 ∧ H' = r.2
theorem leave_plain {fn : Func} {rs : List ERes} {er : ER} {H0 H1 : Heap} {φ0 : Nat → Nat} {I0 : Nat → Prop} {w0 : World} {tmps : Array Value} {n : Nat} {nb : NB} {a : Act} (hrs : fn.results.toList.mapM (resRes P) = some rs) (hok : OkH H0) (ha : a.tmps = tmps)
  (he : Evo φ0 I0 H0 w0 φ I H w) (hR : Rel γ n nb φ I s H a w) (h : finR' H0 rs s H = some (er, H1)) :
  ∃ v, (results fn tmps).run P w = .ok v w ∧ ∃ φ' I' H' e, Evo φ0 I0 H0 w0 φ' I' H' w ∧ RH γ φ' I' H' w ∧ RE φ' H'.length I' w e (.returned v) ∧ (e = er ∧ H' = H1) := by
 unfold finR' at h
 split at h
 case h_2 => simp at h
 rename_i r hr
 obtain ⟨val, n1, n2⟩ := results_sound hR hrs hr
 rw [ha] at n1
 rcases finV_some hok h with ⟨v', k1, k2, k3, k4⟩ | ⟨k3, k4⟩
 ·subst k3 k4
  refine ⟨val, n1, φ, _, H.take H0.length, .ret v', he.close, hR.heap.close he.len k2, ?_, rfl, rfl⟩
  rw [List.length_take, Nat.min_eq_left he.len]
  exact .ret v' val (k1.sound hR.heap n2)
 ·exact ⟨val, n1, φ, I, H, .ret r, he, hR.heap, .ret r val n2, k3.symm, k4.symm⟩
theorem callsA_of_E (hcall : CallsOk P γ call) {D : FuncId → Option FnDf} (hD : ∀ g d, D g = some d → BodyD P g d.d0 d.d1 d.ec d.nt) {f : FuncId} {ef : EF} {rs : List ERes} {nt : Nat} (hb : BodyE P f ef rs nt) {k : Nat} {as : List EV} (hl : as.length ≤ nt) {er : ER} {H1 : Heap}
  (h : finE call γ D k H rs (efF call γ k ef (slots0 as) H) = some (er, H1)) : CallsA P γ f as H fun e h => e = er ∧ h = H1 := by
 obtain ⟨fn, c, own, h1, h2, h3, h4, h5, rfl⟩ := hb
 refine ⟨⟨fn, c, h1, h2, h3⟩, fun φ I w vs hr hv => (callsIn_wide (n := 3)).1 (callsIn_of_wp_marks (F := FR none) h1 h2 trivial ?_)⟩
 have hR := rel_start (nb := ⟨w.heap.size, [], true⟩) (Nat.le_refl _) rfl hl hr hv
 cases hx : efF call γ k ef (slots0 as) H with
 | none => rw [hx] at h; simp [finE] at h
 | some r =>
 rw [hx] at h
 refine wpIn_mono (efF_sound hcall c ef h4 k r φ I _ H _ w hR hx) fun e a' w' hp => ?_
 obtain ⟨⟨x, s', H'⟩, d⟩ := r
 cases d with
 | none =>
  obtain ⟨φ', I', s1, H2, x1, g1, g2, g3, g4⟩ := hp
  unfold Qis at g4
  simp only [Prod.mk.injEq] at g4
  obtain ⟨rfl, rfl, rfl⟩ := g4
  have hds := strict_defers rfl g2
  simp only at hds
  simp only [finE] at h
  have fin : finR' H rs s' H' = some (er, H1) → LeavesInM (FR none) 3 P fn a'.tmps (fun e w' => ∃ φ' I' H' er', Evo φ I H w φ' I' H' w' ∧ RH γ φ' I' H' w' ∧ RE φ' H'.length I' w' er' e ∧ (er' = er ∧ H' = H1)) a'.defers .returning w' := by
   intro hfin
   rw [hds]
   exact leave_plain h5 hr.isOk rfl g1 g2 hfin
  cases g3 with
  | normal => exact fin h
  | ret => exact fin h
  | exit id => simp [finF] at h
  | panic v vv hvv =>
   show LeavesInM (FR none) 3 P fn a'.tmps _ a'.defers (.panicking [{ v := vv, recovered := false }]) w'
   rw [hds]
   simp only [finF] at h
   rcases finV_some hr.isOk h with ⟨v', k1, k2, k3, k4⟩ | ⟨k3, k4⟩
   ·subst k3 k4
    refine ⟨φ', _, H'.take H.length, .pan v', g1.close, g2.heap.close g1.len k2, ?_, rfl, rfl⟩
    rw [List.length_take, Nat.min_eq_left g1.len]
    exact .pan v' vv (k1.sound g2.heap hvv)
   ·exact ⟨φ', I', H', .pan v, g1, g2.heap, .pan v vv hvv, k3.symm, k4.symm⟩
 | some p =>
  obtain ⟨g, gs⟩ := p
  obtain ⟨dv, gv, ⟨fv, cap, htar⟩, hinv, φ', I', s1, H2, x1, g1, g2, g3, g4, g5⟩ := hp
  unfold Qis at g4
  simp only [Prod.mk.injEq] at g4
  obtain ⟨rfl, rfl, rfl⟩ := g4
  have hds := strict_defers rfl g2
  simp only at hds
  have leave : ∀ (pv : Option EV) (v : Value), (∀ x, pv = some x → RV φ' H'.length I' w' x v) → (match dcF call γ D k g gs H' pv with | some H2 => finR' H rs s' H2 | none => none) = some (er, H1) →
    LeavesInM (FR none) 3 P fn a'.tmps (fun e w' => ∃ φ' I' H' er', Evo φ I H w φ' I' H' w' ∧ RH γ φ' I' H' w' ∧ RE φ' H'.length I' w' er' e ∧ (er' = er ∧ H' = H1)) a'.defers (modeOf pv v false) w' := by
   intro pv v hpv hk
   split at hk
   case h_2 => simp at hk
   rename_i H3 h3'
   obtain ⟨hcb, hdc⟩ := dc_sound hcall hD h3'
   rw [hds]
   refine ⟨by cases pv <;> simp [modeOf], .inr ⟨FR_deep, fv, cap, g, gv, htar, hinv hcb w', fun _ _ => trivial, ?_⟩⟩
   refine (hdc φ' I' w' gv v g2.heap g5 hpv).mono fun e u' w2 hq => ?_
   obtain ⟨⟨rv, rfl⟩, rfl, φ2, I2, q1, q2⟩ := hq
   show LeavesInM (FR none) 3 P fn a'.tmps _ [] (settle (modeOf pv v true)) w2
   rw [settle_mode]
   have hR2 : Rel γ fn.ntmps ⟨0, [], true⟩ φ2 I2 s' H3 { a' with defers := [] } w2 := ⟨g2.sz, fun t => q1.rv g2.heap (g2.slots t), q2, Nat.zero_le _, [], rfl, List.nodup_nil, by simp⟩
   exact leave_plain (a := { a' with defers := [] }) h5 hr.isOk rfl (g1.trans q1) hR2 hk
  cases g3 with
  | normal => exact leave none Go.undef (by simp) h
  | ret => exact leave none Go.undef (by simp) h
  | exit id => simp [finE] at h
  | panic v vv hvv => exact leave (some v) vv (fun x hx => by cases hx; exact hvv) h
theorem runF_sound {E : Env} (hE : E.Sound P) : ∀ n, CallsOk P E.γ (runF E n) := by
 intro n
 induction n with
 | zero => intro g as H er H' h; simp [runF] at h
 | succ n ih =>
  intro f as H er H1 h
  simp only [runF] at h
  split at h
  ·rename_i v hv
   rw [Option.some.injEq] at h
   have := hE.Ψ f as _ v hv
   rw [h] at this
   exact this
  ·split at h
   case h_2 =>
    split at h
    case h_2 => simp at h
    rename_i d hd
    split at h
    case isFalse => simp at h
    rename_i hl
    exact callsA_of_E ih hE.D (hE.F f d hd) hl h
   rename_i d hd
   split at h
   case isFalse => simp at h
   rename_i hl
   obtain ⟨fn, c, own, h1, h2, h3, h4, h5, h6⟩ := hE.T f d hd
   cases hq : codeF (runF E n) E.γ n d.ec (slots0 as) H with
   | none => rw [hq] at h; unfold finKF at h; split at h <;> simp [finF, finK] at h
   | some q =>
   rw [hq] at h
   refine callsA_of_wp h1 h2 h3 h5 (by rw [h6]; exact hl) fun φ I a w hR => ?_
   have hok := hR.heap.isOk
   rw [← h6] at h4
   refine wpIn_mono (codeF_sound ih c d.ec h4 3 (by omega) w.heap.size n q φ I _ H a w hR hq) fun e a' w' hp => hp.mono fun x s' H' hx => ?_
   unfold Qis at hx
   subst hx
   unfold finKF at h
   by_cases hk : E.K f = true
   ·rw [if_pos hk] at h
    have ret : ∀ (h : (match evResults s' H' d.rs with | some r => some (ER.ret r, H') | none => none) = some (er, H1)), ∃ r, evResults s' H' d.rs = some r ∧ ER.ret r = er ∧ H' = H1 := by
     intro h
     split at h
     case h_2 => simp at h
     rename_i r hr
     simp only [Option.some.injEq, Prod.mk.injEq] at h
     exact ⟨r, hr, h.1, h.2⟩
    cases x with
    | normal => exact .inr (ret h)
    | ret => exact .inr (ret h)
    | panic v =>
     simp only [finK, Option.some.injEq, Prod.mk.injEq] at h
     exact .inr ⟨h.1, h.2⟩
    | exit id => simp [finK] at h
   rw [if_neg hk] at h
   have ret : ∀ (h : (match evResults s' H' d.rs with | some r => finV H r .ret H' | none => none) = some (er, H1)),
     (∃ r r', evResults s' H' d.rs = some r ∧ FZ H.length H' r r' ∧ (∀ (b : Nat) (x : EB), b < H.length → H'[b]? = some (some x) → x.ok H.length = true) ∧ (ER.ret r' = er ∧ H'.take H.length = H1)) ∨ ∃ r, evResults s' H' d.rs = some r ∧ ER.ret r = er ∧ H' = H1 := by
    intro h
    split at h
    case h_2 => simp at h
    rename_i r hr
    rcases finV_some hok h with ⟨v', g1, g2, g3, g4⟩ | ⟨g3, g4⟩
    ·exact .inl ⟨r, v', hr, g1, g2, g3.symm, g4.symm⟩
    ·exact .inr ⟨r, hr, g3.symm, g4.symm⟩
   cases x with
   | normal => exact ret h
   | ret => exact ret h
   | panic v =>
    rcases finV_some hok h with ⟨v', g1, g2, g3, g4⟩ | ⟨g3, g4⟩
    ·exact .inl ⟨v', g1, g2, g3.symm, g4.symm⟩
    ·exact .inr ⟨g3.symm, g4.symm⟩
   | exit id => simp [finF] at h
theorem den_sound {E : Env} (hE : E.Sound P) {f : FuncId} {as : List EV} {er : ER} {H' : Heap} (h : den E f as H = some (er, H')) : CallsA P E.γ f as H fun e h => e = er ∧ h = H' := by
 obtain ⟨n, hn⟩ := den_iff.1 h
 exact runF_sound hE n _ _ _ _ _ hn
end
theorem FX : (∀ (p : Prop) [Decidable p], (decide p = true) = p) ∧ (∀ (p : Prop) [Decidable p], (decide p = false) = ¬p) ∧ (∀ (α : Type) [BEq α] [LawfulBEq α] (a b : α), ((a == b) = true) = (a = b)) ∧ (∀ (α : Type) [BEq α] [LawfulBEq α] (a b : α), ((a == b) = false) = (a ≠ b)) ∧
  (∀ (α : Type) [BEq α] [LawfulBEq α] (a b : α), ((a != b) = true) = (a ≠ b)) ∧ (∀ (α : Type) [BEq α] [LawfulBEq α] (a b : α), ((a != b) = false) = (a = b)) ∧ (∀ (α : Type) (a b : α), (a ≠ b) = ¬(a = b)) ∧ (∀ b : Bool, ((!b) = true) = (b = false)) ∧ (∀ b : Bool, ((!b) = false) = (b = true)) ∧
  (∀ b : Bool, (¬(b = true)) = (b = false)) ∧ (∀ b : Bool, (¬(b = false)) = (b = true)) ∧ (∀ (p : Prop) [Decidable p], (¬¬p) = p) ∧ (∀ a b : Bool, ((a && b) = true) = (a = true ∧ b = true)) ∧ (∀ a b : Bool, ((a || b) = true) = (a = true ∨ b = true)) :=
 ⟨fun _ => by simp, fun _ => by simp, fun _ _ _ _ _ => by simp, fun _ _ _ _ _ => by simp, fun _ _ _ _ _ => by simp, fun _ _ _ _ _ => by simp, fun _ _ _ => by simp, fun _ => by simp, fun _ => by simp, fun _ => by simp, fun _ => by simp, fun _ => by simp [Decidable.not_not], fun _ _ => by simp, fun _ _ => by simp⟩
class Kt (α : Type) where
 k : α
abbrev QT := AX → Slots → Heap → Prop
abbrev KT := EV → Heap → Prop
abbrev PT := Unit → Prop
section
variable (E : Env)
def Hd [c : Kt EC] [s : Kt Slots] [H : Kt Heap] [Q : Kt QT] : Prop := ∃ x s' H', denC E c.k s.k H.k = some (x, s', H') ∧ Q.k x s' H'
def HO [l : Kt (List EOper)] [s : Kt Slots] [H : Kt Heap] [Q : Kt QT] : Prop := ∃ x s' H', denO E l.k s.k H.k = some (x, s', H') ∧ Q.k x s' H'
def HD [l : Kt (List (EOper × Bool))] [s : Kt Slots] [H : Kt Heap] [Q : Kt QT] : Prop := ∃ x s' H', denD E l.k s.k H.k = some (x, s', H') ∧ Q.k x s' H'
def HS (r : Res) [Qp : Kt KT] [K : Kt KT] : Prop :=
 match r with
 | some (.ret v, H) => K.k v H
 | some (.pan v, H) => Qp.k v H
 | none => False
def HSD (chg : Bool) (H : Heap) (r : Res) [K : Kt KT] : Prop :=
 match r with
 | some (.ret v, H') => (chg || sameH H' H) = true ∧ K.k v H'
 | _ => False
def HG (v : EV) (t : Bool) [a : Kt PT] [b : Kt PT] : Prop :=
 match v with
 | .bool t' => if t' = t then a.k () else b.k ()
 | .tup [] => b.k ()
 | _ => False
def HC (v : EV) [a : Kt PT] [b : Kt PT] : Prop :=
 match v with
 | .bool t => if t = true then a.k () else b.k ()
 | _ => False
def liftO (x : Option (EV × Heap)) : Res :=
 match x with
 | some (v, H) => some (.ret v, H)
 | none => none
noncomputable def callD (f : EV) (as : List EV) (H : Heap) : Res :=
 match f with
 | .func (.func g) first cap => den E g (first ++ as ++ cap) H
 | _ => none
def panD (x : EV) (H : Heap) : Res :=
 match x with
 | .iface t v => some (.pan (.iface t v), H)
 | _ => none
end
section
variable {E : Env} {s : Slots} {H : Heap} {Q : QT}
@[congr] theorem HS_congr {r r' : Res} {Qp K : Kt KT} (h : r = r') : @HS r Qp K = @HS r' Qp K := by rw [h]
@[congr] theorem HSD_congr {c : Bool} {r r' : Res} {K : Kt KT} (h : r = r') : @HSD c H r K = @HSD c H r' K := by rw [h]
@[congr] theorem HG_congr {v v' : EV} {t : Bool} {a b : Kt PT} (h : v = v') : @HG v t a b = @HG v' t a b := by rw [h]
@[congr] theorem HC_congr {v v' : EV} {a b : Kt PT} (h : v = v') : @HC v a b = @HC v' a b := by rw [h]
/-! ### The head's rules -/
theorem Hd_skip : @Hd E ⟨.skip⟩ ⟨s⟩ ⟨H⟩ ⟨Q⟩ = Q .normal s H := propext ⟨fun ⟨x, s', H', h, hq⟩ => by simp only [denC_skip] at h; cases h; exact hq, fun h => ⟨_, _, _, denC_skip, h⟩⟩
theorem Hd_exit {id : Nat} : @Hd E ⟨.exit id⟩ ⟨s⟩ ⟨H⟩ ⟨Q⟩ = Q (.exit id) s H := propext ⟨fun ⟨x, s', H', h, hq⟩ => by simp only [denC_exit] at h; cases h; exact hq, fun h => ⟨_, _, _, denC_exit, h⟩⟩
theorem Hd_ret : @Hd E ⟨.ret⟩ ⟨s⟩ ⟨H⟩ ⟨Q⟩ = Q .ret s H := propext ⟨fun ⟨x, s', H', h, hq⟩ => by simp only [denC_ret] at h; cases h; exact hq, fun h => ⟨_, _, _, denC_ret, h⟩⟩
theorem Hd_ops {l : List EOper} : @Hd E ⟨.ops l⟩ ⟨s⟩ ⟨H⟩ ⟨Q⟩ = @HO E ⟨l⟩ ⟨s⟩ ⟨H⟩ ⟨Q⟩ := by unfold Hd HO; simp only [denC_ops]
theorem Hd_draw {l : List (EOper × Bool)} : @Hd E ⟨.draw l⟩ ⟨s⟩ ⟨H⟩ ⟨Q⟩ = @HD E ⟨l⟩ ⟨s⟩ ⟨H⟩ ⟨Q⟩ := by unfold Hd HD; simp only [denC_draw]
theorem Hd_seq {a b : EC} : @Hd E ⟨.seq a b⟩ ⟨s⟩ ⟨H⟩ ⟨Q⟩ = @Hd E ⟨a⟩ ⟨s⟩ ⟨H⟩ ⟨thenA (fun s' H' => @Hd E ⟨b⟩ ⟨s'⟩ ⟨H'⟩ ⟨Q⟩) Q⟩ := by
 refine propext ⟨?_, ?_⟩
 ·rintro ⟨x, s', H', h, hq⟩
  simp only [denC_seq] at h
  rcases bindN_some h with ⟨s1, H1, h1, h2⟩ | ⟨h1, hne⟩
  ·exact ⟨_, _, _, h1, x, s', H', h2, hq⟩
  ·refine ⟨_, _, _, h1, ?_⟩
   cases x <;> first | exact absurd rfl hne | exact hq
 ·rintro ⟨x, s1, H1, h1, hq⟩
  simp only at h1 hq
  unfold Hd
  simp only [denC_seq, h1]
  cases x with
  | normal => exact hq
  | _ => exact ⟨_, _, _, rfl, hq⟩
theorem Hd_block {id : Nat} {c : EC} : @Hd E ⟨.block id c⟩ ⟨s⟩ ⟨H⟩ ⟨Q⟩ = @Hd E ⟨c⟩ ⟨s⟩ ⟨H⟩ ⟨inBlockA id Q⟩ := by
 refine propext ⟨?_, ?_⟩
 ·rintro ⟨x, s', H', h, hq⟩
  simp only [denC_block] at h
  cases hx : denC E c s H with
  | none => rw [hx] at h; simp [blockX] at h
  | some y =>
   obtain ⟨y, s1, H1⟩ := y
   refine ⟨y, s1, H1, hx, ?_⟩
   rw [hx] at h
   cases y with
   | exit id' =>
    simp only [blockX] at h
    simp only [inBlockA]
    split at h
    ·rename_i e; rw [if_pos e]; cases h; exact hq
    ·rename_i e; rw [if_neg e]; cases h; exact hq
   | _ => cases h; exact hq
 ·rintro ⟨x, s1, H1, h1, hq⟩
  simp only at h1 hq
  unfold Hd
  simp only [denC_block, h1]
  cases x with
  | exit id' =>
   simp only [inBlockA] at hq
   simp only [blockX]
   split at hq
   ·rename_i e; rw [if_pos e]; exact ⟨_, _, _, rfl, hq⟩
   ·rename_i e; rw [if_neg e]; exact ⟨_, _, _, rfl, hq⟩
  | _ => exact ⟨_, _, _, rfl, hq⟩
theorem Hd_cond {c : EOpd} {a b : EC} : @Hd E ⟨.cond c a b⟩ ⟨s⟩ ⟨H⟩ ⟨Q⟩ = @HC (ev E.γ s c) ⟨fun _ => @Hd E ⟨a⟩ ⟨s⟩ ⟨H⟩ ⟨Q⟩⟩ ⟨fun _ => @Hd E ⟨b⟩ ⟨s⟩ ⟨H⟩ ⟨Q⟩⟩ := by
 unfold Hd
 simp only [denC_cond]
 generalize ev E.γ s c = v
 cases v with
 | bool t => cases t <;> simp [condA, HC]
 | _ => simp [condA, HC]
theorem HO_nil : @HO E ⟨[]⟩ ⟨s⟩ ⟨H⟩ ⟨Q⟩ = Q .normal s H := propext ⟨fun ⟨x, s', H', h, hq⟩ => by cases h; exact hq, fun h => ⟨_, _, _, rfl, h⟩⟩
theorem HD_nil : @HD E ⟨[]⟩ ⟨s⟩ ⟨H⟩ ⟨Q⟩ = Q .normal s H := propext ⟨fun ⟨x, s', H', h, hq⟩ => by cases h; exact hq, fun h => ⟨_, _, _, rfl, h⟩⟩
theorem stepO_HS {r : Res} {K : EV → Heap → Option Xsh} : (∃ x s' H', stepO r s K = some (x, s', H') ∧ Q x s' H') = @HS r ⟨fun v H' => Q (.panic v) s H'⟩ ⟨fun v H' => ∃ x s1 H1, K v H' = some (x, s1, H1) ∧ Q x s1 H1⟩ := by
 unfold stepO HS
 cases r with
 | none => simp
 | some y =>
  obtain ⟨y, H1⟩ := y
  cases y with
  | ret v => rfl
  | pan v => exact propext ⟨fun ⟨x, s', H', h, hq⟩ => by cases h; exact hq, fun h => ⟨_, _, _, rfl, h⟩⟩
theorem HO_cons {d : Option Nat} {op : EOp} {l : List EOper} : @HO E ⟨⟨d, op, none⟩ :: l⟩ ⟨s⟩ ⟨H⟩ ⟨Q⟩ = @HS (opD E (ev E.γ s) H op) ⟨fun v H' => Q (.panic v) s H'⟩ ⟨fun v H' => @HO E ⟨l⟩ ⟨putA s d v⟩ ⟨H'⟩ ⟨Q⟩⟩ := by
 unfold HO denO opD
 simp only [opsF]
 exact stepO_HS
theorem gate_HG {v : EV} {t : Bool} {a b : Option Xsh} : (∃ x s' H', gateO v t a b = some (x, s', H') ∧ Q x s' H') = @HG v t ⟨fun _ => ∃ x s' H', a = some (x, s', H') ∧ Q x s' H'⟩ ⟨fun _ => ∃ x s' H', b = some (x, s', H') ∧ Q x s' H'⟩ := by
 cases v with
 | bool t' => cases t' <;> cases t <;> simp [gateO, HG]
 | tup l => cases l <;> simp [gateO, HG]
 | _ => simp [gateO, HG]
theorem HO_guard {d : Option Nat} {op : EOp} {g : Nat} {b : Bool} {l : List EOper} : @HO E ⟨⟨d, op, some (g, b)⟩ :: l⟩ ⟨s⟩ ⟨H⟩ ⟨Q⟩ =
  @HG (s g) b ⟨fun _ => @HO E ⟨⟨d, op, none⟩ :: l⟩ ⟨s⟩ ⟨H⟩ ⟨Q⟩⟩ ⟨fun _ => @HO E ⟨l⟩ ⟨putA s d (.tup [])⟩ ⟨H⟩ ⟨Q⟩⟩ := by
 unfold HO denO
 simp only [opsF]
 exact gate_HG
theorem stepD_HSD {chg : Bool} {r : Res} {K : EV → Heap → Option Xsh} : (∃ x s' H', stepD chg H r K = some (x, s', H') ∧ Q x s' H') = @HSD chg H r ⟨fun v H' => ∃ x s1 H1, K v H' = some (x, s1, H1) ∧ Q x s1 H1⟩ := by
 unfold stepD HSD
 cases r with
 | none => simp
 | some y =>
  obtain ⟨y, H1⟩ := y
  cases y with
  | ret v =>
   simp only
   split
   ·rename_i e; simp [e]
   ·rename_i e; simp [e]
  | pan v => simp
theorem HD_cons {d : Option Nat} {op : EOp} {c : Bool} {l : List (EOper × Bool)} : @HD E ⟨(⟨d, op, none⟩, c) :: l⟩ ⟨s⟩ ⟨H⟩ ⟨Q⟩ = @HSD c H (opD E (ev E.γ s) H op) ⟨fun v H' => @HD E ⟨l⟩ ⟨putA s d v⟩ ⟨H'⟩ ⟨Q⟩⟩ := by
 unfold HD denD opD
 simp only [drF]
 exact stepD_HSD
theorem HD_guard {d : Option Nat} {op : EOp} {g : Nat} {b c : Bool} {l : List (EOper × Bool)} : @HD E ⟨(⟨d, op, some (g, b)⟩, c) :: l⟩ ⟨s⟩ ⟨H⟩ ⟨Q⟩ =
  @HG (s g) b ⟨fun _ => @HD E ⟨(⟨d, op, none⟩, c) :: l⟩ ⟨s⟩ ⟨H⟩ ⟨Q⟩⟩ ⟨fun _ => @HD E ⟨l⟩ ⟨putA s d (.tup [])⟩ ⟨H⟩ ⟨Q⟩⟩ := by
 unfold HD denD
 simp only [drF]
 exact gate_HG
theorem HS_ret {v : EV} {Qp K : KT} : @HS (some (.ret v, H)) ⟨Qp⟩ ⟨K⟩ = K v H := rfl
theorem HS_pan {v : EV} {Qp K : KT} : @HS (some (.pan v, H)) ⟨Qp⟩ ⟨K⟩ = Qp v H := rfl
theorem HSD_true {v : EV} {H' : Heap} {K : KT} : @HSD true H (some (.ret v, H')) ⟨K⟩ = K v H' := by simp [HSD]
theorem HSD_same {c : Bool} {v : EV} {K : KT} : @HSD c H (some (.ret v, H)) ⟨K⟩ = K v H := by simp [HSD, sameH_self]
theorem HG_tt {a b : Prop} : @HG (.bool true) true ⟨fun _ => a⟩ ⟨fun _ => b⟩ = a := rfl
theorem HG_ff {a b : Prop} : @HG (.bool false) false ⟨fun _ => a⟩ ⟨fun _ => b⟩ = a := rfl
theorem HG_tf {a b : Prop} : @HG (.bool true) false ⟨fun _ => a⟩ ⟨fun _ => b⟩ = b := rfl
theorem HG_ft {a b : Prop} : @HG (.bool false) true ⟨fun _ => a⟩ ⟨fun _ => b⟩ = b := rfl
theorem HG_gone {t : Bool} {a b : Prop} : @HG (.tup []) t ⟨fun _ => a⟩ ⟨fun _ => b⟩ = b := rfl
theorem HC_t {a b : Prop} : @HC (.bool true) ⟨fun _ => a⟩ ⟨fun _ => b⟩ = a := rfl
theorem HC_f {a b : Prop} : @HC (.bool false) ⟨fun _ => a⟩ ⟨fun _ => b⟩ = b := rfl
theorem lift_some {v : EV} : liftO (some (v, H)) = some (.ret v, H) := rfl
theorem callD_func {g : FuncId} {first cap as : List EV} : callD E (.func (.func g) first cap) as H = den E g (first ++ as ++ cap) H := rfl
theorem panD_iface {t : TypeId} {v : EV} : panD (.iface t v) H = some (.pan (.iface t v), H) := rfl
theorem guard_some {α : Type} {p : Prop} [Decidable p] {x : α} (h : p) : (if p then some x else none) = some x := if_pos h
theorem guard_not {α : Type} {p : Prop} [Decidable p] {x : α} (h : ¬p) : (if p then none else some x) = some x := if_neg h
theorem HG_split {t t' : Bool} {a b : Kt PT} (h1 : t' = t → a.k ()) (h2 : t' ≠ t → b.k ()) : @HG (.bool t') t a b := by
 unfold HG
 simp only
 split
 ·exact h1 (by assumption)
 ·exact h2 (by assumption)
theorem HC_split {t : Bool} {a b : Kt PT} (h1 : t = true → a.k ()) (h2 : t = false → b.k ()) : @HC (.bool t) a b := by
 cases t
 ·exact h2 rfl
 ·exact h1 rfl
section
variable {ρ : EOpd → EV}
theorem opD_call {f : EOpd} {as : List EOpd} : opD E ρ H (.call f as) = callD E (ρ f) (as.map ρ) H := rfl
theorem opD_panic {x : EOpd} : opD E ρ H (.panic x) = panD (ρ x) H := rfl
theorem opD_mov {x} : opD E ρ H (.mov x) = liftO (evOp ρ H (.mov x)) := rfl
theorem opD_pick {c a b} : opD E ρ H (.pick c a b) = liftO (evOp ρ H (.pick c a b)) := rfl
theorem opD_box {x} : opD E ρ H (.box x) = liftO (evOp ρ H (.box x)) := rfl
theorem opD_build {z p} : opD E ρ H (.build z p) = liftO (evOp ρ H (.build z p)) := rfl
theorem opD_bsl {a b c d e} : opD E ρ H (.bsl a b c d e) = liftO (evOp ρ H (.bsl a b c d e)) := rfl
theorem opD_load {a b c} : opD E ρ H (.load a b c) = liftO (evOp ρ H (.load a b c)) := rfl
theorem opD_store {a b c} : opD E ρ H (.store a b c) = liftO (evOp ρ H (.store a b c)) := rfl
theorem opD_nilchk {a} : opD E ρ H (.nilchk a) = liftO (evOp ρ H (.nilchk a)) := rfl
theorem opD_bin {a b c} : opD E ρ H (.bin a b c) = liftO (evOp ρ H (.bin a b c)) := rfl
theorem opD_cmpBool {a b c} : opD E ρ H (.cmpBool a b c) = liftO (evOp ρ H (.cmpBool a b c)) := rfl
theorem opD_cmpAgg {a b c d} : opD E ρ H (.cmpAgg a b c d) = liftO (evOp ρ H (.cmpAgg a b c d)) := rfl
theorem opD_cmpNil {a b c d} : opD E ρ H (.cmpNil a b c d) = liftO (evOp ρ H (.cmpNil a b c d)) := rfl
theorem opD_un {a b} : opD E ρ H (.un a b) = liftO (evOp ρ H (.un a b)) := rfl
theorem opD_cvtInt {a b} : opD E ρ H (.cvtInt a b) = liftO (evOp ρ H (.cvtInt a b)) := rfl
theorem opD_iface {a b} : opD E ρ H (.iface a b) = liftO (evOp ρ H (.iface a b)) := rfl
theorem opD_func {a b c} : opD E ρ H (.func a b c) = liftO (evOp ρ H (.func a b c)) := rfl
theorem opD_faddr {a b} : opD E ρ H (.faddr a b) = liftO (evOp ρ H (.faddr a b)) := rfl
theorem opD_field {a b c d} : opD E ρ H (.field a b c d) = liftO (evOp ρ H (.field a b c d)) := rfl
theorem opD_iaddrA {a b c d} : opD E ρ H (.iaddrA a b c d) = liftO (evOp ρ H (.iaddrA a b c d)) := rfl
theorem opD_iaddrS {a b c} : opD E ρ H (.iaddrS a b c) = liftO (evOp ρ H (.iaddrS a b c)) := rfl
theorem opD_idxA {a b c d e} : opD E ρ H (.idxA a b c d e) = liftO (evOp ρ H (.idxA a b c d e)) := rfl
theorem opD_idxStr {a b} : opD E ρ H (.idxStr a b) = liftO (evOp ρ H (.idxStr a b)) := rfl
theorem opD_extract {a b} : opD E ρ H (.extract a b) = liftO (evOp ρ H (.extract a b)) := rfl
theorem opD_slStr {a b c} : opD E ρ H (.slStr a b c) = liftO (evOp ρ H (.slStr a b c)) := rfl
theorem opD_slSl {a b c d} : opD E ρ H (.slSl a b c d) = liftO (evOp ρ H (.slSl a b c d)) := rfl
theorem opD_slSl3 {a b c d e} : opD E ρ H (.slSl3 a b c d e) = liftO (evOp ρ H (.slSl3 a b c d e)) := rfl
theorem opD_cap {a} : opD E ρ H (.cap a) = liftO (evOp ρ H (.cap a)) := rfl
theorem opD_clear {a b c} : opD E ρ H (.clear a b c) = liftO (evOp ρ H (.clear a b c)) := rfl
theorem opD_len {a b} : opD E ρ H (.len a b) = liftO (evOp ρ H (.len a b)) := rfl
theorem opD_mkmap : opD E ρ H .mkmap = liftO (evOp ρ H .mkmap) := rfl
theorem opD_lookup {a b c d e f} : opD E ρ H (.lookup a b c d e f) = liftO (evOp ρ H (.lookup a b c d e f)) := rfl
theorem opD_mapset {a b c d e} : opD E ρ H (.mapset a b c d e) = liftO (evOp ρ H (.mapset a b c d e)) := rfl
theorem opD_append {a b c d} : opD E ρ H (.append a b c d) = liftO (evOp ρ H (.append a b c d)) := rfl
theorem opD_appz {a b c d e} : opD E ρ H (.appz a b c d e) = liftO (evOp ρ H (.appz a b c d e)) := rfl
theorem opD_rng {a} : opD E ρ H (.rng a) = liftO (evOp ρ H (.rng a)) := rfl
theorem opD_next {a} : opD E ρ H (.next a) = liftO (evOp ρ H (.next a)) := rfl
theorem opD_slArr {a b c d} : opD E ρ H (.slArr a b c d) = liftO (evOp ρ H (.slArr a b c d)) := rfl
theorem opD_toStr {a} : opD E ρ H (.toStr a) = liftO (evOp ρ H (.toStr a)) := rfl
theorem opD_idxB {a b} : opD E ρ H (.idxB a b) = liftO (evOp ρ H (.idxB a b)) := rfl
theorem opD_mm {a b c} : opD E ρ H (.mm a b c) = liftO (evOp ρ H (.mm a b c)) := rfl
theorem opD_mkSl {a b c d e} : opD E ρ H (.mkSl a b c d e) = liftO (evOp ρ H (.mkSl a b c d e)) := rfl
theorem opD_copy {a b c} : opD E ρ H (.copy a b c) = liftO (evOp ρ H (.copy a b c)) := rfl
theorem opD_tassert {a b c d} : opD E ρ H (.tassert a b c d) = liftO (evOp ρ H (.tassert a b c d)) := rfl
theorem opD_runeStr {a} : opD E ρ H (.runeStr a) = liftO (evOp ρ H (.runeStr a)) := rfl
end
theorem then_norm {K : Slots → Heap → Prop} : thenA K Q .normal s H = K s H := rfl
theorem then_ex {K : Slots → Heap → Prop} {id : Nat} : thenA K Q (.exit id) s H = Q (.exit id) s H := rfl
theorem then_rt {K : Slots → Heap → Prop} : thenA K Q .ret s H = Q .ret s H := rfl
theorem then_pan {K : Slots → Heap → Prop} {v : EV} : thenA K Q (.panic v) s H = Q (.panic v) s H := rfl
theorem blk_norm {id : Nat} : inBlockA id Q .normal s H = Q .normal s H := rfl
theorem blk_rt {id : Nat} : inBlockA id Q .ret s H = Q .ret s H := rfl
theorem blk_pan {id : Nat} {v : EV} : inBlockA id Q (.panic v) s H = Q (.panic v) s H := rfl
theorem blk_ex {id id' : Nat} : inBlockA id Q (.exit id') s H = if id' = id then Q .normal s H else Q (.exit id') s H := rfl
def finQ (H : Heap) (rs : List ERes) (r : ER × Heap) (x : AX) (s : Slots) (H' : Heap) : Prop := finF H rs (some (x, s, H')) = some r
def finR (H : Heap) (r : ER × Heap) (v : Option EV) (H' : Heap) : Prop :=
 match v with
 | some v => finV H v .ret H' = some r
 | none => False
theorem fin_ret {rs : List ERes} {r : ER × Heap} {s : Slots} {H' : Heap} : finQ H rs r .ret s H' = finR H r (evResults s H' rs) H' := by
 unfold finQ finR finF; cases h : evResults s H' rs <;> simp [h]
theorem fin_norm {rs : List ERes} {r : ER × Heap} {s : Slots} {H' : Heap} : finQ H rs r .normal s H' = finR H r (evResults s H' rs) H' := by
 unfold finQ finR finF; cases h : evResults s H' rs <;> simp [h]
theorem fin_pan {rs : List ERes} {r : ER × Heap} {v : EV} {s : Slots} {H' : Heap} : finQ H rs r (.panic v) s H' = (finV H v .pan H' = some r) := rfl
theorem finR_some {r : ER × Heap} {v : EV} {H' : Heap} : finR H r (some v) H' = (finV H v .ret H' = some r) := rfl
@[congr] theorem finR_congr {r : ER × Heap} {v v' : Option EV} {H' : Heap} (h : v = v') : finR H r v H' = finR H r v' H' := by rw [h]
theorem newP_ok {L : Nat} {v : EV} (hv : v.ok L = true) : newP L v = false := by
 cases v <;> first | rfl | (simp only [EV.ok, decide_eq_true_eq] at hv; simp only [newP, decide_eq_false_iff_not]; omega)
theorem finV_drop {G : Heap} {v : EV} {K : EV → ER} {r : ER} (hv : v.ok H.length = true) (e : K v = r) : finV H v K (H ++ G) = some (r, H) := by
 unfold finV
 rw [newP_ok hv, fz_ok hv, List.take_left, sameH_self, Bool.true_or, ← e]; rfl
theorem finV_same {v : EV} {K : EV → ER} {r : ER} (hv : v.ok H.length = true) (e : K v = r) : finV H v K H = some (r, H) := by
 unfold finV
 rw [newP_ok hv, fz_ok hv, List.take_of_length_le (Nat.le_refl _), sameH_self, Bool.true_or, ← e]; rfl
theorem finV_fz {G : Heap} {v v' : EV} {K : EV → ER} {r : ER} (hp : newP H.length v = false) (hv : fz H.length (H ++ G) 8 v = some v') (e : K v' = r) : finV H v K (H ++ G) = some (r, H) := by
 unfold finV
 rw [hp, hv, List.take_left, sameH_self, Bool.true_or, ← e]; rfl
theorem okC_self (n : Nat) : ∀ (H G : Heap), okC n H (H ++ G) = true
 | [], G => by cases G <;> rfl
 | a :: H, G => by
  have : beqB a a = true := by
   have := sameH_self [a]
   simpa [sameH, beqH] using this
  simp only [List.cons_append, okC, Bool.and_eq_true, Bool.or_eq_true]
  exact ⟨.inr this, okC_self n H G⟩
theorem okC_set (n : Nat) {b : Option EB} (hb : okX n b = true) : ∀ (H : Heap) (k : Nat) (G : Heap), okC n H (H.set k b ++ G) = true
 | [], _, G => by cases G <;> rfl
 | a :: H, 0, G => by
  rw [List.set_cons_zero, List.cons_append]
  simp only [okC, Bool.and_eq_true, Bool.or_eq_true]
  exact ⟨.inl hb, okC_self n H G⟩
 | a :: H, k + 1, G => by
  have : beqB a a = true := by
   have := sameH_self [a]
   simpa [sameH, beqH] using this
  rw [List.set_cons_succ, List.cons_append]
  simp only [okC, Bool.and_eq_true, Bool.or_eq_true]
  exact ⟨.inr this, okC_set n hb H k G⟩
theorem finV_set {k : Nat} {b : Option EB} {G : Heap} {v v' : EV} {K : EV → ER} {r : ER} (hp : newP H.length v = false) (hv : fz H.length (H.set k b ++ G) 8 v = some v') (hb : okX H.length b = true) (e : K v' = r) :
  finV H v K (H.set k b ++ G) = some (r, H.set k b) := by
 unfold finV
 rw [hp, hv, okC_set _ hb, Bool.or_true, ← e]
 have : List.take H.length (H.set k b ++ G) = H.set k b := by
  have hl : H.length = (H.set k b).length := by simp
  rw [hl, List.take_left]
 rw [this]; rfl
structure Def (E : Env) (f : FuncId) (ec : EC) (rs : List ERes) (nt : Nat) : Prop where
 T : E.T f = some ⟨ec, rs, nt⟩
 Ψ : ∀ as H, E.Ψ f as H = none
 K : E.K f = false
theorem den_of {f : FuncId} {ec : EC} {rs : List ERes} {nt : Nat} (hT : Def E f ec rs nt) {as : List EV} {r : ER × Heap} (hl : as.length ≤ nt) (h : @Hd E ⟨ec⟩ ⟨slots0 as⟩ ⟨H⟩ ⟨finQ H rs r⟩) : den E f as H = some r := by
 rw [den_fun hT.T (hT.Ψ as H) hT.K hl]
 obtain ⟨x, s', H', h1, h2⟩ := h
 simp only at h1 h2
 rw [h1]
 exact h2
def finQK (rs : List ERes) (r : ER × Heap) (x : AX) (s : Slots) (H' : Heap) : Prop := finK rs (some (x, s, H')) = some r
def finRK (r : ER × Heap) (v : Option EV) (H' : Heap) : Prop :=
 match v with
 | some v => (ER.ret v, H') = r
 | none => False
theorem finK_ret {rs : List ERes} {r : ER × Heap} {s : Slots} {H' : Heap} : finQK rs r .ret s H' = finRK r (evResults s H' rs) H' := by
 unfold finQK finRK finK; cases h : evResults s H' rs <;> simp [h]
theorem finK_norm {rs : List ERes} {r : ER × Heap} {s : Slots} {H' : Heap} : finQK rs r .normal s H' = finRK r (evResults s H' rs) H' := by
 unfold finQK finRK finK; cases h : evResults s H' rs <;> simp [h]
theorem finK_pan {rs : List ERes} {r : ER × Heap} {v : EV} {s : Slots} {H' : Heap} : finQK rs r (.panic v) s H' = ((ER.pan v, H') = r) := by unfold finQK finK; simp
theorem finRK_some {r : ER × Heap} {v : EV} {H' : Heap} : finRK r (some v) H' = ((ER.ret v, H') = r) := rfl
@[congr] theorem finRK_congr {r : ER × Heap} {v v' : Option EV} {H' : Heap} (h : v = v') : finRK r v H' = finRK r v' H' := by rw [h]
def Sl (s : Slots) : List (Nat × EV) → Prop
 | [] => True
 | (n, v) :: l => s n = v ∧ Sl s l
theorem while_of {ι : Type} {c : EC} (J : ι → Prop) (μ : ι → Nat) (S : ι → List (Nat × EV)) (Hp : ι → Heap) (i0 : ι) (hJ : J i0) (hs : Sl s (S i0)) (hH : H = Hp i0)
  (step : ∀ i s, J i → Sl s (S i) → ∀ K : Slots → Heap → Prop, (∀ j s' H', J j → μ j < μ i → Sl s' (S j) → H' = Hp j → K s' H') → @Hd E ⟨c⟩ ⟨s⟩ ⟨Hp i⟩ ⟨thenA K Q⟩) : @Hd E ⟨.loop c⟩ ⟨s⟩ ⟨H⟩ ⟨Q⟩ := by
 have key : ∀ m i s, μ i = m → J i → Sl s (S i) → @Hd E ⟨.loop c⟩ ⟨s⟩ ⟨Hp i⟩ ⟨Q⟩ := by
  intro m
  induction m using Nat.strongRecOn with
  | _ m ih =>
   intro i s hm hJ hs
   have := step i s hJ hs (fun s' H' => @Hd E ⟨.loop c⟩ ⟨s'⟩ ⟨H'⟩ ⟨Q⟩) fun j s' H' hJ' hlt hs' e => by
    subst e
    exact ih (μ j) (by omega) j s' rfl hJ' hs'
   obtain ⟨x, s1, H1, h1, h2⟩ := this
   simp only at h1 h2
   show ∃ x s' H', denC E (.loop c) s (Hp i) = some (x, s', H') ∧ Q x s' H'
   rw [denC_loop, h1]
   cases x with
   | normal => exact h2
   | _ => exact ⟨_, _, _, rfl, h2⟩
 rw [hH]
 exact key _ i0 s rfl hJ hs
attribute [go_sem ↓] Hd_skip Hd_exit Hd_ret Hd_ops Hd_draw Hd_seq Hd_block Hd_cond HO_nil HD_nil HO_cons HO_guard HD_cons HD_guard opD_call opD_panic opD_mov opD_pick opD_box opD_build opD_bsl opD_load opD_store opD_nilchk opD_bin opD_cmpBool opD_cmpAgg opD_cmpNil opD_un opD_cvtInt opD_iface opD_func opD_faddr opD_field opD_iaddrA opD_iaddrS opD_idxA opD_idxStr opD_extract opD_slStr opD_slSl opD_slSl3 opD_cap opD_clear opD_len opD_mkmap opD_lookup opD_mapset opD_append opD_appz opD_rng opD_next opD_slArr opD_toStr opD_idxB opD_mm opD_mkSl opD_copy opD_tassert opD_runeStr then_norm then_ex then_rt then_pan blk_norm blk_rt blk_pan blk_ex fin_ret fin_norm fin_pan finK_ret finK_norm finK_pan
attribute [go_sem] HS_ret HS_pan HSD_true HSD_same HG_tt HG_ff HG_tf HG_ft HG_gone HC_t HC_f guard_some guard_not lift_some callD_func panD_iface finR_some finRK_some evResults evResL evRes List.nil_append List.append_nil List.cons_append
end
section
variable (E : Env)
abbrev QE := Xsh → Option (FuncId × List EV) → Prop
def HE (f : EF) (s : Slots) (H : Heap) (Q : QE) : Prop := ∃ n x, efF (runF E n) E.γ n f s H = some x ∧ Q x.1 x.2
structure DefE (E : Env) (f : FuncId) (ef : EF) (rs : List ERes) (nt : Nat) : Prop where
 T : E.T f = none
 F : E.F f = some ⟨ef, rs, nt⟩
 Ψ : ∀ as H, E.Ψ f as H = none
def HDf (g : FuncId) (as : List EV) (H : Heap) (pv : Option EV) (K : Heap → Prop) : Prop :=
 ∃ d, E.D g = some d ∧ as.length ≤ d.nt ∧ @Hd E ⟨d.ec⟩ ⟨upd (upd (slots0 as) d.d0 (pv.getD .nilif)) d.d1 (pv.getD .nilif)⟩ ⟨H⟩ ⟨fun x s2 H2 => ∃ v H3, finF H [] (some (x, s2, H2)) = some (.ret v, H3) ∧ K H3⟩
def finQE (H : Heap) (rs : List ERes) (r : ER × Heap) (x : Xsh) (d : Option (FuncId × List EV)) : Prop :=
 match d with
 | none => finF H rs (some x) = some r
 | some (g, as) =>
  match x with
  | (.normal, s, H') | (.ret, s, H') => HDf E g as H' none fun H2 => finR H r (evResults s H2 rs) H2
  | (.panic v, s, H') => HDf E g as H' (some v) fun H2 => finR H r (evResults s H2 rs) H2
  | _ => False
end
section
variable {E : Env} {s : Slots} {H : Heap}
theorem HE_pre {a : EC} {f : EF} {Q : QE} (h : @Hd E ⟨a⟩ ⟨s⟩ ⟨H⟩ ⟨fun x s' H' => match x with | .normal => HE E f s' H' Q | x => Q (x, s', H') none⟩) : HE E (.pre a f) s H Q := by
 obtain ⟨x, s', H', h1, h2⟩ := h
 obtain ⟨n, hn⟩ := denC_iff.1 h1
 simp only at hn h2
 cases x with
 | normal =>
  obtain ⟨m, y, hy, hq⟩ := h2
  refine ⟨max n m, y, ?_, hq⟩
  simp only [efF, code_up (Nat.le_max_left n m) _ hn]
  exact efF_mono (runF_up (Nat.le_max_right n m)) (Nat.le_max_right n m) _ _ _ _ hy
 | _ => exact ⟨n, _, by simp only [efF, hn]; rfl, h2⟩
theorem HE_dfr {l : List EOper} {f : EOpd} {args : List EOpd} {c : EC} {Q : QE} (h : @HO E ⟨l⟩ ⟨s⟩ ⟨H⟩ ⟨fun x s1 H1 => match x with
   | .normal => ∃ g first cap, ev E.γ s1 f = .func (.func g) first cap ∧ @Hd E ⟨c⟩ ⟨s1⟩ ⟨H1⟩ ⟨fun x s' H' => Q (x, s', H') (some (g, first ++ args.map (ev E.γ s1) ++ cap))⟩
   | x => Q (x, s1, H1) none⟩) : HE E (.dfr l f args c) s H Q := by
 obtain ⟨x, s1, H1, h1, h2⟩ := h
 simp only at h1 h2
 obtain ⟨n, hn⟩ := denO_cont l s H _ h1
 cases x with
 | normal =>
  obtain ⟨g, first, cap, hf, y, s2, H2, h3, hq⟩ := h2
  simp only at h3 hq
  obtain ⟨m, hm⟩ := denC_iff.1 h3
  refine ⟨max n m, ((y, s2, H2), some (g, first ++ args.map (ev E.γ s1) ++ cap)), ?_, hq⟩
  simp only [efF, opsF_mono (runF_up (Nat.le_max_left n m)) _ _ _ _ hn, hf, code_up (Nat.le_max_right n m) _ hm, Option.map_some]
 | _ => exact ⟨n, _, by simp only [efF, hn]; rfl, h2⟩
theorem HDf_run {g : FuncId} {as : List EV} {pv : Option EV} {K : Heap → Prop} (h : HDf E g as H pv K) : ∃ n H2, dcF (runF E n) E.γ E.D n g as H pv = some H2 ∧ K H2 := by
 obtain ⟨d, hd, hl, x, s2, H2, h1, v, H3, h2, hk⟩ := h
 simp only at h1 h2 hk
 obtain ⟨n, hn⟩ := denC_iff.1 h1
 refine ⟨n, H3, ?_, hk⟩
 simp only [dcF, hd, if_pos hl, hn, h2]
theorem den_ofE {f : FuncId} {ef : EF} {rs : List ERes} {nt : Nat} (hF : DefE E f ef rs nt) {as : List EV} {r : ER × Heap} (hl : as.length ≤ nt) (h : HE E ef (slots0 as) H (finQE E H rs r)) : den E f as H = some r := by
 obtain ⟨n, x, hx, hq⟩ := h
 have key : ∃ m, n ≤ m ∧ finE (runF E m) E.γ E.D m H rs (some x) = some r := by
  obtain ⟨⟨x, s1, H1⟩, d⟩ := x
  cases d with
  | none => exact ⟨n, Nat.le_refl n, hq⟩
  | some p =>
   obtain ⟨g, as'⟩ := p
   have go : ∀ pv, HDf E g as' H1 pv (fun H2 => finR H r (evResults s1 H2 rs) H2) → ∃ m, n ≤ m ∧ (match dcF (runF E m) E.γ E.D m g as' H1 pv with | some H2 => finR' H rs s1 H2 | none => none) = some r := by
    intro pv hd
    obtain ⟨m, H2, hm, hr⟩ := HDf_run hd
    refine ⟨max n m, Nat.le_max_left n m, ?_⟩
    rw [dcF_mono (runF_up (Nat.le_max_right n m)) (Nat.le_max_right n m) hm]
    unfold finR at hr
    unfold finR'
    simp only
    cases hv : evResults s1 H2 rs with
    | none => rw [hv] at hr; exact hr.elim
    | some v => rw [hv] at hr; exact hr
   cases x with
   | normal => exact go _ hq
   | ret => exact go _ hq
   | panic v => exact go _ hq
   | exit id => exact hq.elim
 obtain ⟨m, hnm, hm⟩ := key
 refine den_iff.2 ⟨m + 1, ?_⟩
 unfold runF
 rw [hF.Ψ, hF.T, hF.F]
 simp only
 rw [if_pos hl, efF_mono (runF_up hnm) hnm _ _ _ _ hx]
 exact hm
end
def look {α : Type} : List (Nat × α) → Nat → Option α
 | [], _ => none
 | (k, x) :: l, n => if n = k then some x else look l n
def AllT {α : Type} (p : Nat → α → Prop) : List (Nat × α) → Prop
 | [] => True
 | (k, x) :: l => p k x ∧ AllT p l
theorem AllT.look {α : Type} {p : Nat → α → Prop} : ∀ {l : List (Nat × α)}, AllT p l → ∀ {n : Nat} {x : α}, Abs.look l n = some x → p n x
 | [], _, n, x, h => by simp [Abs.look] at h
 | (k, y) :: l, h, n, x, hx => by
  unfold Abs.look at hx
  split at hx
  ·rename_i e
   obtain rfl := Option.some.inj hx
   rw [e]
   exact h.1
  ·exact AllT.look h.2 hx
section
variable {E : Env} {s : Slots} {H : Heap} {Q : QT}
theorem retSame_cont {r : Nat → Res} {r' : Res} {K : Nat → EV → Bool} {K' : EV → Bool} (hr : ∀ q, r' = some q → ∃ n, r n = some q) (mr : ∀ n m, n ≤ m → ∀ q, r n = some q → r m = some q) (hk : ∀ v, K' v = true → ∃ n, K n v = true) (mk : ∀ n m, n ≤ m → ∀ v, K n v = true → K m v = true)
  (h : retSame H r' K' = true) : ∃ n, retSame H (r n) (K n) = true := by
 unfold retSame at h
 split at h
 ·rename_i v H'
  simp only [Bool.and_eq_true] at h
  obtain ⟨n, hn⟩ := hr _ rfl
  obtain ⟨m, hm⟩ := hk v h.2
  refine ⟨max n m, ?_⟩
  rw [mr n _ (Nat.le_max_left n m) _ hn]
  simp only [retSame, Bool.and_eq_true]
  exact ⟨h.1, mk m _ (Nat.le_max_right n m) _ hm⟩
 ·simp at h
theorem aloneF_cont : ∀ (l : List GO) (bs : List Bool) (s : Slots) (H : Heap), aloneF (den E) E.γ l bs s H = true → ∃ n, aloneF (runF E n) E.γ l bs s H = true
 | [], _, _, _, _ => ⟨0, rfl⟩
 | g :: l, bs, s, H, h => by
  have ih := aloneF_cont l
  have up : ∀ n m, n ≤ m → ∀ bs s H, aloneF (runF E n) E.γ l bs s H = true → aloneF (runF E m) E.γ l bs s H = true := fun n m hnm bs s H h => aloneF_mono (runF_up hnm) _ _ _ _ h
  have one : ∀ {K : Nat → EV → Bool} {K' : EV → Bool}, (∀ v, K' v = true → ∃ n, K n v = true) → (∀ n m, n ≤ m → ∀ v, K n v = true → K m v = true) → retSame H (opF (den E) (ev E.γ s) H g.o.op) K' = true → ∃ n, retSame H (opF (runF E n) (ev E.γ s) H g.o.op) (K n) = true := fun hk mk h =>
   retSame_cont (fun q hq => opF_cont hq) (fun n m hnm q hq => opF_up hnm q hq) hk mk h
  unfold aloneF at h
  by_cases hb : bs.headD true = true
  ·rw [if_pos hb] at h
   obtain ⟨n, hn⟩ := ih _ _ _ h
   exact ⟨n, by unfold aloneF; rw [if_pos hb]; exact hn⟩
  ·rw [if_neg hb] at h
   simp only [Bool.and_eq_true] at h
   have h2 := h.2
   cases hg : g.o.guard with
   | none =>
    rw [hg] at h2
    obtain ⟨n, hn⟩ := one (K := fun n v => aloneF (runF E n) E.γ l bs.tail (putA s g.o.dst v) H) (fun v hv => ih _ _ _ hv) (fun n m hnm v hv => up n m hnm _ _ _ hv) h2
    exact ⟨n, by unfold aloneF; rw [if_neg hb, hg]; simp only [Bool.and_eq_true]; exact ⟨h.1, hn⟩⟩
   | some p =>
    obtain ⟨d, b⟩ := p
    rw [hg] at h2
    simp only at h2
    unfold gateB at h2
    split at h2
    ·rename_i t ht
     split at h2
     ·rename_i e
      obtain ⟨n, hn⟩ := one (K := fun n v => aloneF (runF E n) E.γ l bs.tail (putA s g.o.dst v) H) (fun v hv => ih _ _ _ hv) (fun n m hnm v hv => up n m hnm _ _ _ hv) h2
      exact ⟨n, by unfold aloneF; rw [if_neg hb, hg]; simp only [Bool.and_eq_true, gateB, ht, if_pos e]; exact ⟨h.1, hn⟩⟩
     ·rename_i e
      obtain ⟨n, hn⟩ := ih _ _ _ h2
      exact ⟨n, by unfold aloneF; rw [if_neg hb, hg]; simp only [Bool.and_eq_true, gateB, ht, if_neg e]; exact ⟨h.1, hn⟩⟩
    ·rename_i ht
     obtain ⟨n, hn⟩ := ih _ _ _ h2
     exact ⟨n, by unfold aloneF; rw [if_neg hb, hg]; simp only [Bool.and_eq_true, gateB, ht]; exact ⟨h.1, hn⟩⟩
    ·simp at h2
theorem stepG_cont {g : GO} {r : Nat → Res} {r' : Res} {K p : Nat → EV → Heap → Option Xsh} {K' p' : EV → Heap → Option Xsh} {x : Xsh} (hr : ∀ q, r' = some q → ∃ n, r n = some q) (mr : ∀ n m, n ≤ m → ∀ q, r n = some q → r m = some q) (hk : ∀ v H y, K' v H = some y → ∃ n, K n v H = some y) (mk : ∀ n m, n ≤ m → ∀ v H y, K n v H = some y → K m v H = some y)
  (hp : ∀ v H y, p' v H = some y → ∃ n, p n v H = some y) (mp : ∀ n m, n ≤ m → ∀ v H y, p n v H = some y → p m v H = some y) (h : stepG' g H r' K' p' = some x) : ∃ n, stepG' g H (r n) (K n) (p n) = some x := by
 unfold stepG' at h
 split at h
 ·rename_i v H'
  split at h
  ·rename_i e
   obtain ⟨n, hn⟩ := hr _ rfl
   obtain ⟨m, hm⟩ := hk _ _ _ h
   refine ⟨max n m, ?_⟩
   rw [mr n _ (Nat.le_max_left n m) _ hn]
   simp only [stepG', if_pos e]
   exact mk m _ (Nat.le_max_right n m) _ _ _ hm
  ·simp at h
 ·rename_i v H'
  obtain ⟨n, hn⟩ := hr _ rfl
  obtain ⟨m, hm⟩ := hp _ _ _ h
  refine ⟨max n m, ?_⟩
  rw [mr n _ (Nat.le_max_left n m) _ hn]
  exact mp m _ (Nat.le_max_right n m) _ _ _ hm
 ·simp at h
theorem drG_cont {ds : List Nat} : ∀ (l : List GO) (s : Slots) (H : Heap) (r : Xsh), drG (den E) E.γ ds l s H = some r → ∃ n, drG (runF E n) E.γ ds l s H = some r
 | [], _, _, _, h => ⟨0, h⟩
 | g :: l, s, H, r, h => by
  have ih := drG_cont (ds := ds) l
  have up : ∀ n m, n ≤ m → ∀ s H y, drG (runF E n) E.γ ds l s H = some y → drG (runF E m) E.γ ds l s H = some y := fun n m hnm s H y h => drG_mono (runF_up hnm) _ _ _ _ h
  have kc : ∀ v H' y, (if g.us.all (loadAgain (putA s g.o.dst v) H') then drG (den E) E.γ ds l (putA s g.o.dst v) H' else none) = some y → ∃ n, (if g.us.all (loadAgain (putA s g.o.dst v) H') then drG (runF E n) E.γ ds l (putA s g.o.dst v) H' else none) = some y := fun v H' y h => by
   split at h
   ·rename_i e
    obtain ⟨n, hn⟩ := ih _ _ _ h
    exact ⟨n, by rw [if_pos e]; exact hn⟩
   ·simp at h
  have ku : ∀ n m, n ≤ m → ∀ v H' y, (if g.us.all (loadAgain (putA s g.o.dst v) H') then drG (runF E n) E.γ ds l (putA s g.o.dst v) H' else none) = some y → (if g.us.all (loadAgain (putA s g.o.dst v) H') then drG (runF E m) E.γ ds l (putA s g.o.dst v) H' else none) = some y := fun n m hnm v H' y h => by
   split at h
   ·rename_i e; rw [if_pos e]; exact up n m hnm _ _ _ h
   ·simp at h
  unfold drG at h
  cases hg : g.o.guard with
  | none =>
   rw [hg] at h
   obtain ⟨n, hn⟩ := stepG_cont (fun q hq => opF_cont hq) (fun n m hnm q hq => opF_up hnm q hq) kc ku
    (p := fun n v H' => if g.chg && isCallOp g.o.op && aloneF (runF E n) E.γ l g.beh s H then some (.panic v, forget ds s, H') else none) (fun v H' y h => by
     split at h
     ·rename_i e
      simp only [Bool.and_eq_true] at e
      obtain ⟨n, hn⟩ := aloneF_cont _ _ _ _ e.2
      exact ⟨n, by rw [if_pos (by simp only [Bool.and_eq_true]; exact ⟨e.1, hn⟩)]; exact h⟩
     ·simp at h) (fun n m hnm v H' y h => by
     split at h
     ·rename_i e
      simp only [Bool.and_eq_true] at e
      rw [if_pos (by simp only [Bool.and_eq_true]; exact ⟨e.1, aloneF_mono (runF_up hnm) _ _ _ _ e.2⟩)]
      exact h
     ·simp at h) h
   exact ⟨n, by unfold drG; rw [hg]; exact hn⟩
  | some p =>
   obtain ⟨d, b⟩ := p
   rw [hg] at h
   simp only at h
   obtain ⟨n, hn⟩ := gateO_cont (a := fun n => stepG' g H (opF (runF E n) (ev E.γ s) H g.o.op) (fun v H' => if g.us.all (loadAgain (putA s g.o.dst v) H') then drG (runF E n) E.γ ds l (putA s g.o.dst v) H' else none) fun _ _ => none)
    (b := fun n => if g.us.all (loadAgain (putA s g.o.dst (.tup [])) H) then drG (runF E n) E.γ ds l (putA s g.o.dst (.tup [])) H else none)
    (fun y hy => stepG_cont (p := fun _ _ _ => none) (fun q hq => opF_cont hq) (fun n m hnm q hq => opF_up hnm q hq) kc ku (fun v H' y h => by simp at h) (fun n m hnm v H' y h => by simp at h) hy) (fun y hy => kc _ _ _ hy) h
   exact ⟨n, by unfold drG; rw [hg]; exact hn⟩
theorem denC_drawG {gs : List GO} {ds : List Nat} : denC E (.drawG gs ds) s H = drG (den E) E.γ ds gs s H := by
 refine opt_ext fun r => ⟨fun h => ?_, fun h => ?_⟩
 ·obtain ⟨n, hn⟩ := denC_iff.1 h
  cases n with
  | zero => simp [codeF] at hn
  | succ n => exact drG_mono runF_den _ _ _ _ hn
 ·obtain ⟨n, hn⟩ := drG_cont _ _ _ _ h
  refine denC_iff.2 ⟨n + 1, ?_⟩
  exact drG_mono (runF_up (Nat.le_succ n)) _ _ _ _ hn
/-! ### The head's rules -/
def HDG (E : Env) (ds : List Nat) [l : Kt (List GO)] [s : Kt Slots] [H : Kt Heap] [Q : Kt QT] : Prop := ∃ x s' H', drG (den E) E.γ ds l.k s.k H.k = some (x, s', H') ∧ Q.k x s' H'
def HSG (chg : Bool) (H : Heap) (r : Res) [K : Kt KT] [p : Kt KT] : Prop :=
 match r with
 | some (.ret v, H') => (chg || sameH H' H) = true ∧ K.k v H'
 | some (.pan v, H') => p.k v H'
 | none => False
@[congr] theorem HSG_congr {c : Bool} {r r' : Res} {K p : Kt KT} (h : r = r') : @HSG c H r K p = @HSG c H r' K p := by rw [h]
theorem Hd_drawG {gs : List GO} {ds : List Nat} : @Hd E ⟨.drawG gs ds⟩ ⟨s⟩ ⟨H⟩ ⟨Q⟩ = @HDG E ds ⟨gs⟩ ⟨s⟩ ⟨H⟩ ⟨Q⟩ := by unfold Hd HDG; simp only [denC_drawG]
theorem HDG_nil {ds : List Nat} : @HDG E ds ⟨[]⟩ ⟨s⟩ ⟨H⟩ ⟨Q⟩ = Q .normal s H := propext ⟨fun ⟨x, s', H', h, hq⟩ => by cases h; exact hq, fun h => ⟨_, _, _, rfl, h⟩⟩
theorem stepG_HSG {g : GO} {r : Res} {K p : EV → Heap → Option Xsh} : (∃ x s' H', stepG' g H r K p = some (x, s', H') ∧ Q x s' H') = @HSG g.chg H r ⟨fun v H' => ∃ x s1 H1, K v H' = some (x, s1, H1) ∧ Q x s1 H1⟩ ⟨fun v H' => ∃ x s1 H1, p v H' = some (x, s1, H1) ∧ Q x s1 H1⟩ := by
 unfold stepG' HSG
 cases r with
 | none => simp
 | some y =>
  obtain ⟨y, H1⟩ := y
  cases y with
  | ret v =>
   simp only
   split
   ·rename_i e; simp [e]
   ·rename_i e; simp [e]
  | pan v => rfl
theorem if_ex {c : Prop} [Decidable c] {y : Option Xsh} : (∃ x s' H', (if c then y else none) = some (x, s', H') ∧ Q x s' H') = (c ∧ ∃ x s' H', y = some (x, s', H') ∧ Q x s' H') := by
 by_cases h : c
 ·simp [h]
 ·simp [h]
theorem HSG_ext {c : Bool} {r : Res} {K K' p p' : KT} (h1 : ∀ v H', K v H' = K' v H') (h2 : ∀ v H', p v H' = p' v H') : @HSG c H r ⟨K⟩ ⟨p⟩ = @HSG c H r ⟨K'⟩ ⟨p'⟩ := by
 rw [show K = K' from funext fun v => funext fun H' => h1 v H', show p = p' from funext fun v => funext fun H' => h2 v H']
theorem HG_ext {v : EV} {t : Bool} {a a' b b' : Prop} (h1 : a = a') (h2 : b = b') : @HG v t ⟨fun _ => a⟩ ⟨fun _ => b⟩ = @HG v t ⟨fun _ => a'⟩ ⟨fun _ => b'⟩ := by rw [h1, h2]
theorem HDG_cons {ds : List Nat} {d : Option Nat} {op : EOp} {chg : Bool} {us : List RC} {beh : List Bool} {l : List GO} : @HDG E ds ⟨⟨⟨d, op, none⟩, chg, us, beh⟩ :: l⟩ ⟨s⟩ ⟨H⟩ ⟨Q⟩ =
  @HSG chg H (opD E (ev E.γ s) H op) ⟨fun v H' => us.all (loadAgain (putA s d v) H') = true ∧ @HDG E ds ⟨l⟩ ⟨putA s d v⟩ ⟨H'⟩ ⟨Q⟩⟩
   ⟨fun v H' => (chg && isCallOp op && aloneF (den E) E.γ l beh s H) = true ∧ Q (.panic v) (forget ds s) H'⟩ := by
 unfold HDG opD
 simp only [drG]
 rw [stepG_HSG]
 exact HSG_ext (fun v H' => if_ex) fun v H' => by
  rw [if_ex]
  congr 1
  exact propext ⟨fun ⟨x, s', H', h, hq⟩ => by cases h; exact hq, fun h => ⟨_, _, _, rfl, h⟩⟩
theorem HDG_guard {ds : List Nat} {d : Option Nat} {op : EOp} {g : Nat} {b chg : Bool} {us : List RC} {beh : List Bool} {l : List GO} : @HDG E ds ⟨⟨⟨d, op, some (g, b)⟩, chg, us, beh⟩ :: l⟩ ⟨s⟩ ⟨H⟩ ⟨Q⟩ =
  @HG (s g) b ⟨fun _ => @HSG chg H (opD E (ev E.γ s) H op) ⟨fun v H' => us.all (loadAgain (putA s d v) H') = true ∧ @HDG E ds ⟨l⟩ ⟨putA s d v⟩ ⟨H'⟩ ⟨Q⟩⟩ ⟨fun _ _ => False⟩⟩
   ⟨fun _ => us.all (loadAgain (putA s d (.tup [])) H) = true ∧ @HDG E ds ⟨l⟩ ⟨putA s d (.tup [])⟩ ⟨H⟩ ⟨Q⟩⟩ := by
 unfold HDG opD
 simp only [drG]
 rw [gate_HG]
 exact HG_ext (by rw [stepG_HSG]; exact HSG_ext (fun v H' => if_ex) fun v H' => by simp) if_ex
theorem HSG_true {v : EV} {H' : Heap} {K p : KT} : @HSG true H (some (.ret v, H')) ⟨K⟩ ⟨p⟩ = K v H' := by simp [HSG]
theorem HSG_same {c : Bool} {v : EV} {K p : KT} : @HSG c H (some (.ret v, H)) ⟨K⟩ ⟨p⟩ = K v H := by simp [HSG, sameH_self]
theorem HSG_pan {c : Bool} {v : EV} {H' : Heap} {K p : KT} : @HSG c H (some (.pan v, H')) ⟨K⟩ ⟨p⟩ = p v H' := rfl
attribute [go_sem ↓] Hd_drawG HDG_nil HDG_cons HDG_guard
attribute [go_sem] HSG_true HSG_same HSG_pan
end
theorem evNilC_no {c : Bool} {t : TypeId} {v : EV} : evNilC c .ifc (.iface t v) .nilif = some false := rfl
theorem evNilC_no' {c : Bool} {t : TypeId} {v : EV} : evNilC c .ifc .nilif (.iface t v) = some false := rfl
theorem evNilC_lit {x : EOpd} : evNilC (x.isC || (EOpd.c .nilif).isC) .ifc .nilif .nilif = some true := by rw [show (x.isC || (EOpd.c .nilif).isC) = true from by cases x.isC <;> rfl]; rfl
theorem evNilC_sl {c : Bool} {x y : EV} : evNilC c .sl x y = evNil .sl x y := rfl
theorem evNilC_pt {c : Bool} {x y : EV} : evNilC c .pt x y = evNil .pt x y := rfl
theorem evNilC_mp {c : Bool} {x y : EV} : evNilC c .mp x y = evNil .mp x y := rfl
theorem evNilC_fn {c : Bool} {x y : EV} : evNilC c .fn x y = evNil .fn x y := rfl
theorem evTas_yes {t : TypeId} {z v : EV} : evTas t true z (.iface t v) = some (.tup [v, .bool true]) := by simp [evTas]
theorem evTas_get {t : TypeId} {z v : EV} : evTas t false z (.iface t v) = some v := by simp [evTas]
theorem evTas_nil {t : TypeId} {z : EV} : evTas t true z .nilif = some (.tup [z, .bool false]) := rfl
theorem evToStr_nil {H : Heap} : evToStr .nilsl H = some (.str []) := rfl
theorem evToStr_zsl {H : Heap} : evToStr .zsl H = some (.str []) := rfl
theorem evCap_nil : evCap .nilsl = some 0 := rfl
theorem evCap_zsl : evCap .zsl = some 0 := rfl
theorem evLen_zsl : evLen false .zsl = some 0 := rfl
theorem map_some_go {α β : Type} {f : α → β} {x : α} : Option.map f (some x) = some (f x) := rfl
theorem Hd_loop8 {E : Env} {s : Slots} {H : Heap} {Q : QT} {c : EC} (h : @Hd E ⟨c⟩ ⟨s⟩ ⟨H⟩ ⟨thenA (fun s' H' => @Hd E ⟨.loop c⟩ ⟨s'⟩ ⟨H'⟩ ⟨Q⟩) Q⟩) : @Hd E ⟨.loop c⟩ ⟨s⟩ ⟨H⟩ ⟨Q⟩ := by
 obtain ⟨x, s', H', h1, h2⟩ := h
 simp only at h1 h2
 show ∃ x s' H', denC E (.loop c) s H = some (x, s', H') ∧ Q x s' H'
 rw [denC_loop, h1]
 cases x with
 | normal => exact h2
 | _ => exact ⟨_, _, _, rfl, h2⟩
theorem Hd_cut2 {E : Env} {s : Slots} {H : Heap} {Q : QT} {a b : EC} (R : Slots → Heap → Prop) (h1 : @Hd E ⟨a⟩ ⟨s⟩ ⟨H⟩ ⟨thenA R Q⟩) (h2 : ∀ s' H', R s' H' → @Hd E ⟨b⟩ ⟨s'⟩ ⟨H'⟩ ⟨Q⟩) : @Hd E ⟨.seq a b⟩ ⟨s⟩ ⟨H⟩ ⟨Q⟩ := by
 rw [Hd_seq]
 obtain ⟨x, s', H', h, hr⟩ := h1
 refine ⟨x, s', H', h, ?_⟩
 cases x with
 | normal => exact h2 _ _ hr
 | _ => exact hr
def finQx (H : Heap) (rs : List ERes) (P : ER × Heap → Prop) (x : AX) (s : Slots) (H' : Heap) : Prop := ∃ r, finF H rs (some (x, s, H')) = some r ∧ P r
def finRx (H : Heap) (P : ER × Heap → Prop) (v : Option EV) (H' : Heap) : Prop :=
 match v with
 | some v => ∃ r, finV H v .ret H' = some r ∧ P r
 | none => False
theorem finx_ret {H : Heap} {rs : List ERes} {P : ER × Heap → Prop} {s : Slots} {H' : Heap} : finQx H rs P .ret s H' = finRx H P (evResults s H' rs) H' := by
 unfold finQx finRx finF; cases h : evResults s H' rs <;> simp [h]
theorem finx_norm {H : Heap} {rs : List ERes} {P : ER × Heap → Prop} {s : Slots} {H' : Heap} : finQx H rs P .normal s H' = finRx H P (evResults s H' rs) H' := by
 unfold finQx finRx finF; cases h : evResults s H' rs <;> simp [h]
theorem finx_pan {H : Heap} {rs : List ERes} {P : ER × Heap → Prop} {v : EV} {s : Slots} {H' : Heap} : finQx H rs P (.panic v) s H' = ∃ r, finV H v .pan H' = some r ∧ P r := rfl
theorem finRx_some {H : Heap} {P : ER × Heap → Prop} {v : EV} {H' : Heap} : finRx H P (some v) H' = ∃ r, finV H v .ret H' = some r ∧ P r := rfl
@[congr] theorem finRx_congr {H : Heap} {P : ER × Heap → Prop} {v v' : Option EV} {H' : Heap} (h : v = v') : finRx H P v H' = finRx H P v' H' := by rw [h]
theorem den_ex {E : Env} {H : Heap} {f : FuncId} {ec : EC} {rs : List ERes} {nt : Nat} (hT : Def E f ec rs nt) {as : List EV} {P : ER × Heap → Prop} (hl : as.length ≤ nt) (h : @Hd E ⟨ec⟩ ⟨slots0 as⟩ ⟨H⟩ ⟨finQx H rs P⟩) : ∃ r, den E f as H = some r ∧ P r := by
 rw [den_fun hT.T (hT.Ψ as H) hT.K hl]
 obtain ⟨x, s', H', h1, r, h2, h3⟩ := h
 simp only at h1
 rw [h1]
 exact ⟨r, h2, h3⟩
attribute [go_sem ↓] finx_ret finx_norm finx_pan
attribute [go_sem] finRx_some
attribute [go_sem] evNilC_no evNilC_no' evNilC_lit evNilC_sl evNilC_pt evNilC_mp evNilC_fn evTas_yes evTas_get evTas_nil evToStr_nil evToStr_zsl evCap_nil evCap_zsl evLen_zsl map_some_go
end Abs
