/- Functions that defer a call, and functions that are deferred. -/
import Derived.Test.YtihgbhkpjehhcaaDen3A
import Derived.RecoverIn
namespace Abs
open Go
set_option linter.all false

def resDfr (P : Program) (n : Nat) (own : List Nat) : Code → Option (List EOper × EOpd × List EOpd)
  | .region _ ops false =>
    match ops.toList.reverse with
    | o :: rs =>
      match o.op, o.guard, o.dst with
      | .defer { callee := .value f, args, .. }, none, none =>
        match rs.reverse.mapM (resOper P n own ops), resOpd f, args.toList.mapM resOpd with
        | some l, some f, some as => some (l, f, as)
        | _, _, _ => none
      | _, _, _ => none
    | [] => none
  | _ => none

def resF (P : Program) (n : Nat) (own : List Nat) : Code → Option EF
  | .seq a b =>
    match resDfr P n own a with
    | some (l, f, as) => (resC P n own b).map (.dfr l f as)
    | none =>
      match resC P n own a, resF P n own b with
      | some x, some y => some (.pre x y)
      | _, _ => none
  | c => (resC P n own c).map .code

/-- The code of a deferred function. -/
def resD (P : Program) (n : Nat) (own : List Nat) : Code → Option (Nat × Nat × EC)
  | .seq (.region _ ops false) c =>
    match ops.toList with
    | [o0, o1] =>
      match o0.op, o0.dst, o0.guard, o1.op, o1.dst, o1.guard with
      | .call { callee := .builtin .recover, .. }, some d0, none, .assign (.tmp t), some d1, none =>
        if t = d0 ∧ d0 < n ∧ d1 < n then (resC P n own c).map fun x => (d0, d1, x) else none
      | _, _, _, _, _, _ => none
    | _ => none
  | _ => none

def BodyE (P : Program) (f : FuncId) (ef : EF) (rs : List ERes) (nt : Nat) : Prop :=
  ∃ (fn : Func) (c : Code) (own : List Nat), P.funcs[f]? = some fn ∧ fn.body = some c ∧ (fn.name == "runtime.NumGoroutine") = false ∧ resF P nt own c = some ef ∧ fn.results.toList.mapM (resRes P) = some rs ∧ fn.ntmps = nt

def BodyD (P : Program) (f : FuncId) (d0 d1 : Nat) (ec : EC) (nt : Nat) : Prop :=
  ∃ (fn : Func) (c : Code) (own : List Nat), P.funcs[f]? = some fn ∧ fn.body = some c ∧ (fn.name == "runtime.NumGoroutine") = false ∧ resD P nt own c = some (d0, d1, ec) ∧ fn.results.toList.mapM (resRes P) = some [] ∧ fn.ntmps = nt

section
variable {P : Program} {γ : Nat → EV} {n N0 : Nat} {φ φ0 : Nat → Nat} {I I0 : Nat → Prop} {s : Slots} {H H0 : Heap} {a : Act} {w w0 : World}

/-- A list of operations, then another one. -/
theorem wpListIn_conv {r : Option Nat} {m : Nat} {ops : Array Oper} {Q Q' : Exit → Act → World → Prop} {l2 : List Oper} (hq : ∀ e a w, Q e a w → Exit.then (fun a w => wpListIn (FR r) m P ops Q' l2 a w) Q' e a w) :
    ∀ (l1 : List Oper) (a : Act) (w : World), wpListIn (FR r) m P ops Q l1 a w → wpListIn (FR r) m P ops Q' (l1 ++ l2) a w
  | [], a, w, h => hq .normal a w h
  | o :: l, a, w, h => by
    have ih := wpListIn_conv hq l
    simp only [wpListIn, List.cons_append] at h ⊢
    split
    · rename_i hw
      rw [if_pos hw] at h
      refine ⟨h.1, ?_⟩
      have h2 := h.2
      generalize (o.semAt (FR r).round a.eval).run P w = res at h2 ⊢
      have out : LetsOut Q → LetsOut Q' := fun ⟨a, w, h⟩ => ⟨a, w, hq .outgrown a w h⟩
      cases res with
      | ok x w' =>
        cases x <;> simp only [Oper.uponIn] at h2 ⊢ <;> first
          | exact ih _ _ h2
          | exact ⟨h2.1, h2.2.mono fun e w'' he => by cases e <;> first | exact ih _ _ he | exact hq _ _ _ he | exact out he⟩
          | exact ⟨h2.1, h2.2.mono fun v w'' he => ih _ _ he⟩
          | exact h2.elim
      | halt x w' => cases x <;> simp only [Oper.uponIn] at h2 ⊢ <;> first | exact hq _ _ _ h2 | exact h2.elim
    · rename_i hw
      rw [if_neg hw] at h
      exact ⟨h.1, ih _ _ h.2⟩

variable {call : FuncId → List EV → Heap → Res}

/-- A frame with one deferred call. -/
def PostE (P : Program) (γ : Nat → EV) (n N0 : Nat) (φ : Nat → Nat) (I : Nat → Prop) (H : Heap) (w : World) (r : Xsh × Option (FuncId × List EV)) (e : Exit) (a' : Act) (w' : World) : Prop :=
  match r.2 with
  | none => Post γ n ⟨N0, [], true⟩ φ I H w (Qis r.1) e a' w'
  | some (g, as) => ∃ (dv : Deferred) (vs : Array Value), (∃ fv cap, dv.target = .fn fv cap) ∧ (Callable P g → ∀ w, (invoke dv.target dv.args).run P w = .ok (.enter g vs) w) ∧
      ∃ φ' I' s' H' x, Evo φ I H w φ' I' H' w' ∧ Rel γ n ⟨N0, [dv], true⟩ φ' I' s' H' a' w' ∧ XR φ' H'.length I' w' x e ∧ Qis r.1 x s' H' ∧ RCs φ' H'.length I' w' as vs.toList

theorem PostE.trans {r : Xsh × Option (FuncId × List EV)} {e : Exit} {a' : Act} {w' : World} (h : Evo φ0 I0 H0 w0 φ I H w) (g : PostE P γ n N0 φ I H w r e a' w') : PostE P γ n N0 φ0 I0 H0 w0 r e a' w' := by
  unfold PostE at g ⊢
  split at g
  · exact g.trans h
  · obtain ⟨dv, vs, g1, g2, φ', I', s', H', x, g3, g4, g5, g6, g7⟩ := g
    exact ⟨dv, vs, g1, g2, φ', I', s', H', x, h.trans g3, g4, g5, g6, g7⟩

theorem rcs_parts {f : Fn} {first cap args : List EV} {vf vc : Array Value} {va : Array Value} (h : RV φ H.length I w (.func f first cap) (.func f vf vc)) (ha : RCs φ H.length I w args va.toList) :
    RCs φ H.length I w (first ++ args ++ cap) (vf ++ va ++ vc).toList := by
  cases h with
  | func _ _ _ _ _ l1 l2 l3 l4 =>
  have o1 := ha.1
  refine ⟨by simp [l1, l2, o1], fun k x v hx hv => ?_⟩
  simp only [Array.toList_append] at hv
  by_cases k1 : k < first.length
  · rw [List.append_assoc, List.getElem?_append_left k1] at hx
    rw [List.append_assoc, List.getElem?_append_left (by simp; omega)] at hv
    exact l3 k x v hx (by simpa using hv)
  · rw [List.append_assoc, List.getElem?_append_right (by omega)] at hx
    rw [List.append_assoc, List.getElem?_append_right (by simp; omega)] at hv
    have e1 : vf.toList.length = first.length := by simp [l1]
    rw [e1] at hv
    by_cases k2 : k - first.length < args.length
    · rw [List.getElem?_append_left k2] at hx
      rw [List.getElem?_append_left (by omega)] at hv
      exact ha.2 _ x v hx hv
    · rw [List.getElem?_append_right (by omega)] at hx
      rw [List.getElem?_append_right (by omega)] at hv
      rw [← o1] at hv
      exact l4 _ x v hx (by simpa using hv)

theorem efF_sound (hcall : CallsOk P γ call) {own : List Nat} : ∀ (c : Code) (ef : EF), resF P n own c = some ef → ∀ (k : Nat) (r : Xsh × Option (FuncId × List EV)) (φ : Nat → Nat) (I : Nat → Prop) (s : Slots) (H : Heap) (a : Act) (w : World),
    Rel γ n ⟨N0, [], true⟩ φ I s H a w → efF call γ k ef s H = some r → c.wpIn (FR none) 3 P (PostE P γ n N0 φ I H w r) a w := by
  have flat : ∀ (c : Code) (ec : EC), resC P n own c = some ec → ∀ (k : Nat) (r : Xsh × Option (FuncId × List EV)) (φ : Nat → Nat) (I : Nat → Prop) (s : Slots) (H : Heap) (a : Act) (w : World),
      Rel γ n ⟨N0, [], true⟩ φ I s H a w → efF call γ k (.code ec) s H = some r → c.wpIn (FR none) 3 P (PostE P γ n N0 φ I H w r) a w := by
    intro c ec hc k r φ I s H a w hR h
    simp only [efF, Option.map_eq_some_iff] at h
    obtain ⟨x, hx, rfl⟩ := h
    exact codeF_sound hcall c ec hc 3 (by omega) _ k x φ I s H a w hR hx
  intro c
  induction c with
  | seq x y ihx ihy =>
    intro ef he k r φ I s H a w hR h
    simp only [resF] at he
    split at he
    · rename_i l f as hd
      simp only [Option.map_eq_some_iff] at he
      obtain ⟨ec, hec, rfl⟩ := he
      cases x with
      | region id ops dr =>
        cases dr with
        | true => simp [resDfr] at hd
        | false =>
        simp only [resDfr] at hd
        split at hd
        case h_2 => simp at hd
        rename_i o rs hrev
        split at hd
        case h_2 => simp at hd
        rename_i fo ao ats hop hguard hdst
        split at hd
        case h_2 => simp at hd
        rename_i l' f' as' hl hf has
        simp only [Option.some.injEq, Prod.mk.injEq] at hd
        obtain ⟨rfl, rfl, rfl⟩ := hd
        have hops : ops.toList = rs.reverse ++ [o] := by
          have := congrArg List.reverse hrev
          simpa using this
        simp only [efF] at h
        refine wpIn_seq (wpIn_region_list ?_)
        rw [hops]
        cases hx : opsF call γ l' s H with
        | none => rw [hx] at h; simp at h
        | some q =>
        have hw := ops_sound (Q := Qis q) rs.reverse l' hl φ I s H a w (.refl φ I H w) hR (opsF_wops hcall _ _ _ _ hx)
        have hw2 := listIn (r := none) (m := 3) Post.noOut _ (res_noDefer hl) _ _ hw
        refine wpListIn_conv ?_ _ _ _ hw2
        intro e a1 w1 hp
        rw [hx] at h
        obtain ⟨x, s1, H1⟩ := q
        obtain ⟨φ1, I1, s2, H2, x2, g1, g2, g3, g4⟩ := hp
        unfold Qis at g4
        simp only [Prod.mk.injEq] at g4
        obtain ⟨rfl, rfl, rfl⟩ := g4
        have pass : x ≠ .normal → PostE P γ n N0 φ I H w r e a1 w1 := by
          intro hne
          have hr : r = ((x, s1, H1), none) := by
            cases x <;> first | exact absurd rfl hne | exact (Option.some.inj h).symm
          subst hr
          exact ⟨φ1, I1, s1, H1, x, g1, g2, g3, rfl⟩
        cases g3 with
        | normal =>
          simp only at h
          split at h
          case h_2 => simp at h
          rename_i g first cap hfe
          simp only [Option.map_eq_some_iff] at h
          obtain ⟨z, hz, rfl⟩ := h
          have rf := rv_opd g2 hf
          rw [hfe] at rf
          generalize hva : a1.eval fo = vf at rf
          obtain ⟨vff, vfc, rfl⟩ : ∃ vff vfc, vf = .func (.func g) vff vfc := by cases rf; exact ⟨_, _, rfl⟩
          have hao := opds_sound g2 has
          have hargs : RCs φ1 H1.length I1 w1 (as'.map (ev γ s1)) (ao.map a1.eval).toList := ⟨by simpa using hao.1, fun k x v hx hv => hao.2 k x v hx (by simpa using hv)⟩
          show wpListIn (FR none) 3 P ops _ [o] a1 w1
          have hex : (execOp a1.eval o).run P w1 = .ok (.defer { target := .fn (.func g) vfc, args := vff ++ ao.map a1.eval }) w1 := by
            unfold execOp
            rw [hop]
            simp [resolve, hva, Deferred.ofValue]
          have hwant : Region.wanted o (yielded ops a1.tmps) = true := by simp [Region.wanted, hguard]
          simp only [wpListIn, hwant, if_true]
          refine ⟨fun _ _ => trivial, ?_⟩
          have hsem : o.semAt (FR none).round a1.eval = execOp a1.eval o := Oper.semAt_none ..
          rw [hsem, hex, Oper.uponIn_defer, hdst]
          have hR1 : Rel γ n ⟨N0, [{ target := .fn (.func g) vfc, args := vff ++ ao.map a1.eval }], true⟩ φ1 I1 s1 H1 { a1 with defers := { target := .fn (.func g) vfc, args := vff ++ ao.map a1.eval } :: a1.defers } w1 := by
            obtain ⟨k0, Ds, k1, k2, k3⟩ := g2.defers
            have hDs : Ds = [] := by
              cases Ds with
              | nil => rfl
              | cons D Ds => exact absurd (k3 D (by simp)).1.2 (by simp)
            subst hDs
            refine ⟨g2.sz, g2.slots, g2.heap, k0, [], ?_, List.nodup_nil, by simp⟩
            simp [k1]
          have hcs := codeF_sound hcall y ec hec 3 (by omega) _ k z φ1 I1 s1 H1 _ w1 hR1 hz
          refine wpIn_mono hcs fun e2 a2 w2 hp2 => ?_
          obtain ⟨φ2, I2, s3, H3, x3, j1, j2, j3, j4⟩ := hp2
          refine ⟨_, vff ++ ao.map a1.eval ++ vfc, ⟨_, _, rfl⟩, fun hcb w => ?_, φ2, I2, s3, H3, x3, g1.trans j1, j2, j3, j4, ?_⟩
          · simp [invoke, callFunc_run hcb]
          · have h1 := rcs_parts rf hargs
            exact ⟨h1.1, fun k x v hx hv => j1.rv g2.heap (h1.2 k x v hx hv)⟩
        | exit id' => exact pass (by simp)
        | goto l' => exact pass (by simp)
        | ret => exact pass (by simp)
        | panic v vv hv => exact pass (by simp)
      | _ => simp [resDfr] at hd
    · split at he
      case h_2 => simp at he
      rename_i ex ey hx hy
      simp only [Option.some.injEq] at he; subst he
      simp only [efF] at h
      cases hq : codeF call γ k ex s H with
      | none => rw [hq] at h; simp at h
      | some q =>
      rw [hq] at h
      refine wpIn_seq (wpIn_mono (codeF_sound hcall x ex hx 3 (by omega) _ k q φ I s H a w hR hq) fun e a1 w1 hp => ?_)
      obtain ⟨x, s1, H1⟩ := q
      obtain ⟨φ1, I1, s2, H2, x2, g1, g2, g3, g4⟩ := hp
      unfold Qis at g4
      simp only [Prod.mk.injEq] at g4
      obtain ⟨rfl, rfl, rfl⟩ := g4
      have pass : x ≠ .normal → PostE P γ n N0 φ I H w r e a1 w1 := by
        intro hne
        have hr : r = ((x, s1, H1), none) := by
          cases x <;> first | exact absurd rfl hne | exact (Option.some.inj h).symm
        subst hr
        exact ⟨φ1, I1, s1, H1, x, g1, g2, g3, rfl⟩
      cases g3 with
      | normal =>
        show y.wpIn (FR none) 3 P _ a1 w1
        exact wpIn_mono (ihy ey hy k r φ1 I1 s1 H1 a1 w1 g2 h) fun e a2 w2 hp => hp.trans g1
      | exit id' => exact pass (by simp)
      | goto l' => exact pass (by simp)
      | ret => exact pass (by simp)
      | panic v vv hv => exact pass (by simp)
  | _ =>
    intro ef he k r φ I s H a w hR h
    simp only [resF, Option.map_eq_some_iff] at he
    obtain ⟨ec, hec, rfl⟩ := he
    exact flat _ ec hec k r φ I s H a w hR h
end
end Abs
