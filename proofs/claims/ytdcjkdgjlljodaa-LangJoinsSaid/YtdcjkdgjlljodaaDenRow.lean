/- A part. -/
import Derived.Test.YtdcjkdgjlljodaaAbsRead
namespace Abs
open Go Go.ChangeShapes Go.WideShapes Go.RowKit
theorem ea6 {φ : Nat → Nat} (W : World) : RH (fun _ => .undef) φ (oldI W) [] W :=
 ⟨fun _ => .undef _, by simp, by simp, fun _ h => h, by simp, by simp⟩
theorem dt3 {φ φ' : Nat → Nat} {I I' : Nat → Prop} {H' : Heap} {W W' : World} (h : Evo φ I [] W φ' I' H' W') : Below W.heap.size W W' :=
 ⟨h.os, h.tape, h.out, h.size, fun k hk => h.keep k hk (by rintro ⟨b, x, hb, _⟩; simp at hb)⟩
structure Stays (W W' : World) : Prop where
 kept : W.keptBut W' (fun _ => False)
 froz : ∀ a, a.block < W.heap.size → W'.frozen? a = W.frozen? a
 size : W.heap.size ≤ W'.heap.size
theorem dt2 {φ φ' : Nat → Nat} {I I' : Nat → Prop} {H' : Heap} {W W' : World} (h : Evo φ I [] W φ' I' H' W') : Stays W W' := by
 refine ⟨⟨h.os, h.out, fun i hi => ?_⟩, h.froz, h.size⟩
 rw [h.keep i hi (by rintro ⟨b, x, hb, _⟩; simp at hb)]
 cases W.heap[i]? with
 | none => rfl
 | some o => cases o <;> simp
theorem Stays.but {W W' : World} (h : Stays W W') (may : MemPlace → Prop) : W.keptBut W' may := World.keptBut_mono (fun _ hp => hp.elim) h.kept
theorem do0 {H : Type} {enc : TypeId × Value → H} {P : Program} {f : Func} {s : ChangeSpec} {cj6 fresh handsOn cr6 : Bool} {W W' : World} {args : Array Value} {v : Value} {ds gs : List (DataW H)} {before pa pv : List MemPlace}
  (hW : DataW.Whole enc P f.params.toList s.vars cj6 W args.toList ds gs before)
  (hres : ∀ (b : Nat) (sp : Nat → Bool) (hd : Bool), DataW.TrodAll enc P W' b sp hd f.resultTypes.toList (v.resultList f.resultTypes.size) (s.fn H (ds ++ gs)).results [])
  (hargs : ∀ sp : Nat → Bool, (∀ p ∈ before, sp p.block = true) → DataW.TrodAll enc P W' 0 sp true f.params.toList args.toList (s.fn H (ds ++ gs)).args pa)
  (hvars : ∀ sp : Nat → Bool, (∀ p ∈ before, sp p.block = true) → DataW.TrodVars enc P W' sp s.vars (s.fn H (ds ++ gs)).vars pv)
  (hps : before = pa ++ pv) (hk : W.keptBut W' (· ∈ before)) (hfz : ∀ a, a.block < W.heap.size → W'.frozen? a = W.frozen? a)
  (hok : ∀ (j : Nat) (t : TypeId) (r : Value), f.resultTypes[j]? = some t → (v.resultList f.resultTypes.size)[j]? = some r → Value.okWide P W' .any 0 t r) :
  s.post enc P f cj6 fresh handsOn cr6 W args v W' := by
 have hold : ∀ p ∈ before, (fun b => decide (b < W.heap.size)) p.block = true := fun p hp => by simpa using hW.lt p hp
 have hlt := hW.lt
 refine ⟨ds, gs, before, [], pa, pv, hW, hres _ _ _, hargs _ hold, hvars _ hold, World.keptBut_mono (fun p hp => ⟨hp, ?_⟩) hk, fun _ => ?_⟩
 ·rw [hps, List.mem_append] at hp
  exact Or.inr hp
 ·obtain ⟨_, _, _, _, _, hz, hn⟩ := hW
  refine ⟨hok, _, _, ([] ++ pa) ++ pv, ⟨[] ++ pa, pv, trodAll_append (hargs _ (fun _ _ => rfl)) (hres _ _ _), hvars _ (fun _ _ => rfl), rfl, ?_, ?_⟩, ?_⟩
  ·intro b off hp
   have hp' : MemPlace.cell b off ∈ before := by rw [hps]; simpa using hp
   rw [hfz _ (hlt _ hp')]
   exact hz b off hp'
  ·intro ha
   have := hn ha
   rw [hps] at this
   simpa using this
  ·intro p hp _
   rw [hps]
   simpa using hp
theorem dj0 {P : Program} {f : FuncId} {args : Array Value} {es : List EV} {W : World} (h : CallsA P (fun _ => .undef) f es [] fun er H' => er = .ret (.bool true) ∧ H' = [])
  (ha : RCs id 0 (oldI W) W es args.toList) : Calls P f args W fun e W' => e = .returned (.bool true) ∧ Stays W W' ∧ Below W.heap.size W W' := by
 refine (h.2 id (oldI W) W args (ea6 W) ha).mono fun e W' he => ?_
 obtain ⟨φ', I', H', er, h1, h2, h3, rfl, rfl⟩ := he
 cases h3 with
 | ret x v hv =>
  cases hv
  exact ⟨rfl, dt2 h1, dt3 h1⟩
section
variable {P : Program} {D : Nat} {t e : TypeId} {k : IntKind}
theorem dd0 {n B : Nat} {es : List EV} (hu : P.underlying t = some (.array n e)) (he : P.underlying e = some (.int k)) (hk : ∀ m : Int, (Lit.int k m).wf = true → 0 ≤ m ∧ m < B) (hB : 0 < B) (h : ar7 P (D + 2) t es) :
  ∃ w : Nat → Nat, es = tab n (fun i => .int k ((w i : Nat) : Int)) ∧ ∀ i, w i < B := by
 unfold ar7 at h
 rw [hu] at h
 obtain ⟨l, hl, rfl, hc⟩ := h
 have hc' : ∀ c ∈ l, ∃ m : Nat, c = [.int k ((m : Nat) : Int)] ∧ m < B := by
  intro c hm
  have h1 := (hc c hm).1
  unfold ar7 at h1
  rw [he] at h1
  obtain ⟨m, rfl, hw⟩ := h1
  have h2 := hk m hw
  refine ⟨m.toNat, ?_, by omega⟩
  rw [Int.toNat_of_nonneg h2.1]
 clear hc hu
 induction l generalizing n with
 | nil => simp at hl; subst hl; exact ⟨fun _ => 0, by simp [tab], fun _ => hB⟩
 | cons c l ih =>
  obtain ⟨w, hw, hb⟩ := ih (n := n - 1) (by simp at hl; omega) (fun c hm => hc' c (by simp [hm]))
  obtain ⟨m, rfl, hm⟩ := hc' _ (List.mem_cons_self)
  refine ⟨fun i => match i with | 0 => m | i + 1 => w i, ?_, fun i => by cases i <;> simp [hm, hb]⟩
  rw [List.flatten_cons, hw]
  have hn : n = (n - 1) + 1 := by simp at hl; omega
  rw [hn]
  simp only [tab, List.range_succ_eq_map, List.map_cons, List.map_map, Nat.add_sub_cancel, List.singleton_append]
  rfl
theorem eq4 (m : Int) (h : (Lit.int .u64 m).wf = true) : 0 ≤ m ∧ m < (18446744073709551616 : Nat) := by
 simp [Lit.wf, IntKind.min, IntKind.max, IntKind.signed, IntKind.bits] at h; omega
theorem bx6 {es : List EV} (hu : P.underlying t = some (.int .i64)) (h : ar7 P (D + 1) t es) : ∃ n : Int, -9223372036854775808 ≤ n ∧ n ≤ 9223372036854775807 ∧ bc0 P t es = .int .i64 n := by
 unfold ar7 at h
 rw [hu] at h
 obtain ⟨n, rfl, hw⟩ := h
 refine ⟨n, ?_, ?_, by simp [bc0, aggT, hu, aggD]⟩ <;> (simp [Lit.wf, IntKind.min, IntKind.max, IntKind.signed, IntKind.bits] at hw; omega)
theorem ce5 {W : World} {r : Reach} {b : Nat} {v : Value} (h : Value.okWide P W r b t v) (ha : aggT P t = true) : ∃ cs, v = .agg cs := by
 unfold Value.okWide at h
 unfold aggT at ha
 cases hu : P.underlying t with
 | none => rw [hu] at ha; simp at ha
 | some d =>
  rw [hu] at h ha
  cases d <;> simp [aggD] at ha <;> exact ⟨h.choose, h.choose_spec.1⟩
theorem df7 {W : World} {r : Reach} {b : Nat} {v : Value} (h : Value.okWide P W r b t v) (ha : aggT P t = false) : v.cells = #[v] := by
 cases v with
 | agg cs =>
  exfalso
  unfold Value.okWide at h
  unfold aggT at ha
  cases hu : P.underlying t with
  | none => rw [hu] at h; simp [Cell.okWide, Cell.ok, hu] at h
  | some d =>
   rw [hu] at h ha
   cases d <;> simp [aggD] at ha <;> simp [Cell.okWide, Cell.ok, hu] at h
 | _ => rfl
theorem dn4 {W : World} {x y z : EV} {u v q : Value} (h : RV id 0 (oldI W) W x u) (g : RV id 0 (oldI W) W y v) (k : RV id 0 (oldI W) W z q) : RCs id 0 (oldI W) W [x, y, z] [u, v, q] := (bl0 h).app ((bl0 g).app (bl0 k))
end
end Abs
