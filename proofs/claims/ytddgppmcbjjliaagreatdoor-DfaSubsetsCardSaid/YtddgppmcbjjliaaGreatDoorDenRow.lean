/- A part. -/
import Derived.Test.YtddgppmcbjjliaaGreatDoorAbsRead
namespace Abs
open Go Go.ChangeShapes Go.WideShapes Go.RowKit
theorem eh4 {φ φ' : Nat → Nat} {I I' : Nat → Prop} {H' : Heap} {W W' : World} (h : Evo φ I [] W φ' I' H' W') : Below W.heap.size W W' :=
 ⟨h.os, h.tape, h.out, h.size, fun k hk => h.keep k hk (by rintro ⟨b, x, hb, _⟩; simp at hb)⟩
structure Stays (W W' : World) : Prop where
 kept : W.keptBut W' (fun _ => False)
 froz : ∀ a, a.block < W.heap.size → W'.frozen? a = W.frozen? a
 size : W.heap.size ≤ W'.heap.size
theorem eh3 {φ φ' : Nat → Nat} {I I' : Nat → Prop} {H' : Heap} {W W' : World} (h : Evo φ I [] W φ' I' H' W') : Stays W W' := by
 refine ⟨⟨h.os, h.out, fun i hi => ?_⟩, h.froz, h.size⟩
 rw [h.keep i hi (by rintro ⟨b, x, hb, _⟩; simp at hb)]
 cases W.heap[i]? with
 | none => rfl
 | some o => cases o <;> simp
theorem Stays.but {W W' : World} (h : Stays W W') (may : MemPlace → Prop) : W.keptBut W' may := World.keptBut_mono (fun _ hp => hp.elim) h.kept
theorem eb2 {H : Type} {enc : TypeId × Value → H} {P : Program} {f : Func} {s : ChangeSpec} {em3 fresh handsOn cs6 : Bool} {W W' : World} {args : Array Value} {v : Value} {ds gs : List (DataW H)} {before pa pv : List MemPlace}
  (hW : DataW.Whole enc P f.params.toList s.vars em3 W args.toList ds gs before)
  (hres : ∀ (b : Nat) (sp : Nat → Bool) (hd : Bool), DataW.TrodAll enc P W' b sp hd f.resultTypes.toList (v.resultList f.resultTypes.size) (s.fn H (ds ++ gs)).results [])
  (hargs : ∀ sp : Nat → Bool, (∀ p ∈ before, sp p.block = true) → DataW.TrodAll enc P W' 0 sp true f.params.toList args.toList (s.fn H (ds ++ gs)).args pa)
  (hvars : ∀ sp : Nat → Bool, (∀ p ∈ before, sp p.block = true) → DataW.TrodVars enc P W' sp s.vars (s.fn H (ds ++ gs)).vars pv)
  (hps : before = pa ++ pv) (hk : W.keptBut W' (· ∈ before)) (hfz : ∀ a, a.block < W.heap.size → W'.frozen? a = W.frozen? a)
  (hok : ∀ (j : Nat) (t : TypeId) (r : Value), f.resultTypes[j]? = some t → (v.resultList f.resultTypes.size)[j]? = some r → Value.okWide P W' .any 0 t r) :
  s.post enc P f em3 fresh handsOn cs6 W args v W' := by
 have hold : ∀ p ∈ before, (fun b => decide (b < W.heap.size)) p.block = true := fun p hp => by simpa using hW.lt p hp
 have hlt := hW.lt
 refine ⟨ds, gs, before, [], pa, pv, hW, hres _ _ _, hargs _ hold, hvars _ hold, World.keptBut_mono (fun p hp => ⟨hp, ?_⟩) hk, fun _ => ?_⟩
 ·rw [hps, List.mem_append] at hp
  exact Or.inr hp
 ·obtain ⟨_, _, _, _, _, hz, hn⟩ := hW
  refine ⟨hok, _, _, ([] ++ pa) ++ pv, ⟨[] ++ pa, pv, trodAll_append (hargs _ (fun _ _ => rfl)) (hres _ _ _), hvars _ (fun _ _ => rfl), rfl, ?_, ?_⟩, ?_⟩
  ·intro b off hp
   have hp' : MemPlace.cell b off ∈ before := by rw [hps]; simpa using hp
   rw [hfz _ (hlt _ hp')]
   exact hz b off hp'
  ·intro ha
   have := hn ha
   rw [hps] at this
   simpa using this
  ·intro p hp _
   rw [hps]
   simpa using hp
theorem dh6 {P : Program} {γ : Nat → EV} {f : FuncId} {args : Array Value} {es : List EV} {W : World} (h : CallsA P γ f es [] fun er H' => er = .ret (.bool true) ∧ H' = [])
  (hs : RH γ id (oldI W) [] W) (ha : RCs id 0 (oldI W) W es args.toList) : Calls P f args W fun e W' => e = .returned (.bool true) ∧ Stays W W' ∧ Below W.heap.size W W' := by
 refine (h.2 id (oldI W) W args hs ha).mono fun e W' he => ?_
 obtain ⟨φ', I', H', er, h1, h2, h3, rfl, rfl⟩ := he
 cases h3 with
 | ret x v hv =>
  cases hv
  exact ⟨rfl, eh3 h1, eh4 h1⟩
theorem ds6 {P : Program} {n : String} {W : World} {ps : List MemPlace} {d : DataW Unit} {g m : Nat} {t e : TypeId} {k : IntKind} {ns : List Int} (hlv : DataW.LaidVars P W [(n, d)] ps) (hg : P.globalNamed n = some g) (ht : (P.globals[g]?).map (·.type) = some t)
  (hu : P.underlying t = some (.array m e)) (he : P.underlying e = some (.int k)) (hc : P.cellsOf e = 1) (hct : P.cellsOf t = m) (hd : d = .agg (ns.map fun z => .lit (.int k z))) (hm : ns.length = m) :
  ∃ c T fr, W.heap[g]? = some (.cells c T fr) ∧ c.size = m ∧ ∀ i, i < m → c[i]? = (ns[i]?).map (Value.int k) := by
 obtain ⟨g0, t0, cs, f0, p0, q0, hg0, ht0, hv0, hd0, _, _⟩ := hlv
 obtain rfl := Option.some.inj (hg.symm.trans hg0)
 obtain rfl := Option.some.inj (ht.symm.trans ht0)
 obtain ⟨xs, f1, rfl, hx, hlen, hn, hel⟩ := DataW.trod_array hu hd0
 simp only [World.var?, hg, Option.bind_some] at hv0
 split at hv0
 ·rename_i c T fr hheap
  simp only [Option.some.injEq] at hv0
  subst hv0
  refine ⟨c, T, fr, hheap, by rw [← hct, ← hlen]; simp, fun i hi => ?_⟩
  have h1 := hel i hi
  rw [hc, Nat.mul_one] at h1
  have hxi : i < xs.length := by omega
  rw [List.getElem?_eq_getElem hxi] at h1
  obtain ⟨z, e1, e2, _⟩ := DataW.trod_int he h1
  have h2 : (xs.map (·.1))[i]? = some (.lit (.int k z)) := by
   rw [List.getElem?_map, List.getElem?_eq_getElem hxi, e2]
   rfl
  have h3 : xs.map (·.1) = ns.map fun z => .lit (.int k z) := by
   rw [hd] at hx
   simp only [Prod.mk.injEq, DataW.agg.injEq] at hx
   exact hx.1.symm
  rw [h3, List.getElem?_map] at h2
  have hni : i < ns.length := by omega
  rw [List.getElem?_eq_getElem hni] at h2 ⊢
  simp only [Option.map_some, Option.some.injEq, DataW.lit.injEq, Lit.int.injEq, true_and] at h2
  rw [Option.map_some, h2]
  have h4 : ((c.toList.drop i).take 1)[0]? = some (Value.int k z) := by rw [e1]; rfl
  rw [List.getElem?_take_of_lt (by omega), List.getElem?_drop, Nat.add_zero] at h4
  simpa using h4
 ·simp at hv0
section
variable {P : Program} {D : Nat} {t e : TypeId} {k : IntKind}
theorem do8 {n B : Nat} {es : List EV} (hu : P.underlying t = some (.array n e)) (he : P.underlying e = some (.int k)) (hk : ∀ m : Int, (Lit.int k m).wf = true → 0 ≤ m ∧ m < B) (hB : 0 < B) (h : ao7 P (D + 2) t es) :
  ∃ w : Nat → Nat, es = tab n (fun i => .int k ((w i : Nat) : Int)) ∧ ∀ i, w i < B := by
 unfold ao7 at h
 rw [hu] at h
 obtain ⟨l, hl, rfl, hc⟩ := h
 have hc' : ∀ c ∈ l, ∃ m : Nat, c = [.int k ((m : Nat) : Int)] ∧ m < B := by
  intro c hm
  have h1 := (hc c hm).1
  unfold ao7 at h1
  rw [he] at h1
  obtain ⟨m, rfl, hw⟩ := h1
  have h2 := hk m hw
  refine ⟨m.toNat, ?_, by omega⟩
  rw [Int.toNat_of_nonneg h2.1]
 clear hc hu
 induction l generalizing n with
 | nil => simp at hl; subst hl; exact ⟨fun _ => 0, by simp [tab], fun _ => hB⟩
 | cons c l ih =>
  obtain ⟨w, hw, hb⟩ := ih (n := n - 1) (by simp at hl; omega) (fun c hm => hc' c (by simp [hm]))
  obtain ⟨m, rfl, hm⟩ := hc' _ (List.mem_cons_self)
  refine ⟨fun i => match i with | 0 => m | i + 1 => w i, ?_, fun i => by cases i <;> simp [hm, hb]⟩
  rw [List.flatten_cons, hw]
  have hn : n = (n - 1) + 1 := by simp at hl; omega
  rw [hn]
  simp only [tab, List.range_succ_eq_map, List.map_cons, List.map_map, Nat.add_sub_cancel, List.singleton_append]
  rfl
theorem fg9 (m : Int) (h : (Lit.int .u64 m).wf = true) : 0 ≤ m ∧ m < (18446744073709551616 : Nat) := by
 simp [Lit.wf, IntKind.min, IntKind.max, IntKind.signed, IntKind.bits] at h; omega
theorem cu7 {es : List EV} (hu : P.underlying t = some (.int .i64)) (h : ao7 P (D + 1) t es) : ∃ n : Int, -9223372036854775808 ≤ n ∧ n ≤ 9223372036854775807 ∧ at9 P t es = .int .i64 n := by
 unfold ao7 at h
 rw [hu] at h
 obtain ⟨n, rfl, hw⟩ := h
 refine ⟨n, ?_, ?_, by simp [at9, aggT, hu, aggD]⟩ <;> (simp [Lit.wf, IntKind.min, IntKind.max, IntKind.signed, IntKind.bits] at hw; omega)
theorem dr8 {W : World} {r : Reach} {b : Nat} {v : Value} (h : Value.okWide P W r b t v) (ha : aggT P t = true) : ∃ cs, v = .agg cs := by
 unfold Value.okWide at h
 unfold aggT at ha
 cases hu : P.underlying t with
 | none => rw [hu] at ha; simp at ha
 | some d =>
  rw [hu] at h ha
  cases d <;> simp [aggD] at ha <;> exact ⟨h.choose, h.choose_spec.1⟩
theorem dr7 {W : World} {r : Reach} {b : Nat} {v : Value} (h : Value.okWide P W r b t v) (ha : aggT P t = false) : v.cells = #[v] := by
 cases v with
 | agg cs =>
  exfalso
  unfold Value.okWide at h
  unfold aggT at ha
  cases hu : P.underlying t with
  | none => rw [hu] at h; simp [Cell.okWide, Cell.ok, hu] at h
  | some d =>
   rw [hu] at h ha
   cases d <;> simp [aggD] at ha <;> simp [Cell.okWide, Cell.ok, hu] at h
 | _ => rfl
theorem eq7 {H : Type} {enc : TypeId × Value → H} {W : World} {held : Bool} {v : Value} {d : DataW H} {ps : List MemPlace} {r : Reach} {b : Nat} (hp : cg2 P D t = true) (hv : Value.okWide P W r b t v)
  (h : DataW.Trod enc P W 0 (fun _ => true) held t v d ps) : ∃ es, ao7 P D t es ∧ RV id 0 (oldI W) W (at9 P t es) v := by
 obtain ⟨fuel, h⟩ := h
 obtain ⟨_, es, h1, h2⟩ := ea6 (φ := id) (N := 0) (fun _ => rfl) D t fuel _ _ hp h
 refine ⟨es, h2, ?_⟩
 unfold at9
 by_cases ha : aggT P t = true
 ·rw [if_pos ha]
  obtain ⟨cs, rfl⟩ := dr8 hv ha
  exact .agg es cs (by simpa [Value.cells] using h1.1) fun k x u hx hu => h1.2 k x u hx (by simpa [Value.cells] using hu)
 ·have ha' : aggT P t = false := by simpa using ha
  rw [if_neg ha]
  obtain ⟨x, rfl, _⟩ := cu6 h2 ha'
  rw [dr7 hv ha'] at h1
  exact h1.2 0 x v rfl rfl
end
end Abs
