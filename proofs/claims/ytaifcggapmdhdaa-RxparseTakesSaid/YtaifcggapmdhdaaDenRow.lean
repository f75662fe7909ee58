/- A part. -/
import Derived.Test.YtaifcggapmdhdaaAbsRead
namespace Abs
open Go Go.ChangeShapes Go.WideShapes Go.RowKit
theorem start_rh {φ : Nat → Nat} (W : World) : RH (fun _ => .undef) φ (oldI W) [] W :=
 ⟨fun _ => .undef _, by simp, by simp, fun _ h => h, by simp, by simp⟩
theorem evo_below {φ φ' : Nat → Nat} {I I' : Nat → Prop} {H' : Heap} {W W' : World} (h : Evo φ I [] W φ' I' H' W') : Below W.heap.size W W' :=
 ⟨h.os, h.tape, h.out, h.size, fun k hk => h.keep k hk (by rintro ⟨b, x, hb, _⟩; simp at hb)⟩
structure Stays (W W' : World) : Prop where
 kept : W.keptBut W' (fun _ => False)
 froz : ∀ a, a.block < W.heap.size → W'.frozen? a = W.frozen? a
 size : W.heap.size ≤ W'.heap.size
theorem evo_stays {φ φ' : Nat → Nat} {I I' : Nat → Prop} {H' : Heap} {W W' : World} (h : Evo φ I [] W φ' I' H' W') : Stays W W' := by
 refine ⟨⟨h.os, h.out, fun i hi => ?_⟩, h.froz, h.size⟩
 rw [h.keep i hi (by rintro ⟨b, x, hb, _⟩; simp at hb)]
 cases W.heap[i]? with
 | none => rfl
 | some o => cases o <;> simp
theorem Stays.but {W W' : World} (h : Stays W W') (may : MemPlace → Prop) : W.keptBut W' may := World.keptBut_mono (fun _ hp => hp.elim) h.kept
theorem post_same {H : Type} {enc : TypeId × Value → H} {P : Program} {f : Func} {s : ChangeSpec} {apart fresh handsOn again : Bool} {W W' : World} {args : Array Value} {v : Value} {ds gs : List (DataW H)} {before pa pv : List MemPlace}
  (hW : DataW.Whole enc P f.params.toList s.vars apart W args.toList ds gs before)
  (hres : ∀ (b : Nat) (sp : Nat → Bool) (hd : Bool), DataW.TrodAll enc P W' b sp hd f.resultTypes.toList (v.resultList f.resultTypes.size) (s.fn H (ds ++ gs)).results [])
  (hargs : ∀ sp : Nat → Bool, (∀ p ∈ before, sp p.block = true) → DataW.TrodAll enc P W' 0 sp true f.params.toList args.toList (s.fn H (ds ++ gs)).args pa)
  (hvars : ∀ sp : Nat → Bool, (∀ p ∈ before, sp p.block = true) → DataW.TrodVars enc P W' sp s.vars (s.fn H (ds ++ gs)).vars pv)
  (hps : before = pa ++ pv) (hk : W.keptBut W' (· ∈ before)) (hfz : ∀ a, a.block < W.heap.size → W'.frozen? a = W.frozen? a)
  (hok : ∀ (j : Nat) (t : TypeId) (r : Value), f.resultTypes[j]? = some t → (v.resultList f.resultTypes.size)[j]? = some r → Value.okWide P W' .any 0 t r) :
  s.post enc P f apart fresh handsOn again W args v W' := by
 have hold : ∀ p ∈ before, (fun b => decide (b < W.heap.size)) p.block = true := fun p hp => by simpa using hW.lt p hp
 have hlt := hW.lt
 refine ⟨ds, gs, before, [], pa, pv, hW, hres _ _ _, hargs _ hold, hvars _ hold, World.keptBut_mono (fun p hp => ⟨hp, ?_⟩) hk, fun _ => ?_⟩
 ·rw [hps, List.mem_append] at hp
  exact Or.inr hp
 ·obtain ⟨_, _, _, _, _, hz, hn⟩ := hW
  refine ⟨hok, _, _, ([] ++ pa) ++ pv, ⟨[] ++ pa, pv, trodAll_append (hargs _ (fun _ _ => rfl)) (hres _ _ _), hvars _ (fun _ _ => rfl), rfl, ?_, ?_⟩, ?_⟩
  ·intro b off hp
   have hp' : MemPlace.cell b off ∈ before := by rw [hps]; simpa using hp
   rw [hfz _ (hlt _ hp')]
   exact hz b off hp'
  ·intro ha
   have := hn ha
   rw [hps] at this
   simpa using this
  ·intro p hp _
   rw [hps]
   simpa using hp
theorem calls_true {P : Program} {f : FuncId} {args : Array Value} {es : List EV} {W : World} (h : CallsA P (fun _ => .undef) f es [] fun er H' => er = .ret (.bool true) ∧ H' = [])
  (ha : RCs id 0 (oldI W) W es args.toList) : Calls P f args W fun e W' => e = .returned (.bool true) ∧ Stays W W' ∧ Below W.heap.size W W' := by
 refine (h.2 id (oldI W) W args (start_rh W) ha).mono fun e W' he => ?_
 obtain ⟨φ', I', H', er, h1, h2, h3, rfl, rfl⟩ := he
 cases h3 with
 | ret x v hv =>
  cases hv
  exact ⟨rfl, evo_stays h1, evo_below h1⟩
section
variable {P : Program} {D : Nat} {t e : TypeId} {k : IntKind}
theorem shape_str {es : List EV} (hu : P.underlying t = some .string) (h : Shape P (D + 1) t es) : ∃ s : List UInt8, s.length ≤ maxLen ∧ packT P t es = .str s := by
 unfold Shape at h
 rw [hu] at h
 obtain ⟨s, rfl, hl⟩ := h
 exact ⟨s, hl, by simp [packT, aggT, hu, aggD]⟩
theorem okWide_agg {W : World} {r : Reach} {b : Nat} {v : Value} (h : Value.okWide P W r b t v) (ha : aggT P t = true) : ∃ cs, v = .agg cs := by
 unfold Value.okWide at h
 unfold aggT at ha
 cases hu : P.underlying t with
 | none => rw [hu] at ha; simp at ha
 | some d =>
  rw [hu] at h ha
  cases d <;> simp [aggD] at ha <;> exact ⟨h.choose, h.choose_spec.1⟩
theorem okWide_one {W : World} {r : Reach} {b : Nat} {v : Value} (h : Value.okWide P W r b t v) (ha : aggT P t = false) : v.cells = #[v] := by
 cases v with
 | agg cs =>
  exfalso
  unfold Value.okWide at h
  unfold aggT at ha
  cases hu : P.underlying t with
  | none => rw [hu] at h; simp [Cell.okWide, Cell.ok, hu] at h
  | some d =>
   rw [hu] at h ha
   cases d <;> simp [aggD] at ha <;> simp [Cell.okWide, Cell.ok, hu] at h
 | _ => rfl
theorem read_arg {H : Type} {enc : TypeId × Value → H} {W : World} {held : Bool} {v : Value} {d : DataW H} {ps : List MemPlace} {r : Reach} {b : Nat} (hp : plainT P D t = true) (hv : Value.okWide P W r b t v)
  (h : DataW.Trod enc P W 0 (fun _ => true) held t v d ps) : ∃ es, Shape P D t es ∧ RV id 0 (oldI W) W (packT P t es) v := by
 obtain ⟨fuel, h⟩ := h
 obtain ⟨_, es, h1, h2⟩ := read_rv (φ := id) (N := 0) (fun _ => rfl) D t fuel _ _ hp h
 refine ⟨es, h2, ?_⟩
 unfold packT
 by_cases ha : aggT P t = true
 ·rw [if_pos ha]
  obtain ⟨cs, rfl⟩ := okWide_agg hv ha
  exact .agg es cs (by simpa [Value.cells] using h1.1) fun k x u hx hu => h1.2 k x u hx (by simpa [Value.cells] using hu)
 ·have ha' : aggT P t = false := by simpa using ha
  rw [if_neg ha]
  obtain ⟨x, rfl, _⟩ := shape_one h2 ha'
  rw [okWide_one hv ha'] at h1
  exact h1.2 0 x v rfl rfl
end
end Abs
