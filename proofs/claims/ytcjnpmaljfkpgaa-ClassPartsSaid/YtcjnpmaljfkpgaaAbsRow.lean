/- From what is read to abstract values; from contracts to what a row asks. -/
import Derived.Test.YtcjnpmaljfkpgaaAbsRead
import Derived.Test.YtcjnpmaljfkpgaaClassG
namespace Abs
open Go Go.ChangeShapes Go.WideShapes Go.RowKit

theorem start_rh {φ : Nat → Nat} (W : World) : RH (fun _ => .undef) φ (oldI W) [] W :=
  ⟨fun _ => .undef _, by simp, by simp, fun _ h => h, by simp, by simp⟩

theorem evo_below {φ φ' : Nat → Nat} {I I' : Nat → Prop} {H' : Heap} {W W' : World} (h : Evo φ I [] W φ' I' H' W') : Below W.heap.size W W' :=
  ⟨h.os, h.tape, h.out, h.size, fun k hk => h.keep k hk (by rintro ⟨b, x, hb, _⟩; simp at hb)⟩

theorem evo_grown {φ φ' : Nat → Nat} {I I' : Nat → Prop} {H' : Heap} {W W' : World} (h : Evo φ I [] W φ' I' H' W') : Grown W W' := by
  refine ⟨⟨h.os, h.out, fun i hi => ?_⟩, h.froz, h.size⟩
  rw [h.keep i hi (by rintro ⟨b, x, hb, _⟩; simp at hb)]
  cases W.heap[i]? with
  | none => rfl
  | some o => cases o <;> simp

/-- A CALL OF A ROW THAT ANSWERS true. -/
theorem calls_true {P : Program} {f : FuncId} {args : Array Value} {es : List EV} {W : World} (h : CallsA P (fun _ => .undef) f es [] fun er H' => er = .ret (.bool true) ∧ H' = [])
    (ha : RCs id 0 (oldI W) W es args.toList) : Calls P f args W fun e W' => e = .returned (.bool true) ∧ Grown W W' ∧ Below W.heap.size W W' := by
  refine (h.2 id (oldI W) W args (start_rh W) ha).mono fun e W' he => ?_
  obtain ⟨φ', I', H', er, h1, h2, h3, rfl, rfl⟩ := he
  cases h3 with
  | ret x v hv =>
    cases hv
    exact ⟨rfl, evo_grown h1, evo_below h1⟩

section
variable {P : Program} {D : Nat} {t e : TypeId} {k : IntKind}

theorem shape_ints {n B : Nat} {es : List EV} (hu : P.underlying t = some (.array n e)) (he : P.underlying e = some (.int k)) (hk : ∀ m : Int, (Lit.int k m).wf = true → 0 ≤ m ∧ m < B) (hB : 0 < B) (h : Shape P (D + 2) t es) :
    ∃ w : Nat → Nat, es = tab n (fun i => .int k ((w i : Nat) : Int)) ∧ ∀ i, w i < B := by
  unfold Shape at h
  rw [hu] at h
  obtain ⟨l, hl, rfl, hc⟩ := h
  have hc' : ∀ c ∈ l, ∃ m : Nat, c = [.int k ((m : Nat) : Int)] ∧ m < B := by
    intro c hm
    have h1 := (hc c hm).1
    unfold Shape at h1
    rw [he] at h1
    obtain ⟨m, rfl, hw⟩ := h1
    have h2 := hk m hw
    refine ⟨m.toNat, ?_, by omega⟩
    rw [Int.toNat_of_nonneg h2.1]
  clear hc hu
  induction l generalizing n with
  | nil => simp at hl; subst hl; exact ⟨fun _ => 0, by simp [tab], fun _ => hB⟩
  | cons c l ih =>
    obtain ⟨w, hw, hb⟩ := ih (n := n - 1) (by simp at hl; omega) (fun c hm => hc' c (by simp [hm]))
    obtain ⟨m, rfl, hm⟩ := hc' _ (List.mem_cons_self)
    refine ⟨fun i => match i with | 0 => m | i + 1 => w i, ?_, fun i => by cases i <;> simp [hm, hb]⟩
    rw [List.flatten_cons, hw]
    have hn : n = (n - 1) + 1 := by simp at hl; omega
    rw [hn]
    simp only [tab, List.range_succ_eq_map, List.map_cons, List.map_map, Nat.add_sub_cancel, List.singleton_append]
    rfl

theorem wf_u64 (m : Int) (h : (Lit.int .u64 m).wf = true) : 0 ≤ m ∧ m < (18446744073709551616 : Nat) := by
  simp [Lit.wf, IntKind.min, IntKind.max, IntKind.signed, IntKind.bits] at h; omega
theorem wf_u8 (m : Int) (h : (Lit.int .u8 m).wf = true) : 0 ≤ m ∧ m < (256 : Nat) := by
  simp [Lit.wf, IntKind.min, IntKind.max, IntKind.signed, IntKind.bits] at h; omega

theorem shape_set {es : List EV} (hu : P.underlying t = some (.array 4 e)) (he : P.underlying e = some (.int .u64)) (h : Shape P (D + 2) t es) : ∃ w, Words w ∧ packT P t es = setE w := by
  obtain ⟨w, rfl, hw⟩ := shape_ints hu he wf_u64 (by omega) h
  refine ⟨w, hw, ?_⟩
  simp [packT, aggT, hu, aggD, setE]

theorem all_sets : ∀ {l : List EV}, (∀ x ∈ l, ∃ w, Words w ∧ x = setE w) → ∃ xs : List (Nat → Nat), l = xs.map setE ∧ ∀ x ∈ xs, Words x
  | [], _ => ⟨[], rfl, by simp⟩
  | x :: l, h => by
    obtain ⟨xs, rfl, hx⟩ := all_sets (l := l) fun y hy => h y (by simp [hy])
    obtain ⟨w, hw, rfl⟩ := h x (by simp)
    exact ⟨w :: xs, rfl, by intro y hy; rcases List.mem_cons.1 hy with rfl | hy; exact hw; exact hx y hy⟩

/-- A slice of sets. -/
theorem shape_sets {s : TypeId} {es : List EV} (hs : P.underlying s = some (.slice t)) (hz : P.cellsOf t = 4) (hu : P.underlying t = some (.array 4 e)) (he : P.underlying e = some (.int .u64)) (h : Shape P (D + 3) s es) :
    ∃ (v : EV) (xs : List (Nat → Nat)), es = [v] ∧ SliceOf 4 v (xs.map setE) ∧ (∀ x ∈ xs, Words x) ∧ xs.length ≤ maxLen := by
  unfold Shape at h
  rw [hs] at h
  rcases h with rfl | ⟨l, rfl, hl, hx⟩
  · exact ⟨.nilsl, [], rfl, sliceOf_nil, by simp, by simp⟩
  · obtain ⟨xs, rfl, hw⟩ := all_sets (l := l) fun x hxm => by
      obtain ⟨cs, h1, rfl⟩ := hx x hxm
      exact shape_set hu he h1
    refine ⟨_, xs, rfl, ?_, hw, by simpa using hl⟩
    rw [hz]
    exact sliceOf_imm (okL_iff.2 fun x hx => by
      obtain ⟨w, _, rfl⟩ := List.mem_map.1 hx
      exact setE_ok)

/-- A partition. -/
theorem shape_classes {a : TypeId} {f0 f1 : Field} {es : List EV} (hu : P.underlying t = some (.struct #[f0, f1])) (h0 : P.underlying f0.type = some (.array 256 a)) (ha : P.underlying a = some (.int .u8)) (h1 : P.underlying f1.type = some (.int .i64))
    (h : Shape P (D + 3) t es) : ∃ (of : Nat → Nat) (n : Int), (∀ b, of b < 256) ∧ packT P t es = classesE of n := by
  unfold Shape at h
  rw [hu] at h
  obtain ⟨l, hl, rfl, hc⟩ := h
  match l, hl with
  | [c0, c1], _ =>
    have e0 := (hc 0 f0 c0 rfl rfl).1
    have e1 := (hc 1 f1 c1 rfl rfl).1
    obtain ⟨of, rfl, ho⟩ := shape_ints h0 ha wf_u8 (by omega) e0
    unfold Shape at e1
    rw [h1] at e1
    obtain ⟨n, rfl, _⟩ := e1
    refine ⟨of, n, ho, ?_⟩
    simp [packT, aggT, hu, aggD, classesE]

theorem okWide_agg {W : World} {r : Reach} {b : Nat} {v : Value} (h : Value.okWide P W r b t v) (ha : aggT P t = true) : ∃ cs, v = .agg cs := by
  unfold Value.okWide at h
  unfold aggT at ha
  cases hu : P.underlying t with
  | none => rw [hu] at ha; simp at ha
  | some d =>
    rw [hu] at h ha
    cases d <;> simp [aggD] at ha <;> exact ⟨h.choose, h.choose_spec.1⟩

theorem okWide_one {W : World} {r : Reach} {b : Nat} {v : Value} (h : Value.okWide P W r b t v) (ha : aggT P t = false) : v.cells = #[v] := by
  cases v with
  | agg cs =>
    exfalso
    unfold Value.okWide at h
    unfold aggT at ha
    cases hu : P.underlying t with
    | none => rw [hu] at h; simp [Cell.okWide, Cell.ok, hu] at h
    | some d =>
      rw [hu] at h ha
      cases d <;> simp [aggD] at ha <;> simp [Cell.okWide, Cell.ok, hu] at h
  | _ => rfl

/-- AN ARGUMENT, READ. -/
theorem read_arg {H : Type} {enc : TypeId × Value → H} {W : World} {held : Bool} {v : Value} {d : DataW H} {ps : List MemPlace} {r : Reach} {b : Nat} (hp : plainT P D t = true) (hv : Value.okWide P W r b t v)
    (h : DataW.Trod enc P W 0 (fun _ => true) held t v d ps) : ∃ es, Shape P D t es ∧ RV id 0 (oldI W) W (packT P t es) v := by
  obtain ⟨fuel, h⟩ := h
  obtain ⟨_, es, h1, h2⟩ := read_rv (φ := id) (N := 0) (fun _ => rfl) D t fuel _ _ hp h
  refine ⟨es, h2, ?_⟩
  unfold packT
  by_cases ha : aggT P t = true
  · rw [if_pos ha]
    obtain ⟨cs, rfl⟩ := okWide_agg hv ha
    exact .agg es cs (by simpa [Value.cells] using h1.1) fun k x u hx hu => h1.2 k x u hx (by simpa [Value.cells] using hu)
  · have ha' : aggT P t = false := by simpa using ha
    rw [if_neg ha]
    obtain ⟨x, rfl, _⟩ := shape_one h2 ha'
    rw [okWide_one hv ha'] at h1
    exact h1.2 0 x v rfl rfl

theorem rcs_two {W : World} {x y : EV} {u v : Value} (h : RV id 0 (oldI W) W x u) (g : RV id 0 (oldI W) W y v) : RCs id 0 (oldI W) W [x, y] [u, v] := (rcs_one h).app (rcs_one g)

end
end Abs
