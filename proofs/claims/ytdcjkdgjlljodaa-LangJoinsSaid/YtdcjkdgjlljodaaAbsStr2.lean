/- A part. -/
import Derived.Test.YtdcjkdgjlljodaaAbsTree
import Derived.SizedLaws
set_option linter.all false
namespace Abs
open Go Go.ChangeShapes Go.WideShapes Go.RowKit
theorem dn3 {H : Type} {enc : TypeId × Value → H} {P : Program} {W : World} {held : Bool} {v : Value} {d : DataW H} {ps : List MemPlace} {r : Reach} {b : Nat} {t s : TypeId} {ts : List TypeId} {ds : List (DataW H)}
  (hsz : (DataW.weightsEach P ts ds).all (· ≤ reachBytes) = true) {j : Nat} (ht : ts[j]? = some t) (hd : ds[j]? = some d) (hu : P.underlying t = some (.array 2 s)) (hs : P.underlying s = some .string) (hc : P.cellsOf s = 1) (hct : P.cellsOf t = 2) (hv : Value.okWide P W r b t v)
  (h : DataW.Trod enc P W 0 (fun _ => true) held t v d ps) : ∃ x y : List UInt8, x.length ≤ reachBytes ∧ y.length ≤ reachBytes ∧ RV id 0 (oldI W) W (.agg [.str x, .str y]) v := by
 obtain ⟨fuel, h⟩ := h
 obtain ⟨cs, rfl⟩ := ce5 hv (by simp [aggT, hu, aggD])
 obtain ⟨xs, m, rfl, hcs, hl, hxl, hxs⟩ := DataW.trod_array hu h
 obtain ⟨x0, x1, rfl⟩ : ∃ x0 x1, xs = [x0, x1] := by
  match xs, hxl with
  | [x0, x1], _ => exact ⟨x0, x1, rfl⟩
 have h0 := hxs 0 (by omega)
 have h1 := hxs 1 (by omega)
 simp only [hc, Nat.zero_mul, Nat.one_mul, List.drop_zero, List.getElem?_cons_zero, List.getElem?_cons_succ] at h0 h1
 obtain ⟨s0, c0, e0, l0⟩ := DataW.trod_string hs h0
 obtain ⟨s1, c1, e1, l1⟩ := DataW.trod_string hs h1
 simp only [Prod.mk.injEq] at hcs
 obtain ⟨rfl, rfl⟩ := hcs
 subst e0 e1
 have hw : ∀ n ∈ DataW.weights P t (DataW.agg ([(DataW.lit (H := H) (.string s0.data.toList), ([] : List MemPlace)), (DataW.lit (.string s1.data.toList), [])].map (·.1))), n ≤ reachBytes := fun n hn => by
  simpa using List.all_eq_true.1 hsz n (DataW.weights_mem_each ht hd n hn)
 simp only [List.map_cons, List.map_nil, DataW.weights, hu, DataW.weightsAll, List.append_nil, List.singleton_append, List.mem_cons, List.not_mem_nil, or_false] at hw
 refine ⟨s0.data.toList, s1.data.toList, hw _ (.inl rfl), hw _ (.inr rfl), ?_⟩
 rw [hct] at hl
 have hcl : (Value.agg cs).cells = cs := rfl
 rw [hcl] at c0 c1 hl
 obtain ⟨l⟩ := cs
 simp only at c0 c1 hl
 have hl2 : l = [.string s0, .string s1] := by
  match l, hl with
  | [a, b], _ =>
   simp only [List.take_succ_cons, List.take_zero, List.drop_succ_cons, List.drop_zero, List.cons.injEq, and_true] at c0 c1
   rw [c0, c1]
 subst hl2
 refine .agg _ _ (by simp) fun k x u hx hu => ?_
 match k with
 | 0 =>
  simp only [List.getElem?_cons_zero, Option.some.injEq] at hx
  simp at hu
  subst hx hu
  have : RV id 0 (oldI W) W (.str s0.data.toList) (.string ⟨s0.data.toList.toArray⟩) := .str _
  simpa only [Array.toArray_toList] using this
 | 1 =>
  simp only [List.getElem?_cons_zero, List.getElem?_cons_succ, Option.some.injEq] at hx
  simp at hu
  subst hx hu
  have : RV id 0 (oldI W) W (.str s1.data.toList) (.string ⟨s1.data.toList.toArray⟩) := .str _
  simpa only [Array.toArray_toList] using this
 | k + 2 => simp at hx
end Abs
