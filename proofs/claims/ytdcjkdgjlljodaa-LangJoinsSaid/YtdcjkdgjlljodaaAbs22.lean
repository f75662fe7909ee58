/- A part. -/
import Derived.Test.YtdcjkdgjlljodaaAbs16
import Derived.RangeFuncFrom
import Derived.RangeFuncLeaves
import Derived.OrdersIn
import Derived.TacticsIn
set_option linter.all false
namespace Abs
open Go
def FR (r : Option Nat) : Fence := { Fence.wide with round := r }
section
variable {P : Program} {m : Nat} {r : Option Nat} {a : Act} {w : World}
theorem cy7 {p : Prop} : (FR r).depth.isSome = true → p := fun h => by simp [FR, Fence.wide] at h
theorem dj1 {f : FuncId} {args : Array Value} {R : Ending → World → Prop} (h : Calls P f args w R) : CallsIn (FR r) m P f args w R := by
 have := (callsIn_wide (n := m)).2 h
 exact this
theorem dm4 {row : String} {args : Array Value} {R : Value → World → Prop} (h : Rows P row args w R) : RowsIn (FR r) m P row args w R := by
 intro c cs _
 obtain ⟨v, w', h1, h2⟩ := h c cs
 have := stepsIn_wide.2 h2
 exact ⟨v, w', h1, this⟩
theorem opIn {o : Oper} {K : Act → World → Prop} {Q : Exit → Act → World → Prop} (hd : ∀ c, o.op ≠ .defer c) (h : o.wp P a w K Q) : o.wpIn (FR r) m P a w K Q := by
 refine ⟨fun _ _ => trivial, ?_⟩
 rw [Oper.semAt_eq _ _ _ hd]
 unfold Oper.wp at h
 generalize (execOp a.eval o).run P w = res at *
 cases res with
 | ok x w' =>
  cases x <;> simp only [Oper.upon, Oper.uponIn] at h ⊢ <;> first
   | exact h
   | exact ⟨cy7, dj1 h⟩
   | exact ⟨cy7, dm4 h⟩
   | exact h.elim
 | halt x w' => cases x <;> simp only [Oper.upon, Oper.uponIn] at h ⊢ <;> first | exact h | exact h.elim
theorem dq9 {ops : Array Oper} {Q : Exit → Act → World → Prop} (hq : ¬ LetsOut Q) : ∀ (l : List Oper), (∀ o ∈ l, ∀ c, o.op ≠ .defer c) → ∀ (a : Act) (w : World), wpList P ops Q l a w → wpListIn (FR r) m P ops Q l a w
 | [], _, a, w, h => h
 | o :: l, hd, a, w, h => by
  have ih := dq9 (ops := ops) hq l fun o ho => hd o (by simp [ho])
  simp only [wpList] at h
  simp only [wpListIn]
  split
  ·rename_i hw
   rw [if_pos hw] at h
   rcases h with h | h
   ·exact Oper.wpIn_mono (fun a w => ih a w) (opIn (hd o (by simp)) h)
   ·exact absurd h.2 hq
  ·rename_i hw
   rw [if_neg hw] at h
   exact ⟨fun _ _ => trivial, ih _ _ h⟩
theorem es3 {ops : Array Oper} {Q : Exit → Act → World → Prop} {i : Nat} {K : Act → World → Prop} (hq : ¬ LetsOut Q) (hd : ∀ o ∈ ops.toList, ∀ c, o.op ≠ .defer c) (h : wpOp P ops Q i K a w) : wpOpIn (FR r) m P ops Q i K a w := by
 unfold wpOp at h
 unfold wpOpIn
 cases ho : ops[i]? with
 | none => rw [ho] at h; exact h
 | some o =>
  rw [ho] at h
  simp only at h ⊢
  split
  ·rename_i hw
   rw [if_pos hw] at h
   rcases h with h | h
   ·exact opIn (hd o (by simpa using Array.mem_of_getElem? ho)) h
   ·exact absurd h.2 hq
  ·rename_i hw
   rw [if_neg hw] at h
   exact ⟨fun _ _ => trivial, h⟩
theorem dy1 {ops : Array Oper} {md : Region.Mode} {Q : Exit → Act → World → Prop} (hq : ¬ LetsOut Q) (hd : ∀ o ∈ ops.toList, ∀ c, o.op ≠ .defer c) : ∀ (fuel : Nat) (listed : Array Bool) (a : Act) (w : World),
  wpAny P md ops Q fuel listed a w → wpAnyIn (FR r) m P md ops Q fuel listed a w
 | 0, _, _, _, h => h
 | fuel + 1, listed, a, w, h => by
  refine ⟨h.1, fun i hi => ?_⟩
  exact wpOpIn_mono (fun a w => dy1 hq hd fuel _ a w) (es3 hq hd (h.2 i hi))
theorem bk1 {F : Fence} {Q : Exit → Act → World → Prop} {c : Code} (I : Nat → Act → World → Prop) (n₀ : Nat) (h₀ : I n₀ a w)
  (round : ∀ n a w, I n a w → c.wpIn F m P (Exit.then (fun a' w' => ∃ n', n' < n ∧ I n' a' w') Q) a w) : (Code.loop c).wpIn F m P Q a w := by
 refine wpIn_loop (fun a w => ∃ n, I n a w) (fun a w => leastOf (fun n => I n a w)) ⟨n₀, h₀⟩ ?_
 intro a w hI
 refine wpIn_mono (round _ a w (leastOf_spec hI).1) ?_
 intro e a' w' hq
 cases e with
 | normal =>
  obtain ⟨n', hlt, hI'⟩ := hq
  exact show (∃ n, I n a' w') ∧ leastOf (fun n => I n a' w') < leastOf (fun n => I n a w) from ⟨⟨n', hI'⟩, Nat.lt_of_le_of_lt ((leastOf_spec ⟨n', hI'⟩).2 n' hI') hlt⟩
 | _ => exact hq
end
theorem Post.noOut {γ : Nat → EV} {n : Nat} {nb : NB} {φ : Nat → Nat} {I : Nat → Prop} {H : Heap} {w : World} {Q : AX → aa2 → Heap → Prop} : ¬ LetsOut (Post γ n nb φ I H w Q) := by
 rintro ⟨a', w', φ', I', s', H', x, _, _, h, _⟩
 cases h
theorem ax2 {P : Program} {n : Nat} {own : List Nat} {ops : Array Oper} {l : List EOper} : ∀ {ls : List Oper}, ls.mapM (ai5 P n own ops) = some l → ∀ o ∈ ls, ∀ c, o.op ≠ .defer c := by
 intro ls h o ho c hc
 obtain ⟨h1, h2⟩ := ao1 h
 obtain ⟨i, hi⟩ := List.mem_iff_getElem?.1 ho
 have hlt := aa3 hi
 have := h2 i o (l[i]'(by omega)) hi (by simp [show i < l.length by omega])
 obtain ⟨⟨b, hb⟩, _⟩ := ah7 this
 rw [hc] at hb
 simp [ac7] at hb
section
variable {P : Program} {γ : Nat → EV} {n : Nat} {nb : NB} {φ : Nat → Nat} {I : Nat → Prop} {s : aa2} {H : Heap} {a : Act} {w : World}
theorem cj7 {ops : Array Oper} {Qc : Exit → Act → World → Prop} (hlt : ∀ i, i < ops.size → ∀ k ∈ (ae0 ops).getD i [], k < i) (St : (Nat → Bool) → Act → World → Prop)
  (hext : ∀ S T, (∀ i, i < ops.size → S i = T i) → ∀ a w, St S a w → St T a w)
  (step : ∀ S : Nat → Bool, (∀ i, i < ops.size → S i = true → ∀ k ∈ (ae0 ops).getD i [], S k = true) → ∀ i, i < ops.size → S i = false → (∀ k ∈ (ae0 ops).getD i [], S k = true) → ∀ a w, St S a w →
   wpOp P ops Qc i (fun a' w' => St (fun j => S j || j == i) a' w') a w)
  (fin : ∀ S : Nat → Bool, (∀ i, i < ops.size → S i = true) → ∀ a w, St S a w → Qc .normal a w) (h0 : St (fun _ => false) a w) :
  wpAny P .any ops Qc ops.size (Array.replicate ops.size false) a w := by
 have depsEq : ∀ i (hi : i < ops.size), (ae0 ops).getD i [] = (ops[i].after.toList.filter (Region.binds .any)).map (·.on) := fun i hi => by simp [ae0, hi]
 have main : ∀ (fuel : Nat) (listed : Array Bool) (a' : Act) (w' : World), listed.size = ops.size → ((List.range ops.size).filter fun i => !listed.getD i false).length = fuel →
   (∀ i, i < ops.size → listed.getD i false = true → ∀ k ∈ (ae0 ops).getD i [], listed.getD k false = true) → St (fun i => listed.getD i false) a' w' →
   wpAny P .any ops Qc fuel listed a' w' := by
  intro fuel
  induction fuel with
  | zero =>
   intro listed a' w' hlsz hcount hSc hS
   have hall : ∀ i, i < ops.size → listed.getD i false = true := by
    intro i hi
    cases hx : listed.getD i false with
    | true => rfl
    | false =>
     have : i ∈ (List.range ops.size).filter fun i => !listed.getD i false := List.mem_filter.2 ⟨List.mem_range.2 hi, by rw [hx]; rfl⟩
     rw [List.length_eq_zero_iff.1 hcount] at this
     simp at this
   refine ⟨?_, fin _ hall _ _ hS⟩
   unfold Region.ready
   rw [List.filter_eq_nil_iff]
   intro i hi
   have hi' : i < ops.size := List.mem_range.1 hi
   have := hall i hi'
   have hlt : i < listed.size := by omega
   have hx : listed[i] = true := by simpa [hlt] using this
   simp [hlt, hx]
  | succ fuel ih =>
   intro listed a' w' hlsz hcount hSc hS
   refine ⟨fun hnil => ?_, fun i hi => ?_⟩
   ·exfalso
    have hne : (List.range ops.size).filter (fun i => !listed.getD i false) ≠ [] := by
     intro e; rw [e] at hcount; simp at hcount
    obtain ⟨i0, hi0⟩ := List.exists_mem_of_ne_nil _ hne
    have hex : ∃ i, i < ops.size ∧ listed.getD i false = false := by
     have := List.mem_filter.1 hi0
     exact ⟨i0, List.mem_range.1 this.1, by simpa using this.2⟩
    obtain ⟨i, ⟨hi, hx⟩, hmin⟩ := exists_least hex
    have : i ∈ Region.ready .any ops listed := by
     refine List.mem_filter.2 ⟨List.mem_range.2 (by omega), ?_⟩
     have hlt2 : i < listed.size := by omega
     have hx' : listed[i] = false := by simpa [hlt2] using hx
     simp only [hlt2, Array.getD_eq_getD_getElem?, Array.getElem?_eq_getElem, Option.getD_some, hx', Bool.not_false, hi, Option.map_some, Bool.true_and]
     rw [Array.all_eq_true']
     intro e he
     cases hb : Region.binds .any e with
     | false => rfl
     | true =>
      have hmem : e.on ∈ (ae0 ops).getD i [] := by
       rw [depsEq i hi]
       exact List.mem_map.2 ⟨e, List.mem_filter.2 ⟨by simpa using he, hb⟩, rfl⟩
      have hlt3 := hlt i hi _ hmem
      cases hl2 : listed.getD e.on false with
      | true => simpa using hl2
      | false =>
       have := hmin e.on ⟨by omega, hl2⟩
       omega
    rw [hnil] at this
    simp at this
   ·have hmem := List.mem_filter.1 hi
    have hio : i < ops.size := List.mem_range.1 hmem.1
    have hlt2 : i < listed.size := by omega
    obtain ⟨hc1, hc2⟩ := Bool.and_eq_true_iff.1 hmem.2
    have hSi : listed.getD i false = false := by
     have : listed[i] = false := by simpa [hlt2] using hc1
     simp [hlt2, this]
    have hSd : ∀ k ∈ (ae0 ops).getD i [], listed.getD k false = true := by
     intro k hk
     rw [depsEq i hio] at hk
     obtain ⟨e, he, rfl⟩ := List.mem_map.1 hk
     obtain ⟨he1, he2⟩ := List.mem_filter.1 he
     simp only [hio, Array.getElem?_eq_getElem, Option.map_some, Option.getD_some, Array.all_eq_true'] at hc2
     have := hc2 e (by simpa using he1)
     rw [he2] at this
     simpa using this
    have hnew : ∀ j, (listed.setIfInBounds i true).getD j false = (listed.getD j false || j == i) := by
     intro j
     simp only [Array.getD_eq_getD_getElem?, Array.getElem?_setIfInBounds]
     by_cases hji : i = j
     ·subst hji; simp [hlt2]
     ·have : (j == i) = false := by simp; omega
      simp [hji, this]
    refine wpOp_mono (fun a2 w2 hS2 => ?_) (step (fun i => listed.getD i false) hSc i hio hSi hSd a' w' hS)
    refine ih _ a2 w2 (by simp [hlsz]) ?_ ?_ ?_
    ·have hcnt : ∀ (xs : List Nat), xs.Nodup → i ∈ xs → ((xs.filter fun j => !(listed.getD j false || j == i)).length + 1 = (xs.filter fun j => !listed.getD j false).length) := by
      intro xs
      induction xs with
      | nil => intro _ h; simp at h
      | cons x xs ihx =>
       intro hnd hm
       rw [List.nodup_cons] at hnd
       by_cases hxi : x = i
       ·subst hxi
        have hrest : xs.filter (fun j => !(listed.getD j false || j == x)) = xs.filter fun j => !listed.getD j false := by
         apply List.filter_congr
         intro j hj
         have : j ≠ x := fun e => hnd.1 (e ▸ hj)
         simp [this]
        simp only [List.filter_cons, hSi, beq_self_eq_true, Bool.or_true, Bool.not_true, Bool.false_eq_true, if_false, Bool.not_false, if_true, List.length_cons, hrest]
       ·have hm' : i ∈ xs := by
         rcases List.mem_cons.1 hm with h | h
         ·exact absurd h.symm hxi
         ·exact h
        have := ihx hnd.2 hm'
        have hb : (x == i) = false := by simp [hxi]
        simp only [List.filter_cons, hb, Bool.or_false]
        split
        ·simp only [List.length_cons]; omega
        ·exact this
     have := hcnt (List.range ops.size) List.nodup_range (List.mem_range.2 hio)
     simp only [hnew]
     omega
    ·intro j hj hSj k hk
     rw [hnew] at hSj ⊢
     simp only [Bool.or_eq_true, beq_iff_eq] at hSj ⊢
     rcases hSj with hSj | hSj
     ·exact .inl (hSc j hj hSj k hk)
     ·subst hSj; exact .inl (hSd k hk)
    ·exact hext _ _ (fun j _ => (hnew j).symm) _ _ hS2
 have hnone : ∀ i, (Array.replicate ops.size false).getD i false = false := by
  intro i
  by_cases hi : i < ops.size
  ·simp [hi]
  ·simp [Array.getD_eq_getD_getElem?, hi]
 refine main ops.size _ a w (by simp) ?_ (fun i _ hx => by rw [hnone] at hx; simp at hx) (hext _ _ (fun i _ => (hnone i).symm) _ _ h0)
 have : (List.range ops.size).filter (fun i => !(Array.replicate ops.size false).getD i false) = List.range ops.size := List.filter_eq_self.2 fun i _ => by rw [hnone]; rfl
 rw [this, List.length_range]
end
end Abs
