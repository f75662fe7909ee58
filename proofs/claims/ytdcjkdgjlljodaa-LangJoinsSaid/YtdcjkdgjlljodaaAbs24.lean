/- A part. -/
import Derived.Test.YtdcjkdgjlljodaaAbs22
set_option linter.all false
namespace Abs
open Go
def ct7 (deps : List (List Nat)) : List (List Nat) :=
 deps.foldl (fun acc d => acc ++ [(d ++ d.flatMap fun k => acc.getD k []).eraseDups]) []
def EB.ok (n : Nat) : EB → Bool
 | .row _ es => okL n es
 | .map es => es.all fun e => e.1.ok n && e.2.ok n
 | .it _ _ => true
def cj9 (L : Nat) (s : aa2) (H : Heap) (s' : aa2) : Prop :=
 (∀ t, s' t = .undef ∨ (s' t = s t ∧ (s t).ok L = true)) ∧ ∀ (b : Nat) (x : EB), b < L → H[b]? = some (some x) → x.ok L = true
def ba5 (next : aa2 → Heap → Prop) (Q : AX → aa2 → Heap → Prop) : AX → aa2 → Heap → Prop
 | .normal, s, H => next s H
 | x, s, H => Q x s H
section
variable {P : Program} {γ : Nat → EV} {n : Nat} {nb : NB} {φ φ0 : Nat → Nat} {I I0 : Nat → Prop} {s : aa2} {H H0 : Heap} {a : Act} {w w0 : World}
theorem ak1 {L b : Nat} {x : Option EB} (h : (H.take L)[b]? = some x) : b < L ∧ H[b]? = some x := by
 have hb := aa3 h
 simp only [List.length_take] at hb
 rw [List.getElem?_take_of_lt (by omega)] at h
 exact ⟨by omega, h⟩
theorem Evo.take (h : Evo φ0 I0 H0 w0 φ I H w) {L : Nat} (hL : H0.length ≤ L) : Evo φ0 I0 H0 w0 φ I (H.take L) w where
 size := h.size
 shape := h.shape
 keep := h.keep
 imm := h.imm
 phi := h.phi
 len := by have := h.len; simp; omega
 own B hB := by
  obtain ⟨b, x, hb, e⟩ := hB
  exact h.own B ⟨b, x, (ak1 hb).2, e⟩
 immf := h.immf
 tape := h.tape
 os := h.os
 out := h.out
 froz := h.froz
theorem RB.trunc {N L B : Nat} {x : EB} (h : RB φ N I w B x) (ho : x.ok L = true) : RB φ L I w B x := by
 cases x with
 | row sz es =>
  obtain ⟨c, T, h1, h2, h3, h4⟩ := h
  refine ⟨c, T, h1, h2, h3, fun i j e x v he hx hv => (h4 i j e x v he hx hv).trunc ?_⟩
  exact bw6 (ah6.1 ho e (List.mem_of_getElem? he)) x (List.mem_of_getElem? hx)
 | map es =>
  obtain ⟨ms, clock, h1, h2, h3⟩ := h
  refine ⟨ms, clock, h1, h2, fun i e m he hm => ?_⟩
  have := List.all_eq_true.1 ho e (List.mem_of_getElem? he)
  simp only [Bool.and_eq_true] at this
  exact ⟨(h3 i e m he hm).1.trunc this.1, (h3 i e m he hm).2.trunc this.2⟩
 | it s p => exact h
theorem RV.grow {N M : Nat} {x : EV} {v : Value} (h : RV φ N I w x v) (hN : N ≤ M) : RV φ M I w x v :=
 h.mono hN (fun _ _ => rfl) (fun _ h => h) (fun _ _ => rfl) (fun _ _ _ _ h => h)
theorem bz1 {m : Nat} {e : EV} (h : ∀ x ∈ e.cells, x.ok m = true) : e.ok m = true := by
 cases e with
 | agg cs => simp only [EV.ok]; exact ah6.2 h
 | _ => exact h _ (by simp [EV.cells])
theorem RV.isOk {N : Nat} {x : EV} {v : Value} (h : RV φ N I w x v) : x.ok N = true := by
 induction h with
 | undef v => rfl
 | bool b => rfl
 | int k m => rfl
 | str s => rfl
 | nilptr => rfl
 | ptr b sz i j hb => simpa [EV.ok] using hb
 | iptr cells j B o c T fr hB hb hs' _ ih =>
  simp only [EV.ok]
  refine ah6.2 fun x hx => ?_
  obtain ⟨k, hk, rfl⟩ := List.mem_iff_getElem.1 hx
  have hlt : o + k < c.size := by omega
  exact ih k _ c[o + k] (by simp [hk]) (by simp [hlt])
 | nilsl => rfl
 | zsl a => rfl
 | imm sz es B o cap c T fr hB hb hs' hc hz _ ih =>
  simp only [EV.ok]
  refine ah6.2 fun e he => bz1 fun x hx => ?_
  obtain ⟨i, hi, rfl⟩ := List.mem_iff_getElem.1 he
  obtain ⟨j, hj, rfl⟩ := List.mem_iff_getElem.1 hx
  have hsz := hz _ he
  have hlt : o + i * sz + j < c.size := by
   have := am7 (sz := sz) (by omega : j < sz) hi
   omega
  exact ih i j es[i] es[i].cells[j] c[o + i * sz + j] (by simp [hi]) (by simp [hj]) (by simp [hlt])
 | imm0 sz a => rfl
 | own0 b sz off a hb => simpa [EV.ok] using hb
 | own b sz off len cap m T hb hsh hn hc => simpa [EV.ok] using hb
 | nilfn => rfl
 | func f first cap vf vc h1 h2 _ _ ih1 ih2 =>
  simp only [EV.ok, Bool.and_eq_true]
  refine ⟨ah6.2 fun x hx => ?_, ah6.2 fun x hx => ?_⟩
  ·obtain ⟨k, hk, rfl⟩ := List.mem_iff_getElem.1 hx
   have hlt : k < vf.size := by omega
   exact ih1 k _ vf[k] (by simp [hk]) (by simp [hlt])
  ·obtain ⟨k, hk, rfl⟩ := List.mem_iff_getElem.1 hx
   have hlt : k < vc.size := by omega
   exact ih2 k _ vc[k] (by simp [hk]) (by simp [hlt])
 | nilif => rfl
 | iface t x v _ ih => simpa [EV.ok] using ih
 | nilmap => rfl
 | map b hb => simpa [EV.ok] using hb
 | agg cs vs hl _ ih =>
  simp only [EV.ok]
  refine ah6.2 fun x hx => ?_
  obtain ⟨k, hk, rfl⟩ := List.mem_iff_getElem.1 hx
  have hlt : k < vs.size := by omega
  exact ih k _ vs[k] (by simp [hk]) (by simp [hlt])
 | tup cs vs hl _ ih =>
  simp only [EV.ok]
  refine ah6.2 fun x hx => ?_
  obtain ⟨k, hk, rfl⟩ := List.mem_iff_getElem.1 hx
  have hlt : k < vs.size := by omega
  exact ih k _ vs[k] (by simp [hk]) (by simp [hlt])
def OkH (H : Heap) : Prop := ∀ (b : Nat) (x : EB), H[b]? = some (some x) → x.ok H.length = true
theorem RH.isOk (h : RH γ φ I H w) : OkH H := by
 intro b x hb
 have := h.blk b x hb
 cases x with
 | row sz es =>
  obtain ⟨c, T, h1, h2, h3, h4⟩ := this
  simp only [EB.ok]
  refine ah6.2 fun e he => bz1 fun x hx => ?_
  obtain ⟨i, hi, rfl⟩ := List.mem_iff_getElem.1 he
  obtain ⟨j, hj, rfl⟩ := List.mem_iff_getElem.1 hx
  have hsz := h3 _ he
  have hlt : i * sz + j < c.size := by
   have := am7 (sz := sz) (by omega : j < sz) hi
   omega
  exact (h4 i j es[i] es[i].cells[j] c[i * sz + j] (by simp [hi]) (by simp [hj]) (by simp [hlt])).isOk
 | map es =>
  obtain ⟨ms, clock, h1, h2, h3⟩ := this
  simp only [EB.ok]
  rw [List.all_eq_true]
  intro e he
  obtain ⟨i, hi, rfl⟩ := List.mem_iff_getElem.1 he
  have hlt : i < ms.size := by omega
  have := h3 i es[i] ms[i] (by simp [hi]) (by simp [hlt])
  rw [this.1.isOk, this.2.isOk]; rfl
 | it s p => rfl
theorem RH.take (h : RH γ φ I H w) {L : Nat} (ho : ∀ (b : Nat) (x : EB), b < L → H[b]? = some (some x) → x.ok (min L H.length) = true) : RH γ φ I (H.take L) w where
 glob := h.glob
 blk b x hb := by
  obtain ⟨h1, h2⟩ := ak1 hb
  rw [List.length_take]
  exact (h.blk b x h2).trunc (ho b x h1 h2)
 inj b b' x x' hb hb' e := h.inj b b' x x' (ak1 hb).2 (ak1 hb').2 e
 imm := h.imm
 dis b x hb := h.dis b x (ak1 hb).2
 lt b x hb := h.lt b x (ak1 hb).2
theorem es5 {x : EV} {v : Value} {N L : Nat} (h : RV φ N I w x v) (ho : x.ok L = true) : RV φ (min L N) I w x v := by
 by_cases hl : L ≤ N
 ·rw [Nat.min_eq_left hl]; exact h.trunc ho
 ·rw [Nat.min_eq_right (by omega)]; exact h
theorem RB.min {N L B : Nat} {x : EB} (h : RB φ N I w B x) (ho : x.ok L = true) : RB φ (min L N) I w B x := by
 by_cases hl : L ≤ N
 ·rw [Nat.min_eq_left hl]; exact h.trunc ho
 ·rw [Nat.min_eq_right (by omega)]; exact h
theorem RH.take' (h : RH γ φ I H w) {L : Nat} (ho : ∀ (b : Nat) (x : EB), b < L → H[b]? = some (some x) → x.ok L = true) : RH γ φ I (H.take L) w where
 glob := h.glob
 blk b x hb := by
  obtain ⟨h1, h2⟩ := ak1 hb
  rw [List.length_take]
  exact (h.blk b x h2).min (ho b x h1 h2)
 inj b b' x x' hb hb' e := h.inj b b' x x' (ak1 hb).2 (ak1 hb').2 e
 imm := h.imm
 dis b x hb := h.dis b x (ak1 hb).2
 lt b x hb := h.lt b x (ak1 hb).2
theorem Rel.forget (hR : Rel γ n nb φ I s H a w) {L : Nat} {s' : aa2} (hf : cj9 L s H s') : Rel γ n nb φ I s' (H.take L) a w where
 sz := hR.sz
 slots t := by
  rw [List.length_take]
  rcases hf.1 t with h | ⟨h, ho⟩
  ·rw [h]; exact .undef _
  ·rw [h]; exact es5 (hR.slots t) ho
 heap := hR.heap.take' hf.2
 defers := by
  obtain ⟨h0, Ds, h1, h2, h3⟩ := hR.defers
  exact ⟨h0, Ds, h1, h2, fun D hD => ⟨(h3 D hD).1, (h3 D hD).2.1, fun ⟨b, x, hb, e⟩ => (h3 D hD).2.2.1 ⟨b, x, (ak1 hb).2, e⟩, (h3 D hD).2.2.2⟩⟩
end
def cc3 (o : EOper) : Bool :=
 match o.op, o.guard, o.dst with
 | .box (.c z), none, some _ => z.ok 0 && z.cells.all EV.one
 | _, _, _ => false
def az8 (o : EOper) : EOper := { dst := o.dst, op := .mov (.c .undef) }
def bn5 (l : List EOper) : List EOper × List EOper × List EOper :=
 (l.takeWhile (fun o => !cc3 o), (l.dropWhile fun o => !cc3 o).takeWhile cc3, (l.dropWhile fun o => !cc3 o).dropWhile cc3)
theorem dl9 (l : List EOper) : (bn5 l).1 ++ ((bn5 l).2.1 ++ (bn5 l).2.2) = l := by
 simp [bn5, List.takeWhile_append_dropWhile]
def af2 (l : List EOper) : List Nat := l.filterMap (·.dst)
def EOp.plain : EOp → Bool
 | .call _ _ | .panic _ => false
 | _ => true
def bv3 (o p : EOper) : Bool := !o.op.looks && o.guard.isNone && p.op.plain && !ag8 o p
def isL (k m : Nat) (pr : List (List Nat)) (j : Nat) : Bool := (List.range m).any fun i => !(pr.getD (k + i) []).contains j
theorem bt1 {o : EOper} (h : cc3 o = true) : ∃ d z, o = { dst := some d, op := .box (.c z), guard := none } ∧ z.ok 0 = true ∧ z.cells.all EV.one = true := by
 obtain ⟨dst, op, g⟩ := o
 unfold cc3 at h
 simp only at h
 split at h
 ·simp only [Bool.and_eq_true] at h; exact ⟨_, _, rfl, h⟩
 ·simp at h
theorem ch8 {l : List EOper} {deps pre : List (List Nat)} {chg : List Bool} (hok : cp4 l deps pre chg = true) : ∀ i, i < l.length → (∀ k ∈ deps.getD i [], k < i) ∧ (∀ j ∈ pre.getD i [], ∃ k ∈ deps.getD i [], k = j ∨ j ∈ pre.getD k []) ∧
  ∀ j, j < i → ag8 (l.getD j default) (l.getD i default) = true → j ∈ pre.getD i [] := by
 intro i hi
 have := List.all_eq_true.1 hok i (List.mem_range.2 hi)
 simp only [Bool.and_eq_true, List.all_eq_true, decide_eq_true_eq, List.any_eq_true, Bool.or_eq_true, beq_iff_eq, List.contains_iff_mem, List.mem_range, Bool.not_eq_true', Bool.and_eq_false_iff, Bool.or_eq_false_iff] at this
 obtain ⟨⟨a1, a2⟩, a3⟩ := this
 refine ⟨a1, a2, fun j hj hme => ?_⟩
 rcases (a3 j hj).1.1 with h | h
 ·rw [hme] at h; simp at h
 ·exact h
theorem by4 {N : Nat} {deps pre : List (List Nat)} (ok : ∀ i, i < N → (∀ k ∈ deps.getD i [], k < i) ∧ ∀ j ∈ pre.getD i [], ∃ k ∈ deps.getD i [], k = j ∨ j ∈ pre.getD k []) (S : Nat → Bool)
  (hcl : ∀ i, i < N → S i = true → ∀ k ∈ deps.getD i [], S k = true) : ∀ i, i < N → (∀ k ∈ deps.getD i [], S k = true) → ∀ j ∈ pre.getD i [], S j = true := by
 intro i
 induction i using Nat.strongRecOn with
 | _ i ih =>
  intro hi hd j hj
  obtain ⟨k, hk, hkj⟩ := (ok i hi).2 j hj
  have hki := (ok i hi).1 k hk
  rcases hkj with rfl | hkj
  ·exact hd k hk
  ·exact ih k hki (by omega) (hcl k (by omega) (hd k hk)) j hkj
theorem bk3 {val : Nat → EV} {S T : Nat → Bool} {l : List EOper} {i : Nat} {s : aa2} (h : ∀ k, k < l.length → S (i + k) = T (i + k)) : stS val S i l s = stS val T i l s := by
 funext t
 exact bb4 l i s s (fun k o hk _ => h k (aa3 hk)) rfl
section
variable {P : Program} {γ : Nat → EV} {n : Nat} {nb : NB} {φ φ0 φ' : Nat → Nat} {I I0 I' : Nat → Prop} {s : aa2} {H H0 H' : Heap} {a : Act} {w w0 w' : World}
theorem cm7 {l : List EOper} {deps pre : List (List Nat)} {chg : List Bool} (hok : cp4 l deps pre chg = true) {val : Nat → EV} (text : ∀ i (hi : i < l.length), Runs P γ (stS val (fun j => decide (j < i)) 0 l s) H l[i] (val i) H)
  (S : Nat → Bool) (hSc : ∀ i, i < l.length → S i = true → ∀ k ∈ deps.getD i [], S k = true) (i : Nat) (hi : i < l.length) (hSi : S i = false)
  (before : ∀ j (hj : j < i), ag8 (l[j]'(by omega)) l[i] = true → S j = true) :
  Runs P γ (stS val S 0 l s) H l[i] (val i) H ∧ putA (stS val S 0 l s) l[i].dst (val i) = stS val (fun j => S j || j == i) 0 l s := by
 have ok1 := ch8 hok
 have preIn := by4 (fun i hi => ⟨(ok1 i hi).1, (ok1 i hi).2.1⟩) S hSc
 have hgetD : ∀ i (hi : i < l.length), l.getD i default = l[i] := fun i hi => by simp [hi]
 have meets_behind : ∀ j (hj : i < j) (hj' : j < l.length), ag8 l[i] l[j] = true → S j = false := fun j hj hj' hme => by
  cases hSj : S j with
  | false => rfl
  | true =>
   have := preIn j hj' (hSc j hj' hSj) i ((ok1 j hj').2.2 i hj (by rw [hgetD j hj', hgetD i hi]; exact hme))
   rw [hSi] at this; simp at this
 refine ⟨(text i hi).congr fun t ht => bb4 l 0 s s (fun k o hk hd => ?_) rfl, ?_⟩
 ·rw [Nat.zero_add]
  have hkl := aa3 hk
  have hok : l[k] = o := by simpa [hkl] using hk
  rcases Nat.lt_trichotomy k i with hlt | rfl | hgt
  ·rw [before k hlt (by simp [ag8, hok, hd, ht])]; simp [hlt]
  ·rw [hSi]; simp
  ·rw [meets_behind k hgt hkl (by simp [ag8, hok, hd, ht])]; simp; omega
 ·funext t
  by_cases hd : l[i].dst = some t
  ·rw [hd]
   have := bk4 (val := val) (S := fun j => S j || j == i) (t := t) l 0 i s l[i] (by simp [hi]) hd (by simp) (fun k o' hk hk' hSk hd' => by
    have hkl := aa3 hk'
    have hok : l[k] = o' := by simpa [hkl] using hk'
    simp only [Nat.zero_add, Bool.or_eq_true, beq_iff_eq] at hSk
    rcases hSk with hSk | hSk
    ·rw [meets_behind k hk hkl (by simp [ag8, hok, hd, hd'])] at hSk; simp at hSk
    ·omega)
   rw [this]
   simp [putA, upd]
  ·rw [an8 hd]
   refine bb4 l 0 s s (fun k o hk hd' => ?_) rfl
   rw [Nat.zero_add]
   by_cases hki : k = i
   ·subst hki
    have hok : l[k] = o := by simpa [hi] using hk
    rw [hok] at hd
    exact absurd hd' hd
   ·simp [hki]
theorem bi4 {Q : AX → aa2 → Heap → Prop} {own : List Nat} {ops : Array Oper} {i : Nat} {o : Oper} {eo : EOper} (hi : ops[i]? = some o) (heo : ai5 P n own ops o = some eo)
  (hev : Evo φ0 I0 H0 w0 φ I H w) (hR : Rel γ n nb φ I s H a w) {v : EV} {H' : Heap} (h : Runs P γ s H eo v H') {K : Act → World → Prop}
  (hK : ∀ φ' I' a' w' val, Evo φ I H w φ' I' H' w' → Rel γ n nb φ' I' (putA s eo.dst v) H' a' w' → a' = a.put eo.dst val → K a' w') :
  wpOp P ops (Post γ n nb φ0 I0 H0 w0 Q) i K a w := by
 obtain ⟨⟨b, hres⟩, hdst, hd, hg⟩ := ah7 heo
 have run : Acts P γ s H eo.op v H' → o.wp P a w K (Post γ n nb φ0 I0 H0 w0 Q) := by
  intro h
  have h1 := bm4 (Q := Q) hR hres hd (cj8 h)
  refine bl2 (fun e a' w' hp => Post.trans hev hp) (Oper.wp_mono (fun a' w' ⟨φ', I', H1, v1, e1, e2, e3, val, e5, _⟩ => ?_) h1)
  obtain ⟨e3, e4⟩ := e3
  subst e3 e4
  exact hK φ' I' a' w' val e1 (by rw [hdst]; exact e2) (by rw [hdst]; exact e5)
 unfold wpOp
 rw [hi]
 simp only
 unfold Runs at h
 cases ho : o.guard with
 | none =>
  rw [ho] at hg
  rw [hg] at h
  rw [if_pos (by simp [Region.wanted, ho])]
  exact .inl (run h)
 | some p =>
  obtain ⟨j, bb⟩ := p
  rw [ho] at hg
  obtain ⟨d, hj, hdn, hg⟩ := hg
  rw [hg] at h
  rcases h with ⟨t, ht, h1, h2⟩ | ⟨ht, rfl, rfl⟩
  case inr =>
   have hsl := hR.slots d
   rw [ht] at hsl
   rw [if_neg (by simp [Region.wanted, ho, bo2 hj hdn hR.sz hsl])]
   exact hK φ I _ w _ (.refl ..) (by rw [hdst]; exact hR.put (.refl ..) hR.heap hd bx8) (by rw [hdst])
  have hsl := hR.slots d
  rw [ht] at hsl
  generalize hva : a.tmps.getD d Go.undef = vd at hsl
  cases hsl
  have hy : yielded ops a.tmps j = some t := by
   have hlt : d < a.tmps.size := by rw [hR.sz]; exact hdn
   have hv2 : a.tmps[d] = .bool t := by simpa [hlt] using hva
   simp [yielded, hj, hlt, hv2]
  by_cases e : t = bb
  ·subst e
   rw [if_pos (by simp [Region.wanted, ho, hy])]
   exact .inl (run (h1 rfl))
  ·rw [if_neg (by simp [Region.wanted, ho, hy, e])]
   obtain ⟨rfl, rfl⟩ := h2 e
   exact hK φ I _ w _ (.refl ..) (by rw [hdst]; exact hR.put (.refl ..) hR.heap hd bx8) (by rw [hdst])
structure BF (φ : Nat → Nat) (I : Nat → Prop) (H : Heap) (w0 w : World) (z : EV) (B : Nat) : Prop where
 new : w0.heap.size ≤ B
 imm : ¬ I B
 own : ¬ Own φ H B
 blk : RB φ 0 I w B (.row z.cells.length [z])
theorem BF.lt {z : EV} {B : Nat} (h : BF φ I H w0 w z B) : B < w.heap.size := by
 obtain ⟨c, T, h1, _⟩ := h.blk
 exact (Array.getElem?_eq_some_iff.1 h1).1
theorem BF.evo {z : EV} {B : Nat} (h : BF φ I H w0 w z B) (hr : RH γ φ I H w) (e : Evo φ I H w φ' I' H' w') : BF φ' I' H' w0 w' z B := by
 have hlt := h.lt
 refine ⟨h.new, fun hi => ?_, fun ho => ?_, h.blk.mono (Nat.le_refl _) (fun i hi => absurd hi (Nat.not_lt_zero i)) e.imm (fun B' hB' => e.keep B' (hr.imm B' hB') fun ⟨b, y, hb, e'⟩ => hr.dis b y hb (e' ▸ hB'))
  (fun b hb => absurd hb (Nat.not_lt_zero b)) (e.keep B hlt h.own)⟩
 ·rcases e.immf B hi with h1 | h1 | h1
  ·exact h.imm h1
  ·exact h.own h1
  ·omega
 ·rcases e.own B ho with h1 | h1
  ·exact h.own h1
  ·omega
theorem cr8 {Qp : EV → Heap → Prop} {ρ : EOpd → EV} {x : EOpd} {K : EV → Heap → Prop} (h : wop P γ Qp ρ H (.box x) K) :
  (ρ x).cells.all EV.one = true ∧ K (.ptr H.length (ρ x).cells.length 0 0) (H ++ [some (.row (ρ x).cells.length [ρ x])]) := by
 unfold wop at h
 simp only [evOp] at h
 by_cases hc : (ρ x).cells.all EV.one = true
 ·rw [if_pos hc] at h; exact ⟨hc, h⟩
 ·rw [if_neg hc] at h; exact h.elim
theorem conv {Q : AX → aa2 → Heap → Prop} {post : List EOper} {X : Nat → Prop} : ∀ (al : List EOper), al.all cc3 = true → ∀ (φ : Nat → Nat) (H : Heap) (σ s1 : aa2) (β : Nat → Nat), Evo φ0 I0 H0 w0 φ I H w → Rel γ n nb φ I σ H a w →
  (∀ j d z, al[j]? = some { dst := some d, op := .box (.c z), guard := none } → a.tmps.getD d Go.undef = .pointer (some ⟨β j, 0, none⟩) ∧ BF φ I H w0 w z (β j)) →
  (∀ i j, i < al.length → j < al.length → β i = β j → i = j) → (∀ t, t ∉ af2 al → ¬X t → σ t = s1 t) → wops P γ Q (al ++ post) s1 H →
  ∃ φ' I' s' s2 H', Evo φ0 I0 H0 w0 φ' I' H' w ∧ Rel γ n nb φ' I' s' H' a w ∧ wops P γ Q post s2 H' ∧ (∀ t, ¬X t → s' t = s2 t) ∧ ∀ t, t ∉ af2 al → s' t = σ t ∧ s2 t = s1 t
 | [], _, φ, H, σ, s1, β, he, hR, _, _, hσ, h => by
  exact ⟨φ, I, σ, s1, H, he, hR, h, fun t ht => hσ t (by simp [af2]) ht, fun t _ => ⟨rfl, rfl⟩⟩
 | o :: al, hal, φ, H, σ, s1, β, he, hR, hb, hinj, hσ, h => by
  simp only [List.all_cons, Bool.and_eq_true] at hal
  obtain ⟨d, z, rfl, hz, _⟩ := bt1 hal.1
  obtain ⟨b1, b2⟩ := hb 0 d z rfl
  have hr := hR.heap
  have h : wops P γ Q (al ++ post) (putA s1 (some d) (.ptr H.length z.cells.length 0 0)) (H ++ [some (.row z.cells.length [z])]) := by
   simp only [List.cons_append, wops] at h
   exact (cr8 h).2
  have mono : ∀ {x : EV} {v : Value}, RV φ H.length I w x v → RV (up φ H.length (β 0)) (H.length + 1) I w x v := fun h =>
   h.mono (Nat.le_succ _) (fun i hi => ba4 hi) (fun _ h => h) (fun _ _ => rfl) (fun _ _ _ _ h => h)
  have old : ∀ (b : Nat) (x : EB), (H ++ [some (EB.row z.cells.length [z])])[b]? = some (some x) → (H[b]? = some (some x) ∧ up φ H.length (β 0) b = φ b) ∨ (b = H.length ∧ x = .row z.cells.length [z] ∧ up φ H.length (β 0) b = β 0) := by
   intro b x hbx
   rcases Nat.lt_trichotomy b H.length with hlt | rfl | hgt
   ·rw [List.getElem?_append_left hlt] at hbx
    exact .inl ⟨hbx, ba4 hlt⟩
   ·rw [List.getElem?_append_right (Nat.le_refl _)] at hbx
    simp at hbx
    exact .inr ⟨rfl, hbx.symm, bd6⟩
   ·have := aa3 hbx
    simp at this
    omega
  have hown : ∀ B, Own (up φ H.length (β 0)) (H ++ [some (.row z.cells.length [z])]) B → Own φ H B ∨ B = β 0 := by
   rintro B ⟨b, x, hbx, rfl⟩
   rcases old b x hbx with ⟨h1, h2⟩ | ⟨_, _, h2⟩
   ·exact .inl ⟨b, x, h1, h2.symm⟩
   ·exact .inr h2
  suffices key : ∃ φ' I' s' s2 H', Evo φ0 I0 H0 w0 φ' I' H' w ∧ Rel γ n nb φ' I' s' H' a w ∧ wops P γ Q post s2 H' ∧ (∀ t, ¬X t → s' t = s2 t) ∧ ∀ t, t ∉ af2 al → s' t = putA σ (some d) (.ptr H.length z.cells.length 0 0) t ∧ s2 t = putA s1 (some d) (.ptr H.length z.cells.length 0 0) t by
   obtain ⟨φ', I', s', s2, H', g1, g2, g3, g4, g5⟩ := key
   refine ⟨φ', I', s', s2, H', g1, g2, g3, g4, fun t ht => ?_⟩
   have hd : t ≠ d := fun e => ht (by simp [af2, e])
   have := g5 t (fun h => ht (by simp [af2] at h ⊢; exact .inr h))
   simpa [putA, upd, hd] using this
  refine conv al hal.2 (up φ H.length (β 0)) (H ++ [some (.row z.cells.length [z])]) (putA σ (some d) (.ptr H.length z.cells.length 0 0)) _ (fun j => β (j + 1)) ?_ ?_ ?_ ?_ ?_ h
  ·exact { size := he.size, shape := he.shape, keep := he.keep, imm := he.imm, phi := fun i hi => (ba4 (Nat.lt_of_lt_of_le hi he.len)).trans (he.phi i hi), len := by have := he.len; simp; omega,
           own := fun B hB => (hown B hB).elim (he.own B) fun e => .inr (e ▸ b2.new), immf := he.immf, tape := he.tape, os := he.os, out := he.out, froz := he.froz }
  ·refine ⟨hR.sz, fun t => ?_, ⟨fun g => (hr.glob g).mono (Nat.le_refl 0) (fun i hi => absurd hi (Nat.not_lt_zero i)) (fun _ h => h) (fun _ _ => rfl) (fun b hb => absurd hb (Nat.not_lt_zero b)), fun b x hbx => ?_, fun b b' x x' hbx hbx' e => ?_, hr.imm, fun b x hbx => ?_, fun b x hbx => ?_⟩, ?_⟩
   ·rw [List.length_append]
    simp only [putA, upd]
    by_cases ht : t = d
    ·subst ht
     rw [if_pos rfl, b1]
     have := RV.ptr (φ := up φ H.length (β 0)) (N := H.length + 1) (I := I) (w := w) H.length z.cells.length 0 0 (by omega)
     simpa [bd6] using this
    ·rw [if_neg ht]
     exact mono (hR.slots t)
   ·rw [List.length_append]
    rcases old b x hbx with ⟨h1, h2⟩ | ⟨rfl, rfl, h2⟩
    ·rw [h2]
     exact (hr.blk b x h1).mono (Nat.le_succ _) (fun i hi => ba4 hi) (fun _ h => h) (fun _ _ => rfl) (fun _ _ _ _ h => h) rfl
    ·rw [h2]
     exact b2.blk.mono (Nat.zero_le _) (fun i hi => absurd hi (Nat.not_lt_zero i)) (fun _ h => h) (fun _ _ => rfl) (fun b hb => absurd hb (Nat.not_lt_zero b)) rfl
   ·rcases old b x hbx with ⟨h1, h2⟩ | ⟨rfl, rfl, h2⟩ <;> rcases old b' x' hbx' with ⟨g1, g2⟩ | ⟨rfl, rfl, g2⟩
    ·exact hr.inj b b' x x' h1 g1 (by rw [← h2, ← g2]; exact e)
    ·exact absurd ⟨b, x, h1, by rw [← h2, e, g2]⟩ b2.own
    ·exact absurd ⟨b', x', g1, by rw [← g2, ← e, h2]⟩ b2.own
    ·rfl
   ·rcases old b x hbx with ⟨h1, h2⟩ | ⟨rfl, rfl, h2⟩
    ·rw [h2]; exact hr.dis b x h1
    ·rw [h2]; exact b2.imm
   ·rcases old b x hbx with ⟨h1, h2⟩ | ⟨rfl, rfl, h2⟩
    ·rw [h2]; exact hr.lt b x h1
    ·rw [h2]; exact b2.lt
   ·obtain ⟨h0, Ds, h1, h2, h3⟩ := hR.defers
    refine ⟨h0, Ds, h1, h2, fun D hD => ⟨(h3 D hD).1, (h3 D hD).2.1, fun ho => ?_, (h3 D hD).2.2.2⟩⟩
    rcases hown D ho with ho | rfl
    ·exact (h3 D hD).2.2.1 ho
    ·obtain ⟨c, T, g1, _⟩ := b2.blk
     have := (h3 _ hD).2.1
     rw [g1] at this
     simp at this
  ·intro j d' z' hj
   obtain ⟨c1, c2⟩ := hb (j + 1) d' z' (by simpa using hj)
   refine ⟨c1, c2.new, c2.imm, fun ho => ?_, c2.blk.mono (Nat.le_refl _) (fun i hi => absurd hi (Nat.not_lt_zero i)) (fun _ h => h) (fun _ _ => rfl) (fun b hb => absurd hb (Nat.not_lt_zero b)) rfl⟩
   rcases hown _ ho with ho | e
   ·exact c2.own ho
   ·have := hinj (j + 1) 0 (by have := aa3 hj; simp; omega) (by simp) e
    omega
  ·intro i j hi hj e
   have := hinj (i + 1) (j + 1) (by simp; omega) (by simp; omega) e
   omega
  ·intro t ht hX
   simp only [putA, upd]
   by_cases hd : t = d
   ·rw [if_pos hd, if_pos hd]
   ·rw [if_neg hd, if_neg hd]
    exact hσ t (by simp [af2] at ht ⊢; exact ⟨hd, ht⟩) hX
theorem by3 {d : Nat} {dst : Option Nat} {val : Value} (h : dst ≠ some d) : (a.put dst val).tmps.getD d Go.undef = a.tmps.getD d Go.undef := by
 cases dst with
 | none => rfl
 | some d' =>
  have : d' ≠ d := fun e => h (by rw [e])
  simp [Act.put, Array.getElem?_setIfInBounds_ne this]
theorem aq0 {l : List EOper} {j : Nat} {o : EOper} {d : Nat} (h : l[j]? = some o) (hd : o.dst = some d) : d ∈ af2 l :=
 List.mem_filterMap.2 ⟨o, List.mem_of_getElem? h, hd⟩
theorem bj1 : ∀ {l : List EOper} {i j : Nat} {o o' : EOper} {d : Nat}, (af2 l).Nodup → l[i]? = some o → l[j]? = some o' → o.dst = some d → o'.dst = some d → i = j
 | [], _, _, _, _, _, _, h, _, _, _ => by simp at h
 | x :: l, i, j, o, o', d, hnd, hi, hj, ho, ho' => by
  have hx : ∀ {d}, x.dst = some d → d ∉ af2 l ∧ (af2 l).Nodup := fun {d} hx => by simpa [af2, hx] using hnd
  have hl : (af2 l).Nodup := by
   cases hxd : x.dst with
   | none => simpa [af2, hxd] using hnd
   | some d => exact (hx hxd).2
  cases i with
  | zero =>
   simp only [List.getElem?_cons_zero, Option.some.injEq] at hi
   subst hi
   cases j with
   | zero => rfl
   | succ j => exact absurd (aq0 (by simpa using hj) ho') (hx ho).1
  | succ i =>
   cases j with
   | zero =>
    simp only [List.getElem?_cons_zero, Option.some.injEq] at hj
    subst hj
    exact absurd (aq0 (by simpa using hi) ho) (hx ho').1
   | succ j => exact congrArg (· + 1) (bj1 hl (i := i) (j := j) (by simpa using hi) (by simpa using hj) ho ho')
theorem dk4 {Q : AX → aa2 → Heap → Prop} : ∀ (pre : List EOper) (s : aa2), wdr P γ Q (pre.map fun o => (o, false)) s H →
  ∃ val : Nat → EV, (∀ i (hi : i < pre.length), Runs P γ (stS val (fun j => decide (j < i)) 0 pre s) H pre[i] (val i) H) ∧ Q .normal (stS val (fun _ => true) 0 pre s) H := by
 intro pre s h
 obtain ⟨val, hs, g0, g1, g2⟩ := bx4 _ _ _ h
 have hm : (pre.map fun o => (o, false)).map (·.1) = pre := by simp [Function.comp_def]
 rw [hm] at g1 g2
 have hc : ∀ i, i ≤ pre.length → hs i = H := by
  intro i
  induction i with
  | zero => intro _; exact g0
  | succ i ih =>
   intro hi
   rw [(g1 i pre[i] false (by simp [show i < pre.length by omega])).2 rfl]
   exact ih (by omega)
 refine ⟨val, fun i hi => ?_, ?_⟩
 ·have := (g1 i pre[i] false (by simp [hi])).1
  rwa [hc i (by omega), hc (i + 1) (by omega)] at this
 ·rw [← hc pre.length (Nat.le_refl _)]
  simpa using g2
theorem ba9 {val : Nat → EV} {S : Nat → Bool} : ∀ (l l' : List EOper) (i : Nat) (s : aa2), stS val S i (l ++ l') s = stS val S (i + l.length) l' (stS val S i l s)
 | [], _, _, _ => rfl
 | o :: l, l', i, s => by
  simp only [List.cons_append, stS, List.length_cons]
  rw [ba9 l l' (i + 1)]
  congr 1
  omega
theorem ay4 {val : Nat → EV} {S : Nat → Bool} {l : List EOper} {i : Nat} {s : aa2} (h : ∀ k, k < l.length → S (i + k) = false) : stS val S i l s = s := by
 funext t
 exact au8 l i s fun k o hk hs => by rw [h k (aa3 hk)] at hs; simp at hs
theorem bp3 {Qp : EV → Heap → Prop} {ρ : EOpd → EV} {op : EOp} {K : EV → Heap → Prop} (hp : op.plain = true) (h : wop P γ Qp ρ H op K) : ∃ v H', evOp ρ H op = some (v, H') ∧ K v H' := by
 cases op <;> simp only [EOp.plain, Bool.false_eq_true] at hp <;> (unfold wop at h; simp only at h; split at h <;> first | exact ⟨_, _, by assumption, h⟩ | exact h.elim)
theorem bt8 {op : EOp} {v : EV} {H' : Heap} (hp : op.plain = true) (h : evOp (ev γ s) H op = some (v, H')) : Acts P γ s H op v H' := by
 cases op <;> simp only [EOp.plain, Bool.false_eq_true] at hp <;> exact h
theorem ce1 {op : EOp} {v : EV} {H' : Heap} (hp : op.plain = true) (h : Acts P γ s H op v H') : evOp (ev γ s) H op = some (v, H') := by
 cases op <;> simp only [EOp.plain, Bool.false_eq_true] at hp <;> exact h
end
end Abs
