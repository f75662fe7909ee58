/- A part. -/
import Derived.Test.YtdcjkdgjlljodaaGnX
import Derived.Test.YtdcjkdgjlljodaaOctsA
set_option linter.all false
namespace Abs
open Go
set_option maxRecDepth 20000
structure SlV (sz : Nat) (x : EV) (es : List EV) : Prop where
 len : bo5 false x = some es.length
 elem : ∀ (i : Nat) (e : EV), es[i]? = some e → bc8 sz (i : Int) x = some (.iptr e.cells 0)
 els : ∀ H, bh7 H x = some es
 ok : ∀ n, x.ok n = true
 le : es.length ≤ 9223372036854775807
 one : x.cells = [x] ∧ x.one = true
theorem SlV.imm {sz : Nat} {es : List EV} (h : ∀ n, okL n es = true) (hl : es.length ≤ 9223372036854775807) : SlV sz (.imm sz es) es :=
 ⟨rfl, fun i e he => by simp [bc8, he], fun _ => rfl, fun n => by simpa [EV.ok] using h n, hl, rfl, rfl⟩
theorem SlV.nil {sz : Nat} : SlV sz .nilsl [] := ⟨rfl, fun i e he => by simp at he, fun _ => rfl, fun _ => rfl, by simp, rfl, rfl⟩
theorem SlV.zsl {sz : Nat} : SlV sz .zsl [] := ⟨rfl, fun i e he => by simp at he, fun _ => rfl, fun _ => rfl, by simp, rfl, rfl⟩
def aa9 (l : List Int) : List EV := l.map (EV.int .i64)
abbrev am3 (x : EV) (l : List Int) : Prop := SlV 1 x (aa9 l)
theorem ab4 (l : List Int) : (aa9 l).length = l.length := by simp [aa9]
theorem av5 {l : List Int} {i : Nat} {v : Int} (h : l[i]? = some v) : (aa9 l)[i]? = some (.int .i64 v) := by simp [aa9, h]
theorem bq4 (n : Nat) : ∀ l : List Int, okL n (aa9 l) = true
 | [] => rfl
 | x :: l => by
  have := bq4 n l
  unfold aa9 at this ⊢
  simp [okL, EV.ok, this]
theorem SlV.lenI {x : EV} {l : List Int} (h : am3 x l) : bo5 false x = some l.length := by rw [h.len, ab4]
theorem SlV.at {x : EV} {l : List Int} (h : am3 x l) {i : Nat} {v : Int} (hv : l[i]? = some v) : bc8 1 (i : Int) x = some (.iptr [.int .i64 v] 0) := h.elem i _ (av5 hv)
theorem bn0 {l : List Int} (hl : l.length ≤ 9223372036854775807) : am3 (.imm 1 (aa9 l)) l := .imm (fun n => bq4 n l) (by rw [ab4]; exact hl)
theorem ac8 (i : Nat) : ((i + 1 : Nat) : Int) = (i : Int) + 1 := rfl
theorem bw9 {α : Type} {l : List α} {i : Nat} {v : α} (h : l[i]? = some v) : l.drop i = v :: l.drop (i + 1) := by
 obtain ⟨hp, e⟩ := List.getElem?_eq_some_iff.1 h
 rw [← e]; exact List.drop_eq_getElem_cons hp
theorem ac4 {α : Type} {l : List α} {i : Nat} (h : i < l.length) : ∃ v, l[i]? = some v := ⟨l[i], by simp [h]⟩
structure NF where
 (x0 x1 x2 x3 x4 : EV)
 (m : Int)
 (sets : List (Nat → Nat))
 (rules first : List Int)
 (fx : List EV)
 (follow : List (List Int))
 (ends : List Bool)
 h0 : SlV 4 x0 (sets.map setE)
 hw : ∀ w ∈ sets, bp1 w
 h1 : am3 x1 rules
 h2 : am3 x2 first
 h3 : SlV 1 x3 fx
 hl : fx.length = follow.length
 hf : ∀ (i : Nat) (y : EV) (l : List Int), fx[i]? = some y → follow[i]? = some l → am3 y l
 h4 : SlV 1 x4 (ends.map EV.bool)
def NF.E (n : NF) : EV := .agg [n.x0, n.x1, n.x2, n.x3, n.x4, .int .i64 n.m]
theorem NF.k (n : NF) : bo5 false n.x0 = some n.sets.length := by rw [n.h0.len, List.length_map]
theorem NF.one (n : NF) : n.x0.one = true ∧ n.x1.one = true ∧ n.x2.one = true ∧ n.x3.one = true ∧ n.x4.one = true := ⟨n.h0.one.2, n.h1.one.2, n.h2.one.2, n.h3.one.2, n.h4.one.2⟩
def idxI (p : Int → Bool) : List Int → Int → Int
 | [], _ => -1
 | v :: l, i => if p v then i else idxI p l (i + 1)
section
def eq2 (E : Env) (f : EV) (p : Int → Bool) (l : List Int) (H : Heap) : Prop := ∀ v ∈ l, eg5 E f [.int .i64 v] H = some (.ret (.bool (p v)), H)
theorem br3 {p : Int → Bool} : ∀ {l : List Int} {i : Int}, (idxI p l i = -1 ∧ 0 ≤ i → l.filter (fun v => !p v) = l) ∧ (0 ≤ i → idxI p l i ≠ -1 → ∃ k : Nat, k < l.length ∧ idxI p l i = i + k ∧ (l.take (k + 1)).filter (fun v => !p v) = l.take k)
 | [], i => ⟨fun _ => rfl, fun _ h => absurd rfl h⟩
 | v :: l, i => by
  have ih := br3 (p := p) (l := l) (i := i + 1)
  by_cases hp : p v = true
  ·refine ⟨fun h => ?_, fun h0 _ => ⟨0, by simp, by simp [idxI, hp], by simp [hp]⟩⟩
   simp only [idxI, hp, if_true] at h
   omega
  ·have hp' : p v = false := by simpa using hp
   have e : idxI p (v :: l) i = idxI p l (i + 1) := by simp [idxI, hp']
   refine ⟨fun h => ?_, fun h0 hne => ?_⟩
   ·rw [e] at h
    rw [List.filter_cons, hp', ih.1 ⟨h.1, by omega⟩]; rfl
   ·rw [e] at hne ⊢
    obtain ⟨k, h1, h2, h3⟩ := ih.2 (by omega) hne
    refine ⟨k + 1, by simp; omega, by rw [h2]; push_cast; omega, ?_⟩
    rw [List.take_succ_cons, List.filter_cons, hp', h3]; rfl
theorem br5 {q : Int → Bool} {l : List Int} {j : Nat} {v : Int} (hv : l[j]? = some v) : (l.take (j + 1)).filter q = (l.take j).filter q ++ (if q v then [v] else []) := by
 obtain ⟨hj, e⟩ := List.getElem?_eq_some_iff.1 hv
 rw [List.take_add_one, hv, List.filter_append]
 simp [List.filter_cons]
theorem ci5 {q : Int → Bool} {l : List Int} {j : Nat} (hj : j ≤ l.length) : ((l.take j).filter q).length ≤ j := by
 have := List.length_filter_le q (l.take j)
 rw [List.length_take] at this
 omega
def rowK (q : Int → Bool) (l : List Int) (j : Nat) : List Int := (l.take j).filter q ++ l.drop ((l.take j).filter q).length
theorem cz1 {q : Int → Bool} {l : List Int} {j : Nat} (hj : j ≤ l.length) : (rowK q l j).length = l.length := by
 have := ci5 (q := q) hj
 unfold rowK; simp; omega
theorem eb2 {q : Int → Bool} {l : List Int} {j : Nat} {v : Int} (hv : l[j]? = some v) : (rowK q l j)[j]? = some v := by
 have hj := (List.getElem?_eq_some_iff.1 hv).1
 have := ci5 (q := q) (l := l) (j := j) (by omega)
 unfold rowK
 rw [List.getElem?_append_right this, List.getElem?_drop]
 rw [show ((l.take j).filter q).length + (j - ((l.take j).filter q).length) = j by omega]
 exact hv
theorem dm5 {q : Int → Bool} {l : List Int} {j : Nat} {v : Int} (hv : l[j]? = some v) (hq : q v = true) : (rowK q l j).set ((l.take j).filter q).length v = rowK q l (j + 1) := by
 have hj := (List.getElem?_eq_some_iff.1 hv).1
 have hle := ci5 (q := q) (l := l) (j := j) (by omega)
 unfold rowK
 rw [br5 hv, hq]
 simp only [if_true, List.length_append, List.length_cons, List.length_nil]
 rw [List.set_append_right _ _ (Nat.le_refl _), Nat.sub_self]
 obtain ⟨w, hw⟩ := ac4 (l := l) (i := ((l.take j).filter q).length) (by omega)
 rw [bw9 hw, List.set_cons_zero]
 simp
theorem dm6 {q : Int → Bool} {l : List Int} {j : Nat} {v : Int} (hv : l[j]? = some v) (hq : q v = false) : rowK q l j = rowK q l (j + 1) := by
 unfold rowK
 rw [br5 hv, hq]
 simp
def rowD (q : Int → Bool) (l : List Int) : List Int := l.filter q ++ List.replicate (l.length - (l.filter q).length) 0
theorem br2 (a b : List Int) : aa9 (a ++ b) = aa9 a ++ aa9 b := by simp [aa9]
theorem dr9 (n : Nat) : aa9 (List.replicate n 0) = List.replicate n (EV.int .i64 0) := by simp [aa9]
end
theorem SlV.shape {sz : Nat} {x : EV} {es : List EV} (h : SlV sz x es) : (x = .nilsl ∧ es = []) ∨ (x = .zsl ∧ es = []) ∨ ∃ s, x = .imm s es := by
 have h1 := h.els []
 have h2 := h.len
 cases x <;> simp [bh7, bo5] at h1 h2
 ·exact .inl ⟨rfl, h1⟩
 ·exact .inr (.inl ⟨rfl, h1⟩)
 ·exact .inr (.inr ⟨_, by rw [h1]⟩)
def ArgI (H : Heap) (x : EV) (l : List Int) : Prop := (x = .nilsl ∧ l = []) ∨ (x = .zsl ∧ l = []) ∨ (∃ s, x = .imm s (aa9 l)) ∨ ∃ b, x = .own b 1 0 l.length ∧ H[b]? = some (some (.row 1 (aa9 l)))
theorem cn5 {l : List Int} (h : aa9 l = []) : l = [] := by
 cases l with
 | nil => rfl
 | cons v r => simp [aa9] at h
theorem SlV.arg {x : EV} {l : List Int} (h : am3 x l) (H : Heap) : ArgI H x l := by
 rcases h.shape with ⟨rfl, he⟩ | ⟨rfl, he⟩ | ⟨s, rfl⟩
 ·exact .inl ⟨rfl, cn5 he⟩
 ·exact .inr (.inl ⟨rfl, cn5 he⟩)
 ·exact .inr (.inr (.inl ⟨s, rfl⟩))
theorem ArgI.app {H G : Heap} {x : EV} {l : List Int} (h : ArgI H x l) : ArgI (H ++ G) x l := by
 rcases h with h | h | h | ⟨b, rfl, hb⟩
 ·exact .inl h
 ·exact .inr (.inl h)
 ·exact .inr (.inr (.inl h))
 ·exact .inr (.inr (.inr ⟨b, rfl, by rw [List.getElem?_append_left (List.getElem?_eq_some_iff.1 hb).1]; exact hb⟩))
theorem ArgI.els {H : Heap} {x : EV} {l : List Int} (h : ArgI H x l) : bh7 H x = some (aa9 l) := by
 rcases h with ⟨rfl, rfl⟩ | ⟨rfl, rfl⟩ | ⟨s, rfl⟩ | ⟨b, rfl, hb⟩
 ·rfl
 ·rfl
 ·rfl
 ·simp only [bh7, hb]
  rw [if_pos ⟨trivial, by rw [ab4]; omega⟩, List.drop_zero, List.take_of_length_le (by rw [ab4]; exact Nat.le_refl _)]
def InP (k : Nat) (l : List Int) : Prop := ∀ p ∈ l, 0 ≤ p ∧ p < k
def bs5 (E : Env) (f : FuncId) (κ : IntKind) : Prop := ∀ (w : Nat → Nat) (b : Nat) (H : Heap), bp1 w → b < 256 → den E f [setE w, .int κ b] H = some (.ret (.bool (bf5 w b)), H)
def OutE (d sz : Nat) (x : EV) (es : List EV) (G : Heap) : Prop := (x = .nilsl ∧ es = [] ∧ G = []) ∨ ∃ k, G = List.replicate k none ++ [some (.row sz es)] ∧ x = .own (k + d) sz 0 es.length ∧ es ≠ []
def slE (sz : Nat) (es : List EV) : EV := if es = [] then .nilsl else .imm sz es
theorem OutE.start {d sz : Nat} : OutE d sz .nilsl [] [] := .inl ⟨rfl, rfl, rfl⟩
theorem OutE.append {d sz : Nat} {x : EV} {es : List EV} {G : Heap} (h : OutE d sz x es G) (e : EV) (bytes : Nat) (P : Heap) (hP : P.length = d) (hs : 0 < sz) (he : e.cells.length = sz) (ho : e.cells.all EV.one = true) (hl : es.length ≤ 1000000) (hb : bytes ≤ 1000000) :
  ∃ x' G', ab7 sz bytes x (.imm sz [e]) (P ++ G) = some (x', P ++ G') ∧ OutE d sz x' (es ++ [e]) G' := by
 have hall : ([e].all fun e => e.cells.length == sz && e.cells.all EV.one) = true := by simp only [List.all_cons, List.all_nil, Bool.and_true, he, beq_self_eq_true, Bool.true_and]; exact ho
 have hbb : (es.length + 1) * bytes ≤ 140737488355328 := by
  have : (es.length + 1) * bytes ≤ 1000001 * 1000000 := Nat.mul_le_mul (by omega) hb
  omega
 rcases h with ⟨rfl, rfl, rfl⟩ | ⟨k, rfl, rfl, hne⟩
 ·refine ⟨.own d sz 0 1, [some (.row sz [e])], ?_, .inr ⟨0, rfl, by simp, by simp⟩⟩
  unfold ab7
  simp only [bh7]
  rw [if_pos ⟨hs, hall⟩]
  simp only [List.length_cons, List.length_nil, Nat.zero_add, List.append_nil]
  rw [if_neg (by omega), if_pos ⟨by omega, by simpa using hbb⟩, hP]
 ·refine ⟨.own (k + 1 + d) sz 0 (es.length + 1), List.replicate (k + 1) none ++ [some (.row sz (es ++ [e]))], ?_, .inr ⟨k + 1, rfl, by simp, by simp⟩⟩
  have hg : (P ++ (List.replicate k (none : Option EB) ++ [some (EB.row sz es)]))[k + d]? = some (some (.row sz es)) := by
   rw [List.getElem?_append_right (by omega), hP, Nat.add_sub_cancel]; simp
  have hst : (P ++ (List.replicate k (none : Option EB) ++ [some (EB.row sz es)])).set (k + d) none = P ++ List.replicate (k + 1) none := by
   rw [List.set_append_right _ _ (by omega), hP, Nat.add_sub_cancel, List.set_append_right _ _ (by simp)]
   simp [List.replicate_succ']
  unfold ab7
  simp only [bh7]
  rw [if_pos ⟨hs, hall⟩]
  simp only [hg]
  rw [if_pos ⟨trivial, trivial, trivial, Nat.le_refl _, by simp; omega, by simpa using hbb⟩, hst]
  simp [hP]
  omega
theorem OutE.fin {d sz : Nat} {x : EV} {es : List EV} {G : Heap} (h : OutE d sz x es G) (H P : Heap) (hP : P.length = d) (hL : ∃ G', P = H ++ G') (ho : okL H.length es = true) : finV H x ER.ret (P ++ G) = some (.ret (slE sz es), H) := by
 obtain ⟨G', rfl⟩ := hL
 rw [List.append_assoc]
 rcases h with ⟨rfl, rfl, rfl⟩ | ⟨k, rfl, rfl, hne⟩
 ·exact aa4 rfl rfl
 ·have hg : ((H ++ G') ++ (List.replicate k (none : Option EB) ++ [some (EB.row sz es)]))[k + d]? = some (some (.row sz es)) := by
   rw [List.getElem?_append_right (by omega), hP, Nat.add_sub_cancel]; simp
  rw [List.append_assoc] at hg
  refine ca3 rfl (co3 (n := 7) (es := es) (by rw [← hP]; simp; omega) hg (by omega) ho) ?_
  unfold slE
  rw [if_neg hne]
  simp
def cg5 (M : List Bool) : List EV := M.map EV.bool
theorem dj4 (M : List Bool) : (cg5 M).length = M.length := by simp [cg5]
theorem cg4 {M : List Bool} {i : Nat} {v : Bool} (h : M[i]? = some v) : (cg5 M)[i]? = some (.bool v) := by simp [cg5, h]
def falses (k : Nat) : List Bool := List.replicate k false
structure NF.Good (n : NF) : Prop where
 k : n.sets.length ≤ 2000
 r : n.rules.length = n.sets.length
 f : n.follow.length = n.sets.length
 e : n.ends.length = n.sets.length
 fi : InP n.sets.length n.first
 ff : ∀ l ∈ n.follow, InP n.sets.length l
 rr : ∀ x ∈ n.rules, 0 ≤ x ∧ x ≤ 39
def endP (n : NF) (p : Int) : Bool := n.ends.getD p.toNat false
def rulP (n : NF) (p : Int) : Int := n.rules.getD p.toNat 0
def tagS (n : NF) (out p : Int) : Int := if endP n p = true ∧ (out < 0 ∨ rulP n p < out) then rulP n p else out
def TagI (n : NF) (l : List Int) (t : Int) : Prop := (t = -1 ∧ ∀ p ∈ l, endP n p = false) ∨ (0 ≤ t ∧ (∃ p ∈ l, endP n p = true ∧ rulP n p = t) ∧ ∀ p ∈ l, endP n p = true → t ≤ rulP n p)
theorem TagI.step {n : NF} {l : List Int} {t p : Int} (h : TagI n l t) (hp : 0 ≤ rulP n p) : TagI n (l ++ [p]) (tagS n t p) := by
 unfold tagS
 cases he : endP n p with
 | false =>
  rw [if_neg (by simp)]
  rcases h with ⟨h1, h2⟩ | ⟨h0, ⟨q, hq, h1, h2⟩, h3⟩
  ·exact .inl ⟨h1, fun q hq => by
    rcases List.mem_append.1 hq with h | h
    ·exact h2 q h
    ·simp at h; subst h; exact he⟩
  ·exact .inr ⟨h0, ⟨q, List.mem_append_left _ hq, h1, h2⟩, fun r hr hre => by
    rcases List.mem_append.1 hr with h | h
    ·exact h3 r h hre
    ·simp at h; subst h; rw [he] at hre; simp at hre⟩
 | true =>
  rcases h with ⟨h1, h2⟩ | ⟨h0, ⟨q, hq, h1, h2⟩, h3⟩
  ·rw [if_pos ⟨rfl, by omega⟩]
   exact .inr ⟨hp, ⟨p, by simp, he, rfl⟩, fun r hr hre => by
    rcases List.mem_append.1 hr with h | h
    ·rw [h2 r h] at hre; simp at hre
    ·simp at h; subst h; exact Int.le_refl _⟩
  ·by_cases hlt : rulP n p < t
   ·rw [if_pos ⟨rfl, .inr hlt⟩]
    exact .inr ⟨hp, ⟨p, by simp, he, rfl⟩, fun r hr hre => by
     rcases List.mem_append.1 hr with h | h
     ·have := h3 r h hre; omega
     ·simp at h; subst h; exact Int.le_refl _⟩
   ·rw [if_neg (by omega)]
    exact .inr ⟨h0, ⟨q, List.mem_append_left _ hq, h1, h2⟩, fun r hr hre => by
     rcases List.mem_append.1 hr with h | h
     ·exact h3 r h hre
     ·simp at h; subst h; omega⟩
theorem NF.Good.at {n : NF} (g : n.Good) {p : Int} (hp : 0 ≤ p ∧ p < n.sets.length) : n.rules[p.toNat]? = some (rulP n p) ∧ n.ends[p.toNat]? = some (endP n p) ∧ 0 ≤ rulP n p ∧ rulP n p ≤ 39 := by
 obtain ⟨r, hr⟩ := ac4 (l := n.rules) (i := p.toNat) (by rw [g.r]; omega)
 obtain ⟨e, he⟩ := ac4 (l := n.ends) (i := p.toNat) (by rw [g.e]; omega)
 have e1 : rulP n p = r := by unfold rulP; rw [List.getD, hr]; rfl
 have e2 : endP n p = e := by unfold endP; rw [List.getD, he]; rfl
 rw [e1, e2]
 exact ⟨hr, he, g.rr r (List.mem_of_getElem? hr)⟩
end Abs
