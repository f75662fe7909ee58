/- A part. -/
import Derived.Test.YtdcjkdgjlljodaaAbs12
set_option linter.all false
namespace Abs
open Go
def EOp.opds : EOp → List EOpd
 | .rng x | .next x | .toStr x | .tassert _ _ _ x | .runeStr x | .mov x | .box x | .load _ _ x | .nilchk x | .un _ x | .cvtInt _ x | .iface _ x | .faddr _ x | .field _ _ _ x | .extract x _ | .len _ x | .cap x | .clear _ _ x | .panic x => [x]
 | .pick a b c => [a, b, c]
 | .build _ ps => ps.map (·.2.2)
 | .bsl _ _ _ ps _ => ps.map (·.2)
 | .store _ a b | .bin _ a b | .cmpBool _ a b | .cmpAgg _ _ a b | .cmpNil _ _ a b | .iaddrA _ _ a b | .iaddrS _ a b | .idxA _ _ _ a b | .idxStr a b | .append _ _ a b | .appz _ _ _ a b | .copy _ a b | .idxB a b | .mm _ a b | .mkSl _ _ _ a b => [a, b]
 | .func _ a b => a ++ b
 | .slStr x lo hi | .slSl _ x lo hi | .slArr _ x lo hi => [x] ++ lo.toList ++ hi.toList
 | .slSl3 _ x lo hi mx => [x, hi, mx] ++ lo.toList
 | .call f args => f :: args
 | .mkmap => []
 | .lookup _ _ _ _ a b => [a, b]
 | .mapset _ _ a b c => [a, b, c]
theorem bt6 {ρ ρ' : EOpd → EV} {H : Heap} {op : EOp} (h : ∀ x ∈ op.opds, ρ x = ρ' x) : evOp ρ H op = evOp ρ' H op := by
 cases op <;> simp only [EOp.opds, List.mem_cons, List.not_mem_nil, or_false, forall_eq_or_imp, forall_eq, List.mem_append, List.mem_map, Option.mem_toList] at h <;> try (simp only [evOp, h]; done)
 case build zs ps =>
  have e1 : (ps.map fun p => (p.1, p.2.1, ρ p.2.2)) = ps.map fun p => (p.1, p.2.1, ρ' p.2.2) := List.map_congr_left fun p hp => by rw [h _ ⟨p, hp, rfl⟩]
  have e2 : (ps.all fun p => (ρ p.2.2).cells.all EV.one) = ps.all fun p => (ρ' p.2.2).cells.all EV.one := by
   rw [Bool.eq_iff_iff, List.all_eq_true, List.all_eq_true]
   exact ⟨fun a p hp => by rw [← h _ ⟨p, hp, rfl⟩]; exact a p hp, fun a p hp => by rw [h _ ⟨p, hp, rfl⟩]; exact a p hp⟩
  simp only [evOp, e1, e2]
 case bsl sz z len ps own =>
  have e1 : (ps.map fun p => (p.1, ρ p.2)) = ps.map fun p => (p.1, ρ' p.2) := List.map_congr_left fun p hp => by rw [h _ ⟨p, hp, rfl⟩]
  have e2 : (ps.all fun p => (ρ p.2).cells.length == sz && (ρ p.2).cells.all EV.one) = ps.all fun p => (ρ' p.2).cells.length == sz && (ρ' p.2).cells.all EV.one := by
   rw [Bool.eq_iff_iff, List.all_eq_true, List.all_eq_true]
   exact ⟨fun a p hp => by rw [← h _ ⟨p, hp, rfl⟩]; exact a p hp, fun a p hp => by rw [h _ ⟨p, hp, rfl⟩]; exact a p hp⟩
  simp only [evOp, e1, e2]
 case func f a b =>
  have e1 : a.map ρ = a.map ρ' := List.map_congr_left fun p hp => h p (.inl hp)
  have e2 : b.map ρ = b.map ρ' := List.map_congr_left fun p hp => h p (.inr hp)
  simp only [evOp, e1, e2]
 case slSl3 sz x lo hi mx =>
  have e1 : lo.map ρ = lo.map ρ' := by cases lo <;> simp_all
  simp only [evOp, e1, h x (.inl (.inl rfl)), h hi (.inl (.inr (.inl rfl))), h mx (.inl (.inr (.inr rfl)))]
 case slStr x lo hi =>
  have e1 : lo.map ρ = lo.map ρ' := by cases lo <;> simp_all
  have e2 : hi.map ρ = hi.map ρ' := by cases hi <;> simp_all
  simp only [evOp, e1, e2, h x (.inl (.inl rfl))]
 case slArr sz x lo hi =>
  have e1 : lo.map ρ = lo.map ρ' := by cases lo <;> simp_all
  have e2 : hi.map ρ = hi.map ρ' := by cases hi <;> simp_all
  simp only [evOp, e1, e2, h x (.inl (.inl rfl))]
 case slSl sz x lo hi =>
  have e1 : lo.map ρ = lo.map ρ' := by cases lo <;> simp_all
  have e2 : hi.map ρ = hi.map ρ' := by cases hi <;> simp_all
  simp only [evOp, e1, e2, h x (.inl (.inl rfl))]
def Acts (P : Program) (γ : Nat → EV) (s : aa2) (H : Heap) (op : EOp) (v : EV) (H' : Heap) : Prop :=
 match op with
 | .call f args =>
  match ev γ s f with
  | .func (.func g) first cap => CallsA P γ g (first ++ args.map (ev γ s) ++ cap) H fun er H1 => er = .ret v ∧ H1 = H'
  | _ => False
 | op => evOp (ev γ s) H op = some (v, H')
def Runs (P : Program) (γ : Nat → EV) (s : aa2) (H : Heap) (o : EOper) (v : EV) (H' : Heap) : Prop :=
 match o.guard with
 | none => Acts P γ s H o.op v H'
 | some (d, b) => (∃ t, s d = .bool t ∧ (t = b → Acts P γ s H o.op v H') ∧ (t ≠ b → v = .tup [] ∧ H' = H)) ∨ (s d = .tup [] ∧ v = .tup [] ∧ H' = H)
def EOpd.tmp : EOpd → Option Nat
 | .t n => some n
 | _ => none
def EOper.reads (o : EOper) : List Nat := (o.op.opds.filterMap EOpd.tmp) ++ (match o.guard with | some (d, _) => [d] | none => [])
theorem br6 {γ : Nat → EV} {s s' : aa2} {x : EOpd} (h : ∀ t, x.tmp = some t → s t = s' t) : ev γ s x = ev γ s' x := by
 cases x <;> first | rfl | exact h _ rfl
theorem Acts.congr {P : Program} {γ : Nat → EV} {s s' : aa2} {H H' : Heap} {op : EOp} {v : EV} (h : ∀ t ∈ op.opds.filterMap EOpd.tmp, s t = s' t) (g : Acts P γ s H op v H') : Acts P γ s' H op v H' := by
 have hx : ∀ x ∈ op.opds, ev γ s x = ev γ s' x := fun x hx => br6 fun t ht => h t (List.mem_filterMap.2 ⟨x, hx, ht⟩)
 cases op with
 | call f args =>
  simp only [Acts] at g ⊢
  rw [← hx f (by simp [EOp.opds]), ← List.map_congr_left (fun x hx' => hx x (by simp [EOp.opds, hx']))]
  exact g
 | _ =>
  simp only [Acts] at g ⊢
  rw [← bt6 hx]
  exact g
theorem Runs.congr {P : Program} {γ : Nat → EV} {s s' : aa2} {H H' : Heap} {o : EOper} {v : EV} (h : ∀ t ∈ o.reads, s t = s' t) (g : Runs P γ s H o v H') : Runs P γ s' H o v H' := by
 have h1 : ∀ t ∈ o.op.opds.filterMap EOpd.tmp, s t = s' t := fun t ht => h t (List.mem_append_left _ ht)
 unfold Runs at g ⊢
 cases hg : o.guard with
 | none => rw [hg] at g; exact Acts.congr h1 g
 | some p =>
  obtain ⟨d, b⟩ := p
  rw [hg] at g
  rcases g with ⟨t, g1, g2, g3⟩ | ⟨g1, g2⟩
  ·exact .inl ⟨t, by rw [← h d (by simp [EOper.reads, hg])]; exact g1, fun e => Acts.congr h1 (g2 e), g3⟩
  ·exact .inr ⟨by rw [← h d (by simp [EOper.reads, hg])]; exact g1, g2⟩
def stS (val : Nat → EV) (S : Nat → Bool) : Nat → List EOper → aa2 → aa2
 | _, [], s => s
 | i, o :: l, s => stS val S (i + 1) l (if S i then putA s o.dst (val i) else s)
theorem an8 {s : aa2} {d : Option Nat} {v : EV} {t : Nat} (h : d ≠ some t) : putA s d v t = s t := by
 cases d with
 | none => rfl
 | some d => simp [putA, upd]; intro e; exact absurd (by rw [e]) h
theorem au8 {val : Nat → EV} {S : Nat → Bool} {t : Nat} : ∀ (l : List EOper) (i : Nat) (s : aa2), (∀ (k : Nat) (o : EOper), l[k]? = some o → S (i + k) = true → o.dst ≠ some t) → stS val S i l s t = s t
 | [], _, _, _ => rfl
 | o :: l, i, s, h => by
  rw [stS, au8 l (i + 1) _ fun k o' hk hs => h (k + 1) o' (by simpa using hk) (by rw [← hs]; congr 1; omega)]
  split
  ·rename_i hi
   exact an8 (h 0 o rfl (by simpa using hi))
  ·rfl
theorem bk4 {val : Nat → EV} {S : Nat → Bool} {t : Nat} : ∀ (l : List EOper) (i j : Nat) (s : aa2) (o : EOper), l[j]? = some o → o.dst = some t → S (i + j) = true →
  (∀ (k : Nat) (o' : EOper), j < k → l[k]? = some o' → S (i + k) = true → o'.dst ≠ some t) → stS val S i l s t = val (i + j)
 | [], _, _, _, _, h, _, _, _ => by simp at h
 | o' :: l, i, 0, s, o, h, hd, hS, hl => by
  simp only [List.getElem?_cons_zero, Option.some.injEq] at h
  subst h
  simp only [Nat.add_zero] at hS ⊢
  rw [stS, au8 l (i + 1) _ fun k o'' hk hs => hl (k + 1) o'' (by omega) (by simpa using hk) (by rw [← hs]; congr 1; omega), if_pos hS, hd]
  simp [putA, upd]
 | o' :: l, i, j + 1, s, o, h, hd, hS, hl => by
  rw [stS, bk4 l (i + 1) j _ o (by simpa using h) hd (by rw [← hS]; congr 1; omega) fun k o'' hk hk' hs => hl (k + 1) o'' (by omega) (by simpa using hk') (by rw [← hs]; congr 1; omega)]
  congr 1
  omega
def EOp.eff : EOp → Bool
 | .store _ _ _ | .box _ | .append _ _ _ _ | .appz _ _ _ _ _ | .copy _ _ _ | .mkSl _ _ _ _ _ | .call _ _ | .panic _ | .mkmap | .mapset _ _ _ _ _ | .rng _ | .next _ | .slArr _ _ _ _ | .clear _ _ _ => true
 | .bsl _ _ _ _ own => own
 | _ => false
def EOp.looks : EOp → Bool
 | .load _ _ _ => true
 | .lookup _ _ _ _ _ _ => true
 | .toStr _ => true
 | op => op.eff
theorem bn3 {ρ : EOpd → EV} {H H' : Heap} {op : EOp} {v : EV} (he : op.eff = false) (h : evOp ρ H op = some (v, H')) : H' = H := by
 cases op <;> simp [EOp.eff] at he <;> simp only [evOp] at h
 all_goals first
  | (simp only [Option.some.injEq, Prod.mk.injEq] at h; exact h.2.symm)
  | (simp only [Option.map_eq_some_iff, Prod.mk.injEq] at h; obtain ⟨_, _, _, h⟩ := h; exact h.symm)
  | (split at h <;> simp only [Option.some.injEq, Prod.mk.injEq, reduceCtorEq] at h <;> exact h.2.symm)
  | (split at h <;> first | (split at h <;> simp only [Option.some.injEq, Prod.mk.injEq, reduceCtorEq] at h <;> exact h.2.symm) | (simp only [Option.some.injEq, Prod.mk.injEq, reduceCtorEq] at h; done))
  | (split at h <;> first
    | (simp only [Option.map_eq_some_iff, Prod.mk.injEq] at h; obtain ⟨_, _, _, h⟩ := h; exact h.symm)
    | (simp only [reduceCtorEq] at h; done)
    | (split at h <;> first | (simp only [Option.map_eq_some_iff, Prod.mk.injEq] at h; obtain ⟨_, _, _, h⟩ := h; exact h.symm) | (simp only [reduceCtorEq] at h; done)))
  | skip
 ·subst he
  split at h
  ·simp only [Bool.false_eq_true, if_false, Option.some.injEq, Prod.mk.injEq] at h
   exact h.2.symm
  ·simp at h
theorem cf8 {ρ : EOpd → EV} {H H2 : Heap} {op : EOp} {v : EV} (he : op.looks = false) (h : evOp ρ H op = some (v, H)) : evOp ρ H2 op = some (v, H2) := by
 cases op <;> simp [EOp.looks, EOp.eff] at he <;> simp only [evOp] at h ⊢
 all_goals first
  | (simp only [Option.some.injEq, Prod.mk.injEq, and_true] at h ⊢; exact h)
  | (simp only [Option.map_eq_some_iff, Prod.mk.injEq, and_true] at h ⊢; exact h)
  | (split at h <;> simp_all; done)
  | skip
 ·split at h
  ·rename_i h1
   rw [if_pos h1]
   split at h
   ·simp only [Option.some.injEq, Prod.mk.injEq, and_true] at h ⊢; exact h
   ·simp at h
  ·simp at h
 ·subst he
  split at h
  ·rename_i h1
   rw [if_pos h1]
   simp only [Bool.false_eq_true, if_false, Option.some.injEq, Prod.mk.injEq, and_true] at h ⊢
   exact h
  ·simp at h
def ag8 (a b : EOper) : Bool :=
 (match a.dst with | some d => b.reads.contains d || b.dst == some d | none => false) || (match b.dst with | some d => a.reads.contains d | none => false)
def cp4 (l : List EOper) (deps pre : List (List Nat)) (chg : List Bool) : Bool :=
 let at_ (i : Nat) : EOper := l.getD i default
 let pr (i : Nat) : List Nat := pre.getD i []
 let ch (i : Nat) : Bool := chg.getD i false
 (List.range l.length).all fun i =>
  (deps.getD i []).all (· < i) &&
  (pr i).all (fun j => (deps.getD i []).any fun k => k == j || (pr k).contains j) &&
  (List.range i).all (fun j =>
   (!ag8 (at_ j) (at_ i) || (pr i).contains j) &&
   (!((at_ j).op.eff && (at_ i).op.eff) || (pr i).contains j) &&
   (!((ch j && (at_ i).op.looks) || (ch i && (at_ j).op.looks) || (ch i && ch j)) || (pr i).contains j))
def wdr (P : Program) (γ : Nat → EV) (Q : AX → aa2 → Heap → Prop) : List (EOper × Bool) → aa2 → Heap → Prop
 | [], s, H => Q .normal s H
 | (o, chg) :: rest, s, H => ∃ v H', Runs P γ s H o v H' ∧ (chg = false → H' = H) ∧ wdr P γ Q rest (putA s o.dst v) H'
theorem bx4 {P : Program} {γ : Nat → EV} {Q : AX → aa2 → Heap → Prop} : ∀ (l : List (EOper × Bool)) (s : aa2) (H : Heap), wdr P γ Q l s H →
  ∃ (val : Nat → EV) (hs : Nat → Heap), hs 0 = H ∧ (∀ (i : Nat) (o : EOper) (c : Bool), l[i]? = some (o, c) → Runs P γ (stS val (fun j => decide (j < i)) 0 (l.map (·.1)) s) (hs i) o (val i) (hs (i + 1)) ∧ (c = false → hs (i + 1) = hs i)) ∧
   Q .normal (stS val (fun _ => true) 0 (l.map (·.1)) s) (hs l.length)
 | [], s, H, h => ⟨fun _ => .undef, fun _ => H, rfl, by simp, h⟩
 | (o, c) :: l, s, H, h => by
  obtain ⟨v, H', h1, h2, h3⟩ := h
  obtain ⟨val, hs, g0, g1, g2⟩ := bx4 l _ _ h3
  have shift : ∀ (S : Nat → Bool) (l : List EOper) (i : Nat) (s : aa2), stS (fun j => match j with | 0 => v | j + 1 => val j) S (i + 1) l s = stS val (fun j => S (j + 1)) i l s := by
   intro S l
   induction l with
   | nil => intro i s; rfl
   | cons o' l ih => intro i s; simp only [stS]; rw [ih]
  refine ⟨fun j => match j with | 0 => v | j + 1 => val j, fun j => match j with | 0 => H | j + 1 => hs j, rfl, fun i o' c' hi => ?_, ?_⟩
  ·cases i with
   | zero =>
    simp only [List.getElem?_cons_zero, Option.some.injEq, Prod.mk.injEq] at hi
    obtain ⟨rfl, rfl⟩ := hi
    have none_ : stS (fun j => match j with | 0 => v | j + 1 => val j) (fun j => decide (j < 0)) 0 (((o, c) :: l).map (·.1)) s = s := by
     have : ∀ (l : List EOper) (i : Nat) (s : aa2), stS (fun j => match j with | 0 => v | j + 1 => val j) (fun j => decide (j < 0)) i l s = s := by
      intro l
      induction l with
      | nil => intro i s; rfl
      | cons o' l ih => intro i s; simp only [stS, Nat.not_lt_zero, decide_false, Bool.false_eq_true, if_false]; exact ih _ _
     exact this _ _ _
    rw [none_]
    simp only [g0]
    exact ⟨h1, h2⟩
   | succ i =>
    have := g1 i o' c' (by simpa using hi)
    simp only [List.map_cons, stS, Nat.zero_lt_succ, decide_true, if_true]
    rw [shift]
    simpa using this
  ·simp only [List.map_cons, stS, if_true]
   rw [shift]
   simpa using g2
def ae0 (ops : Array Oper) : List (List Nat) := ops.toList.map fun o => (o.after.toList.filter (Region.binds .any)).map (·.on)
theorem bb4 {val : Nat → EV} {S T : Nat → Bool} {t : Nat} : ∀ (l : List EOper) (i : Nat) (s s' : aa2), (∀ (k : Nat) (o : EOper), l[k]? = some o → o.dst = some t → S (i + k) = T (i + k)) → s t = s' t →
  stS val S i l s t = stS val T i l s' t
 | [], _, _, _, _, h => h
 | o :: l, i, s, s', h, hs => by
  simp only [stS]
  refine bb4 l (i + 1) _ _ (fun k o' hk hd => by have := h (k + 1) o' (by simpa using hk) hd; rwa [show i + (k + 1) = i + 1 + k by omega] at this) ?_
  by_cases hd : o.dst = some t
  ·have := h 0 o rfl hd
   rw [Nat.add_zero] at this
   rw [this]
   split
   ·rw [hd]; simp [putA, upd]
   ·exact hs
  ·have e1 : ∀ (u : aa2), (if S i = true then putA u o.dst (val i) else u) t = u t := fun u => by split <;> simp [an8 hd]
   have e2 : ∀ (u : aa2), (if T i = true then putA u o.dst (val i) else u) t = u t := fun u => by split <;> simp [an8 hd]
   rw [e1, e2]; exact hs
def hpS (hs : Nat → Heap) (chg : Nat → Bool) (S : Nat → Bool) : Nat → Heap
 | 0 => hs 0
 | k + 1 => if S k && chg k then hs (k + 1) else hpS hs chg S k
section
variable {P : Program} {γ : Nat → EV} {n : Nat} {nb : NB} {φ φ0 : Nat → Nat} {I I0 : Nat → Prop} {s : aa2} {H H0 : Heap} {a : Act} {w w0 : World}
theorem bl7 {op : EOp} (h : op.eff = true) : op.looks = true := by
 cases op <;> first | rfl | exact h
theorem Runs.blind {o : EOper} {v : EV} {H1 H2 : Heap} (ho : o.op.looks = false) (h : Runs P γ s H o v H1) : Runs P γ s H2 o v H2 := by
 have acts : Acts P γ s H o.op v H1 → Acts P γ s H2 o.op v H2 := by
  intro g
  cases hop : o.op with
  | call f args => rw [hop] at ho; simp [EOp.looks, EOp.eff] at ho
  | _ =>
   rw [hop] at ho g
   simp only [Acts] at g ⊢
   have e := bn3 (by first | rfl | simpa [EOp.looks] using ho) g
   subst e
   exact cf8 ho g
 unfold Runs at h ⊢
 split
 ·rename_i hg; rw [hg] at h; exact acts h
 ·rename_i d b hg
  rw [hg] at h
  rcases h with ⟨t, h1, h2, h3⟩ | ⟨h1, h2, _⟩
  ·exact .inl ⟨t, h1, fun e => acts (h2 e), fun e => ⟨(h3 e).1, rfl⟩⟩
  ·exact .inr ⟨h1, h2, rfl⟩
theorem cj8 {op : EOp} {v : EV} {H' : Heap} {Qp : EV → Heap → Prop} (h : Acts P γ s H op v H') : wop P γ Qp (ev γ s) H op fun v1 H1 => v1 = v ∧ H1 = H' := by
 cases op with
 | call f args =>
  simp only [Acts] at h
  unfold wop
  simp only
  split at h
  ·rename_i g first cap hf
   rw [hf]
   exact ⟨_, h, fun er H1 he => by obtain ⟨rfl, rfl⟩ := he; exact ⟨rfl, rfl⟩⟩
  ·exact h.elim
 | panic x => simp [Acts, evOp] at h
 | _ =>
  simp only [Acts] at h
  exact cc9 h ⟨rfl, rfl⟩
theorem cd8 {Q : AX → aa2 → Heap → Prop} {own : List Nat} {ops : Array Oper} {i : Nat} {o : Oper} {eo : EOper} (hi : ops[i]? = some o) (heo : ai5 P n own ops o = some eo)
  (hev : Evo φ0 I0 H0 w0 φ I H w) (hR : Rel γ n nb φ I s H a w) {v : EV} {H' : Heap} (h : Runs P γ s H eo v H') {K : Act → World → Prop}
  (hK : ∀ φ' I' a' w', Evo φ0 I0 H0 w0 φ' I' H' w' → Rel γ n nb φ' I' (putA s eo.dst v) H' a' w' → K a' w') :
  wpOp P ops (Post γ n nb φ0 I0 H0 w0 Q) i K a w := by
 obtain ⟨⟨b, hres⟩, hdst, hd, hg⟩ := ah7 heo
 have run : Acts P γ s H eo.op v H' → o.wp P a w K (Post γ n nb φ0 I0 H0 w0 Q) := by
  intro h
  have h1 := bk2 (Q := Q) hR hres hd (cj8 h)
  refine bl2 (fun e a' w' hp => Post.trans hev hp) (Oper.wp_mono (fun a' w' ⟨φ', I', H1, v1, e1, e2, e3, e4⟩ => ?_) h1)
  subst e3 e4
  exact hK φ' I' a' w' (hev.trans e1) (by rw [hdst]; exact e2)
 unfold wpOp
 rw [hi]
 simp only
 unfold Runs at h
 cases ho : o.guard with
 | none =>
  rw [ho] at hg
  rw [hg] at h
  rw [if_pos (by simp [Region.wanted, ho])]
  exact .inl (run h)
 | some p =>
  obtain ⟨j, bb⟩ := p
  rw [ho] at hg
  obtain ⟨d, hj, hdn, hg⟩ := hg
  rw [hg] at h
  rcases h with ⟨t, ht, h1, h2⟩ | ⟨ht, rfl, rfl⟩
  case inr =>
   have hsl := hR.slots d
   rw [ht] at hsl
   rw [if_neg (by simp [Region.wanted, ho, bo2 hj hdn hR.sz hsl])]
   exact hK φ I _ w hev (by rw [hdst]; exact hR.put (.refl ..) hR.heap hd bx8)
  have hsl := hR.slots d
  rw [ht] at hsl
  generalize hva : a.tmps.getD d Go.undef = vd at hsl
  cases hsl
  have hy : yielded ops a.tmps j = some t := by
   have hlt : d < a.tmps.size := by rw [hR.sz]; exact hdn
   have hv2 : a.tmps[d] = .bool t := by simpa [hlt] using hva
   simp [yielded, hj, hlt, hv2]
  by_cases e : t = bb
  ·subst e
   rw [if_pos (by simp [Region.wanted, ho, hy])]
   exact .inl (run (h1 rfl))
  ·rw [if_neg (by simp [Region.wanted, ho, hy, e])]
   obtain ⟨rfl, rfl⟩ := h2 e
   exact hK φ I _ w hev (by rw [hdst]; exact hR.put (.refl ..) hR.heap hd bx8)
theorem Rel.drew (hR : Rel γ n nb φ I s H a w) : Rel γ n nb φ I s H a { w with drawn := w.drawn + 1 } := by
 have mono : ∀ {N : Nat} {x : EV} {v : Value}, RV φ N I w x v → RV φ N I { w with drawn := w.drawn + 1 } x v := fun h =>
  RV.mono (w := w) (w' := { w with drawn := w.drawn + 1 }) (Nat.le_refl _) (fun _ _ => rfl) (fun _ h => h) (fun _ _ => rfl) (fun _ _ _ _ h => h) h
 exact ⟨hR.sz, fun t => mono (hR.slots t), ⟨fun g => mono (hR.heap.glob g), fun b x hb => RB.mono (w := w) (w' := { w with drawn := w.drawn + 1 }) (Nat.le_refl _) (fun _ _ => rfl) (fun _ h => h) (fun _ _ => rfl) (fun _ _ _ _ h => h) rfl (hR.heap.blk b x hb),
  hR.heap.inj, hR.heap.imm, hR.heap.dis, hR.heap.lt⟩, hR.defers⟩
theorem Evo.drew : Evo φ I H w φ I H { w with drawn := w.drawn + 1 } :=
 ⟨Nat.le_refl _, fun _ _ => rfl, fun _ _ _ => rfl, fun _ h => h, fun _ _ => rfl, Nat.le_refl _, fun _ h => .inl h, fun _ h => .inl h, rfl, rfl, rfl, fun _ _ => rfl⟩
set_option maxHeartbeats 2000000 in
theorem di2 {Q : AX → aa2 → Heap → Prop} {own : List Nat} {ops : Array Oper} {l : List EOper} {pre : List (List Nat)} {chg : List Bool}     (hl : ops.toList.mapM (ai5 P n own ops) = some l) (hok : cp4 l (ae0 ops) pre chg = true) (hce : ∀ i, chg.getD i false = true → (l.getD i default).op.eff = true) (hcl : chg.length = l.length)
  (hR : Rel γ n nb φ I s H a w) (h : wdr P γ Q (l.zip chg) s H) : wpAny P .any ops (Post γ n nb φ I H w Q) ops.size (Array.replicate ops.size false) a { w with drawn := w.drawn + 1 } := by
 obtain ⟨val, hs, g0, g1, g2⟩ := bx4 _ _ _ h
 have hzip : (l.zip chg).map (·.1) = l := by rw [List.map_fst_zip]; omega
 have hzl : (l.zip chg).length = l.length := by simp [hcl]
 rw [hzip] at g1 g2
 rw [hzl] at g2
 obtain ⟨ml, mres⟩ := ao1 hl
 have hsz : l.length = ops.size := by simpa using ml
 let ch : Nat → Bool := fun i => chg.getD i false
 have hch0 : ∀ c, ch c = false → c < l.length → hs (c + 1) = hs c := by
  intro c hc hlt
  have hlt2 : c < chg.length := by omega
  have hcc : chg[c] = false := by simpa [ch, hlt2] using hc
  exact (g1 c l[c] chg[c] (by rw [List.getElem?_zip_eq_some]; exact ⟨by simp [hlt], by simp [hlt2]⟩)).2 hcc
 have text : ∀ i (hi : i < l.length), Runs P γ (stS val (fun j => decide (j < i)) 0 l s) (hs i) l[i] (val i) (hs (i + 1)) := fun i hi =>
  (g1 i l[i] (chg[i]'(by omega)) (by rw [List.getElem?_zip_eq_some]; exact ⟨by simp [hi], by simp [hcl, hi]⟩)).1
 have hok' := List.all_eq_true.1 hok
 have ok1 : ∀ i, i < l.length → (∀ k ∈ (ae0 ops).getD i [], k < i) ∧ (∀ j ∈ pre.getD i [], ∃ k ∈ (ae0 ops).getD i [], k = j ∨ j ∈ pre.getD k []) ∧
   ∀ j, j < i → (ag8 (l.getD j default) (l.getD i default) = true → j ∈ pre.getD i []) ∧
    ((ch j = true ∧ (l.getD i default).op.looks = true) ∨ (ch i = true ∧ (l.getD j default).op.looks = true) ∨ (ch i = true ∧ ch j = true) → j ∈ pre.getD i []) := by
  intro i hi
  have := hok' i (List.mem_range.2 hi)
  simp only [Bool.and_eq_true, List.all_eq_true, decide_eq_true_eq, List.any_eq_true, Bool.or_eq_true, beq_iff_eq, List.contains_iff_mem, List.mem_range, Bool.not_eq_true', Bool.and_eq_false_iff, Bool.or_eq_false_iff] at this
  obtain ⟨⟨a1, a2⟩, a3⟩ := this
  refine ⟨a1, a2, fun j hj => ⟨fun hme => ?_, fun hcc => ?_⟩⟩
  ·rcases (a3 j hj).1.1 with h | h
   ·rw [hme] at h; simp at h
   ·exact h
  ·rcases (a3 j hj).2 with h | h
   ·exfalso
    rcases hcc with ⟨c1, c2⟩ | ⟨c1, c2⟩ | ⟨c1, c2⟩
    ·rcases h.1.1 with h | h
     ·rw [show chg.getD j false = true from c1] at h; simp at h
     ·rw [c2] at h; simp at h
    ·rcases h.1.2 with h | h
     ·rw [show chg.getD i false = true from c1] at h; simp at h
     ·rw [c2] at h; simp at h
    ·rcases h.2 with h | h
     ·rw [show chg.getD i false = true from c1] at h; simp at h
     ·rw [show chg.getD j false = true from c2] at h; simp at h
   ·exact h
 have preIn : ∀ (S : Nat → Bool), (∀ i, i < l.length → S i = true → ∀ k ∈ (ae0 ops).getD i [], S k = true) → ∀ i, i < l.length → (∀ k ∈ (ae0 ops).getD i [], S k = true) → ∀ j ∈ pre.getD i [], S j = true := by
  intro S hcl' i
  induction i using Nat.strongRecOn with
  | _ i ih =>
   intro hi hd j hj
   obtain ⟨k, hk, hkj⟩ := (ok1 i hi).2.1 j hj
   have hki := (ok1 i hi).1 k hk
   rcases hkj with rfl | hkj
   ·exact hd k hk
   ·exact ih k hki (by omega) (hcl' k (by omega) (hd k hk)) j hkj
 have hgetD : ∀ i (hi : i < l.length), l.getD i default = l[i] := fun i hi => by simp [hi]
 have depsEq : ∀ i (hi : i < ops.size), (ae0 ops).getD i [] = (ops[i].after.toList.filter (Region.binds .any)).map (·.on) := fun i hi => by simp [ae0, hi]
 obtain ⟨cg, hcg⟩ : ∃ cg : Nat → Bool, ∀ c, cg c = (decide (c < l.length) && ch c) := ⟨_, fun _ => rfl⟩
 let eta : (Nat → Bool) → Heap := fun S => hpS hs cg S l.length
 have hpAt : ∀ (S : Nat → Bool) (i : Nat), i ≤ l.length → (∀ c, c < l.length → ch c = true → S c = decide (c < i)) → eta S = hs i := by
  intro S i hi hS
  -- beyond the region the heaps do not matter
  have key : ∀ k, k ≤ l.length → hpS hs cg S k = hs (min k i) := by
   intro k
   induction k with
   | zero => intro _; simp [hpS]
   | succ k ih =>
    intro hk
    have ih' := ih (by omega)
    simp only [hpS]
    rcases Bool.eq_false_or_eq_true (ch k) with hck | hck
    case inr =>
     have hck' : cg k = false := by rw [hcg, hck]; simp
     simp only [hck', Bool.and_false, Bool.false_eq_true, if_false, ih']
     by_cases hki : k < i
     ·rw [Nat.min_eq_left (by omega), Nat.min_eq_left (by omega), hch0 k hck (by omega)]
     ·rw [Nat.min_eq_right (by omega), Nat.min_eq_right (by omega)]
    case inl =>
     have h1 := hS k (by omega) hck
     have h2 : cg k = true := by rw [hcg, hck]; simp; omega
     by_cases hki : k < i
     ·simp only [h1, h2, hki, decide_true, Bool.and_true, if_true]; rw [Nat.min_eq_left (by omega)]
     ·simp only [h1, hki, decide_false, Bool.false_and, Bool.false_eq_true, if_false, ih']
      rw [Nat.min_eq_right (by omega), Nat.min_eq_right (by omega)]
  have := key l.length (Nat.le_refl _)
  rwa [Nat.min_eq_right hi] at this
 -- one operation, whatever stands behind it already
 have one : ∀ (S : Nat → Bool), (∀ i, i < l.length → S i = true → ∀ k ∈ (ae0 ops).getD i [], S k = true) → ∀ i (hi : i < l.length), S i = false → (∀ k ∈ (ae0 ops).getD i [], S k = true) →
   Runs P γ (stS val S 0 l s) (eta S) l[i] (val i) (eta fun j => S j || j == i) ∧
   putA (stS val S 0 l s) l[i].dst (val i) = stS val (fun j => S j || j == i) 0 l s := by
  intro S hSc i hi hSi hSd
  have before : ∀ j, j < i → ag8 l[j]! l[i]! = true → S j = true := by
   intro j hj hme
   have hj' : j < l.length := by omega
   exact preIn S hSc i hi hSd j (((ok1 i hi).2.2 j hj).1 (by rw [hgetD j hj', hgetD i hi]; simpa [hj', hi] using hme))
  have behind : ∀ j, i < j → j < l.length → i ∈ pre.getD j [] → S j = false := by
   intro j hj hj' hp
   cases hSj : S j with
   | false => rfl
   | true =>
    have := preIn S hSc j hj' (hSc j hj' hSj) i hp
    rw [hSi] at this; simp at this
  have meets_behind : ∀ j (hj : i < j) (hj' : j < l.length), ag8 l[i] l[j] = true → S j = false := fun j hj hj' hme =>
   behind j hj hj' (((ok1 j hj').2.2 i hj).1 (by rw [hgetD j hj', hgetD i hi]; exact hme))
  have slots : ∀ t ∈ l[i].reads, stS val (fun j => decide (j < i)) 0 l s t = stS val S 0 l s t := by
   intro t ht
   refine bb4 l 0 s s (fun k o hk hd => ?_) rfl
   rw [Nat.zero_add]
   have hkl := aa3 hk
   have hok : l[k] = o := by simpa [hkl] using hk
   rcases Nat.lt_trichotomy k i with hlt | rfl | hgt
   ·rw [before k hlt (by simp [hkl, hi, ag8, hok, hd, ht])]; simp [hlt]
   ·rw [hSi]; simp
   ·rw [meets_behind k hgt hkl (by simp [ag8, hok, hd, ht])]; simp; omega
  have heaps : l[i].op.looks = true ∨ ch i = true → eta S = hs i ∧ eta (fun j => S j || j == i) = hs (i + 1) := by
   intro hlk
   have hS : ∀ c, c < l.length → ch c = true → c ≠ i → S c = decide (c < i) := by
    intro c hc hcc hci
    rcases Nat.lt_or_gt_of_ne hci with hlt | hgt
    ·rw [preIn S hSc i hi hSd c (((ok1 i hi).2.2 c hlt).2 (by
      rw [hgetD i hi, hgetD c hc]
      rcases hlk with h | h
      ·exact .inl ⟨hcc, h⟩
      ·exact .inr (.inr ⟨h, hcc⟩)))]
     simp [hlt]
    ·rw [behind c hgt hc (((ok1 c hc).2.2 i hgt).2 (by
      rw [hgetD i hi, hgetD c hc]
      rcases hlk with h | h
      ·exact .inr (.inl ⟨hcc, h⟩)
      ·exact .inl ⟨h, by
        have := hce c hcc
        rw [hgetD c hc] at this
        exact bl7 this⟩))]
     simp; omega
   refine ⟨hpAt S i (by omega) fun c hc hcc => ?_, hpAt _ (i + 1) (by omega) fun c hc hcc => ?_⟩
   ·by_cases hci : c = i
    ·subst hci; rw [hSi]; simp
    ·exact hS c hc hcc hci
   ·by_cases hci : c = i
    ·subst hci; simp
    ·have hb : (c == i) = false := by simp [hci]
     rw [hS c hc hcc hci, hb, Bool.or_false, decide_eq_decide]; omega
  refine ⟨?_, ?_⟩
  ·have ht := (text i hi).congr slots
   by_cases hlk : l[i].op.looks = true ∨ ch i = true
   ·obtain ⟨e1, e2⟩ := heaps hlk
    rw [e1, e2]; exact ht
   ·have h1 : l[i].op.looks = false := (Bool.eq_false_or_eq_true l[i].op.looks).elim (fun h => absurd (.inl h) hlk) fun h => h
    have h2 : ch i = false := (Bool.eq_false_or_eq_true (ch i)).elim (fun h => absurd (.inr h) hlk) fun h => h
    have e : eta (fun j => S j || j == i) = eta S := by
     have h3 : cg i = false := by rw [hcg, h2]; simp
     have : ∀ k, hpS hs cg (fun j => S j || j == i) k = hpS hs cg S k := by
      intro k
      induction k with
      | zero => rfl
      | succ k ih =>
       simp only [hpS, ih]
       by_cases hki : k = i
       ·subst hki; simp [h3]
       ·simp [hki]
     exact this _
    rw [e]
    exact ht.blind h1
  ·funext t
   by_cases hd : l[i].dst = some t
   ·rw [hd]
    have := bk4 (val := val) (S := fun j => S j || j == i) (t := t) l 0 i s l[i] (by simp [hi]) hd (by simp) (fun k o' hk hk' hSk hd' => by
     have hkl := aa3 hk'
     have hok : l[k] = o' := by simpa [hkl] using hk'
     simp only [Nat.zero_add, Bool.or_eq_true, beq_iff_eq] at hSk
     rcases hSk with hSk | hSk
     ·rw [meets_behind k hk hkl (by simp [ag8, hok, hd, hd'])] at hSk; simp at hSk
     ·omega)
    rw [this]
    simp [putA, upd]
   ·rw [an8 hd]
    refine bb4 l 0 s s (fun k o hk hd' => ?_) rfl
    rw [Nat.zero_add]
    by_cases hki : k = i
    ·subst hki
     have hok : l[k] = o := by simpa [hi] using hk
     rw [hok] at hd
     exact absurd hd' hd
    ·simp [hki]
 have whole : ∀ (S : Nat → Bool), (∀ i, i < l.length → S i = true) → stS val S 0 l s = stS val (fun _ => true) 0 l s ∧ eta S = hs l.length := by
  intro S hS
  refine ⟨?_, hpAt S l.length (Nat.le_refl _) fun c hc _ => by rw [hS c hc]; simp [hc]⟩
  funext t
  refine bb4 l 0 s s (fun k o hk _ => ?_) rfl
  rw [Nat.zero_add]
  exact hS k (aa3 hk)
 have main : ∀ (fuel : Nat) (listed : Array Bool) (φ' : Nat → Nat) (I' : Nat → Prop) (a' : Act) (w' : World), listed.size = l.length → ((List.range l.length).filter fun i => !listed.getD i false).length = fuel →
   (∀ i, i < l.length → listed.getD i false = true → ∀ k ∈ (ae0 ops).getD i [], listed.getD k false = true) →
   Evo φ I H w φ' I' (eta fun i => listed.getD i false) w' → Rel γ n nb φ' I' (stS val (fun i => listed.getD i false) 0 l s) (eta fun i => listed.getD i false) a' w' →
   wpAny P .any ops (Post γ n nb φ I H w Q) fuel listed a' w' := by
  intro fuel
  induction fuel with
  | zero =>
   intro listed φ' I' a' w' hlsz hcount hSc hev hRel
   have hall : ∀ i, i < l.length → listed.getD i false = true := by
    intro i hi
    cases hx : listed.getD i false with
    | true => rfl
    | false =>
     have : i ∈ (List.range l.length).filter fun i => !listed.getD i false := List.mem_filter.2 ⟨List.mem_range.2 hi, by rw [hx]; rfl⟩
     rw [List.length_eq_zero_iff.1 hcount] at this
     simp at this
   obtain ⟨e1, e2⟩ := whole _ hall
   rw [e2] at hev
   rw [e1, e2] at hRel
   refine ⟨?_, φ', I', _, _, .normal, hev, hRel, .normal, g2⟩
   unfold Region.ready
   rw [List.filter_eq_nil_iff]
   intro i hi
   have hi' : i < l.length := by rw [hsz]; exact List.mem_range.1 hi
   have := hall i hi'
   have hlt : i < listed.size := by omega
   have hx : listed[i] = true := by simpa [hlt] using this
   simp [hlt, hx]
  | succ fuel ih =>
   intro listed φ' I' a' w' hlsz hcount hSc hev hRel
   refine ⟨fun hnil => ?_, fun i hi => ?_⟩
   ·-- nothing is ready: but then the first that isn't listed would be
    exfalso
    have hne : (List.range l.length).filter (fun i => !listed.getD i false) ≠ [] := by
     intro e; rw [e] at hcount; simp at hcount
    obtain ⟨i0, hi0⟩ := List.exists_mem_of_ne_nil _ hne
    have hex : ∃ i, i < l.length ∧ listed.getD i false = false := by
     have := List.mem_filter.1 hi0
     exact ⟨i0, List.mem_range.1 this.1, by simpa using this.2⟩
    obtain ⟨i, ⟨hi, hx⟩, hmin⟩ := exists_least hex
    have : i ∈ Region.ready .any ops listed := by
     refine List.mem_filter.2 ⟨List.mem_range.2 (by omega), ?_⟩
     have hlt : i < listed.size := by omega
     have hx' : listed[i] = false := by simpa [hlt] using hx
     have hio : i < ops.size := by omega
     simp only [hlt, Array.getD_eq_getD_getElem?, Array.getElem?_eq_getElem, Option.getD_some, hx', Bool.not_false, hio, Option.map_some, Bool.true_and]
     rw [Array.all_eq_true']
     intro e he
     cases hb : Region.binds .any e with
     | false => rfl
     | true =>
      have hmem : e.on ∈ (ae0 ops).getD i [] := by
       rw [depsEq i hio]
       exact List.mem_map.2 ⟨e, List.mem_filter.2 ⟨by simpa using he, hb⟩, rfl⟩
      have hlt2 := (ok1 i hi).1 _ hmem
      cases hl2 : listed.getD e.on false with
      | true => simpa using hl2
      | false =>
       have := hmin e.on ⟨by omega, hl2⟩
       omega
    rw [hnil] at this
    simp at this
   ·have hmem := List.mem_filter.1 hi
    have hio : i < ops.size := List.mem_range.1 hmem.1
    have hil : i < l.length := by omega
    have hlt : i < listed.size := by omega
    obtain ⟨hc1, hc2⟩ := Bool.and_eq_true_iff.1 hmem.2
    have hSi : listed.getD i false = false := by
     have : listed[i] = false := by simpa [hlt] using hc1
     simp [hlt, this]
    have hSd : ∀ k ∈ (ae0 ops).getD i [], listed.getD k false = true := by
     intro k hk
     rw [depsEq i hio] at hk
     obtain ⟨e, he, rfl⟩ := List.mem_map.1 hk
     obtain ⟨he1, he2⟩ := List.mem_filter.1 he
     simp only [hio, Array.getElem?_eq_getElem, Option.map_some, Option.getD_some, Array.all_eq_true'] at hc2
     have := hc2 e (by simpa using he1)
     rw [he2] at this
     simpa using this
    obtain ⟨r1, r2⟩ := one (fun i => listed.getD i false) hSc i hil hSi hSd
    have heo := mres i ops[i] l[i] (by simp [hio]) (by simp [hil])
    have hnew : ∀ j, (listed.setIfInBounds i true).getD j false = (listed.getD j false || j == i) := by
     intro j
     simp only [Array.getD_eq_getD_getElem?, Array.getElem?_setIfInBounds]
     by_cases hji : i = j
     ·subst hji; simp [hlt]
     ·have : (j == i) = false := by simp; omega
      simp [hji, this]
    refine cd8 (by simp [hio]) heo hev hRel r1 fun φ2 I2 a2 w2 e1 e2 => ?_
    refine ih _ φ2 I2 a2 w2 (by simp [hlsz]) ?_ ?_ ?_ ?_
    ·-- one less
     have hcnt : ∀ (xs : List Nat), xs.Nodup → i ∈ xs → ((xs.filter fun j => !(listed.getD j false || j == i)).length + 1 = (xs.filter fun j => !listed.getD j false).length) := by
      intro xs
      induction xs with
      | nil => intro _ h; simp at h
      | cons x xs ihx =>
       intro hnd hm
       rw [List.nodup_cons] at hnd
       by_cases hxi : x = i
       ·subst hxi
        have hrest : xs.filter (fun j => !(listed.getD j false || j == x)) = xs.filter fun j => !listed.getD j false := by
         apply List.filter_congr
         intro j hj
         have : j ≠ x := fun e => hnd.1 (e ▸ hj)
         simp [this]
        simp only [List.filter_cons, hSi, beq_self_eq_true, Bool.or_true, Bool.not_true, Bool.false_eq_true, if_false, Bool.not_false, if_true, List.length_cons, hrest]
       ·have hm' : i ∈ xs := by
         rcases List.mem_cons.1 hm with h | h
         ·exact absurd h.symm hxi
         ·exact h
        have := ihx hnd.2 hm'
        have hb : (x == i) = false := by simp [hxi]
        simp only [List.filter_cons, hb, Bool.or_false]
        split
        ·simp only [List.length_cons]; omega
        ·exact this
     have := hcnt (List.range l.length) List.nodup_range (List.mem_range.2 hil)
     simp only [hnew]
     omega
    ·intro j hj hSj k hk
     rw [hnew] at hSj ⊢
     simp only [Bool.or_eq_true, beq_iff_eq] at hSj ⊢
     rcases hSj with hSj | hSj
     ·exact .inl (hSc j hj hSj k hk)
     ·subst hSj; exact .inl (hSd k hk)
    ·simpa only [hnew] using e1
    ·rw [r2] at e2
     simpa only [hnew] using e2
 have hnone : ∀ i, (Array.replicate ops.size false).getD i false = false := by
  intro i
  by_cases hi : i < ops.size
  ·simp [hi]
  ·simp [Array.getD_eq_getD_getElem?, hi]
 have e0 : eta (fun i => (Array.replicate ops.size false).getD i false) = H := by
  rw [hpAt _ 0 (Nat.zero_le _) fun c _ _ => by rw [hnone]; simp]
  exact g0
 have s0 : stS val (fun i => (Array.replicate ops.size false).getD i false) 0 l s = s := by
  have : ∀ (l : List EOper) (i : Nat) (s : aa2), stS val (fun i => (Array.replicate ops.size false).getD i false) i l s = s := by
   intro l
   induction l with
   | nil => intro i s; rfl
   | cons o l ih =>
    intro i s
    rw [stS, if_neg (by rw [hnone]; simp)]
    exact ih _ _
  exact this _ _ _
 refine main ops.size _ φ I a { w with drawn := w.drawn + 1 } (by simp [hsz]) ?_ (fun i _ hx => by rw [hnone] at hx; simp at hx) ?_ ?_
 ·have : (List.range l.length).filter (fun i => !(Array.replicate ops.size false).getD i false) = List.range l.length := List.filter_eq_self.2 fun i _ => by rw [hnone]; rfl
  rw [this, List.length_range]; exact hsz
 ·rw [e0]; exact Evo.drew
 ·rw [e0, s0]; exact hR.drew
end
end Abs
