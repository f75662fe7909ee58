/- Regions whose order is drawn: whatever the order, the text's answer. -/
import Derived.Test.YtcjnpmaljfkpgaaDoorAbs12
namespace Abs
open Go

def EOp.opds : EOp → List EOpd
  | .mov x | .box x | .load _ _ x | .nilchk x | .un _ x | .cvtInt _ x | .iface _ x | .faddr _ x | .field _ _ _ x | .extract x _ | .len _ x | .panic x => [x]
  | .pick a b c => [a, b, c]
  | .build _ ps => ps.map (·.2.2)
  | .bsl _ _ _ ps _ => ps.map (·.2)
  | .store _ a b | .bin _ a b | .cmpBool _ a b | .cmpAgg _ _ a b | .cmpNil _ _ a b | .iaddrA _ _ a b | .iaddrS _ a b | .idxA _ _ _ a b | .idxStr a b | .append _ _ a b | .copy a b => [a, b]
  | .func _ a b => a ++ b
  | .slStr x lo hi | .slSl _ x lo hi => [x] ++ lo.toList ++ hi.toList
  | .call f args => f :: args
  | .mkmap => []
  | .lookup _ _ _ _ a b => [a, b]
  | .mapset _ _ a b c => [a, b, c]

theorem evOp_congr {ρ ρ' : EOpd → EV} {H : Heap} {op : EOp} (h : ∀ x ∈ op.opds, ρ x = ρ' x) : evOp ρ H op = evOp ρ' H op := by
  cases op <;> simp only [EOp.opds, List.mem_cons, List.not_mem_nil, or_false, forall_eq_or_imp, forall_eq, List.mem_append, List.mem_map, Option.mem_toList] at h <;> try (simp only [evOp, h]; done)
  case build zs ps =>
    have e1 : (ps.map fun p => (p.1, p.2.1, ρ p.2.2)) = ps.map fun p => (p.1, p.2.1, ρ' p.2.2) := List.map_congr_left fun p hp => by rw [h _ ⟨p, hp, rfl⟩]
    have e2 : (ps.all fun p => (ρ p.2.2).cells.all EV.one) = ps.all fun p => (ρ' p.2.2).cells.all EV.one := by
      rw [Bool.eq_iff_iff, List.all_eq_true, List.all_eq_true]
      exact ⟨fun a p hp => by rw [← h _ ⟨p, hp, rfl⟩]; exact a p hp, fun a p hp => by rw [h _ ⟨p, hp, rfl⟩]; exact a p hp⟩
    simp only [evOp, e1, e2]
  case bsl sz z len ps own =>
    have e1 : (ps.map fun p => (p.1, ρ p.2)) = ps.map fun p => (p.1, ρ' p.2) := List.map_congr_left fun p hp => by rw [h _ ⟨p, hp, rfl⟩]
    have e2 : (ps.all fun p => (ρ p.2).cells.length == sz && (ρ p.2).cells.all EV.one) = ps.all fun p => (ρ' p.2).cells.length == sz && (ρ' p.2).cells.all EV.one := by
      rw [Bool.eq_iff_iff, List.all_eq_true, List.all_eq_true]
      exact ⟨fun a p hp => by rw [← h _ ⟨p, hp, rfl⟩]; exact a p hp, fun a p hp => by rw [h _ ⟨p, hp, rfl⟩]; exact a p hp⟩
    simp only [evOp, e1, e2]
  case func f a b =>
    have e1 : a.map ρ = a.map ρ' := List.map_congr_left fun p hp => h p (.inl hp)
    have e2 : b.map ρ = b.map ρ' := List.map_congr_left fun p hp => h p (.inr hp)
    simp only [evOp, e1, e2]
  case slStr x lo hi =>
    have e1 : lo.map ρ = lo.map ρ' := by cases lo <;> simp_all
    have e2 : hi.map ρ = hi.map ρ' := by cases hi <;> simp_all
    simp only [evOp, e1, e2, h x (.inl (.inl rfl))]
  case slSl sz x lo hi =>
    have e1 : lo.map ρ = lo.map ρ' := by cases lo <;> simp_all
    have e2 : hi.map ρ = hi.map ρ' := by cases hi <;> simp_all
    simp only [evOp, e1, e2, h x (.inl (.inl rfl))]

/-- An operation with one answer. -/
def Acts (P : Program) (γ : Nat → EV) (s : Slots) (H : Heap) (op : EOp) (v : EV) (H' : Heap) : Prop :=
  match op with
  | .call f args =>
    match ev γ s f with
    | .func (.func g) first cap => CallsA P γ g (first ++ args.map (ev γ s) ++ cap) H fun er H1 => er = .ret v ∧ H1 = H'
    | _ => False
  | op => evOp (ev γ s) H op = some (v, H')

/-- .. under its guard. -/
def Runs (P : Program) (γ : Nat → EV) (s : Slots) (H : Heap) (o : EOper) (v : EV) (H' : Heap) : Prop :=
  match o.guard with
  | none => Acts P γ s H o.op v H'
  | some (d, b) => (∃ t, s d = .bool t ∧ (t = b → Acts P γ s H o.op v H') ∧ (t ≠ b → v = .tup [] ∧ H' = H)) ∨ (s d = .tup [] ∧ v = .tup [] ∧ H' = H)

def EOpd.tmp : EOpd → Option Nat
  | .t n => some n
  | _ => none

def EOper.reads (o : EOper) : List Nat := (o.op.opds.filterMap EOpd.tmp) ++ (match o.guard with | some (d, _) => [d] | none => [])

theorem ev_congr {γ : Nat → EV} {s s' : Slots} {x : EOpd} (h : ∀ t, x.tmp = some t → s t = s' t) : ev γ s x = ev γ s' x := by
  cases x <;> first | rfl | exact h _ rfl

theorem Acts.congr {P : Program} {γ : Nat → EV} {s s' : Slots} {H H' : Heap} {op : EOp} {v : EV} (h : ∀ t ∈ op.opds.filterMap EOpd.tmp, s t = s' t) (g : Acts P γ s H op v H') : Acts P γ s' H op v H' := by
  have hx : ∀ x ∈ op.opds, ev γ s x = ev γ s' x := fun x hx => ev_congr fun t ht => h t (List.mem_filterMap.2 ⟨x, hx, ht⟩)
  cases op with
  | call f args =>
    simp only [Acts] at g ⊢
    rw [← hx f (by simp [EOp.opds]), ← List.map_congr_left (fun x hx' => hx x (by simp [EOp.opds, hx']))]
    exact g
  | _ =>
    simp only [Acts] at g ⊢
    rw [← evOp_congr hx]
    exact g

theorem Runs.congr {P : Program} {γ : Nat → EV} {s s' : Slots} {H H' : Heap} {o : EOper} {v : EV} (h : ∀ t ∈ o.reads, s t = s' t) (g : Runs P γ s H o v H') : Runs P γ s' H o v H' := by
  have h1 : ∀ t ∈ o.op.opds.filterMap EOpd.tmp, s t = s' t := fun t ht => h t (List.mem_append_left _ ht)
  unfold Runs at g ⊢
  cases hg : o.guard with
  | none => rw [hg] at g; exact Acts.congr h1 g
  | some p =>
    obtain ⟨d, b⟩ := p
    rw [hg] at g
    rcases g with ⟨t, g1, g2, g3⟩ | ⟨g1, g2⟩
    · exact .inl ⟨t, by rw [← h d (by simp [EOper.reads, hg])]; exact g1, fun e => Acts.congr h1 (g2 e), g3⟩
    · exact .inr ⟨by rw [← h d (by simp [EOper.reads, hg])]; exact g1, g2⟩

/-- The slots behind those operations of a region that have been carried out. -/
def stS (val : Nat → EV) (S : Nat → Bool) : Nat → List EOper → Slots → Slots
  | _, [], s => s
  | i, o :: l, s => stS val S (i + 1) l (if S i then putA s o.dst (val i) else s)

theorem putA_ne {s : Slots} {d : Option Nat} {v : EV} {t : Nat} (h : d ≠ some t) : putA s d v t = s t := by
  cases d with
  | none => rfl
  | some d => simp [putA, upd]; intro e; exact absurd (by rw [e]) h

/-- The value of a slot that nobody of the rest writes. -/
theorem stS_skip {val : Nat → EV} {S : Nat → Bool} {t : Nat} : ∀ (l : List EOper) (i : Nat) (s : Slots), (∀ (k : Nat) (o : EOper), l[k]? = some o → S (i + k) = true → o.dst ≠ some t) → stS val S i l s t = s t
  | [], _, _, _ => rfl
  | o :: l, i, s, h => by
    rw [stS, stS_skip l (i + 1) _ fun k o' hk hs => h (k + 1) o' (by simpa using hk) (by rw [← hs]; congr 1; omega)]
    split
    · rename_i hi
      exact putA_ne (h 0 o rfl (by simpa using hi))
    · rfl

/-- The last writer in the text tells. -/
theorem stS_at {val : Nat → EV} {S : Nat → Bool} {t : Nat} : ∀ (l : List EOper) (i j : Nat) (s : Slots) (o : EOper), l[j]? = some o → o.dst = some t → S (i + j) = true →
    (∀ (k : Nat) (o' : EOper), j < k → l[k]? = some o' → S (i + k) = true → o'.dst ≠ some t) → stS val S i l s t = val (i + j)
  | [], _, _, _, _, h, _, _, _ => by simp at h
  | o' :: l, i, 0, s, o, h, hd, hS, hl => by
    simp only [List.getElem?_cons_zero, Option.some.injEq] at h
    subst h
    simp only [Nat.add_zero] at hS ⊢
    rw [stS, stS_skip l (i + 1) _ fun k o'' hk hs => hl (k + 1) o'' (by omega) (by simpa using hk) (by rw [← hs]; congr 1; omega), if_pos hS, hd]
    simp [putA, upd]
  | o' :: l, i, j + 1, s, o, h, hd, hS, hl => by
    rw [stS, stS_at l (i + 1) j _ o (by simpa using h) hd (by rw [← hS]; congr 1; omega) fun k o'' hk hk' hs => hl (k + 1) o'' (by omega) (by simpa using hk') (by rw [← hs]; congr 1; omega)]
    congr 1
    omega

end Abs
